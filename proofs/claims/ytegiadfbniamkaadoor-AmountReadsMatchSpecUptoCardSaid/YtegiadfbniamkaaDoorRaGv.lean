import Derived.Test.YtegiadfbniamkaaDoorRaEq
import Derived.Test.YtegiadfbniamkaaDoorK4
import Derived.Test.YtegiadfbniamkaaDoorShf
import Derived.Test.YtegiadfbniamkaaDoorUpto
/- What the functions of Go's library that are taken by contract come to. -/
namespace Go.Proofs.YtegiadfbniamkaaDoor.Eq
open Go Go.Ra
set_option linter.unusedVariables false

theorem hmix : Tryd.prog.follows .mixedOrders = true := by kernel_rfl

/-- What is known of memory. -/
instance known : Known := ⟨fun w S => True ∧ KnowMax 1 w S, fun h1 h2 h => ⟨trivial, KnowMax.mono h1 h2 h.2⟩⟩

theorem gv_ok (u : Nat) (g : (A.var u).PT → Option (A.var u).RT) (h : A.gv u = some g) : Sound Tryd.prog (A.var u) g := by
  have h' : gvT u = some g := h
  unfold gvT at h'
  split at h'
  · rename_i hu
    subst hu
    injection h' with h'
    subst h'
    show Sound Tryd.prog var142 g142
    exact sound_split Tryd.laysM146 rfl (fun w S h => h.2)
  rename_i hu
  split at h'
  · rename_i hu
    subst hu
    injection h' with h'
    subst h'
    show Sound Tryd.prog var141 g141
    exact sound_idx Tryd.lays217
  rename_i hu
  split at h'
  · rename_i hu
    subst hu
    injection h' with h'
    subst h'
    show Sound Tryd.prog var83 g83
    exact sound_trim Tryd.lays160 (fun w => by kernel_rfl) (by kernel_rfl)
  rename_i hu
  split at h'
  · rename_i hu
    subst hu
    injection h' with h'
    subst h'
    show Sound Tryd.prog var74 g74
    exact sound_replace { Tryd.laysM155 with } Tryd.Builder_Extra_155 rfl (fun w S h => h.2)
  rename_i hu
  simp at h'
end Go.Proofs.YtegiadfbniamkaaDoor.Eq
