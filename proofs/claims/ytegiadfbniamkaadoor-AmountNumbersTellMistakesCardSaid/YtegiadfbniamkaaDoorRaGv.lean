import Derived.Test.YtegiadfbniamkaaDoorRaEq
import Derived.Test.YtegiadfbniamkaaDoorK4
import Derived.Test.YtegiadfbniamkaaDoorShf
/- What the functions of Go's library that are taken by contract come to. -/
namespace Go.Proofs.YtegiadfbniamkaaDoor.Eq
open Go Go.Ra
set_option linter.unusedVariables false

theorem hmix : Tryd.prog.follows .mixedOrders = true := by kernel_rfl

/-- What is known of memory. -/
instance known : Known := ⟨fun w S => KnowTab Tryd.prog w S ∧ True, fun h1 h2 h => ⟨KnowTab.mono h1 h2 h.1, trivial⟩⟩

theorem gv_ok (u : Nat) (g : (A.var u).PT → Option (A.var u).RT) (h : A.gv u = some g) : Sound Tryd.prog (A.var u) g := by
  have h' : gvT u = some g := h
  unfold gvT at h'
  split at h'
  · rename_i hu
    subst hu
    injection h' with h'
    subst h'
    show Sound Tryd.prog var141 g141
    exact sound_idx Tryd.lays217
  rename_i hu
  split at h'
  · rename_i hu
    subst hu
    injection h' with h'
    subst h'
    show Sound Tryd.prog var83 g83
    exact sound_trim Tryd.lays160 (fun w => by kernel_rfl) (by kernel_rfl)
  rename_i hu
  split at h'
  · rename_i hu
    subst hu
    injection h' with h'
    subst h'
    show Sound Tryd.prog var79 g79
    exact sound_repeat Tryd.lays105 Tryd.Builder_Extra_105
  rename_i hu
  split at h'
  · rename_i hu
    subst hu
    injection h' with h'
    subst h'
    show Sound Tryd.prog var57 g57
    exact sound_itoa Tryd.laysM171 (fun w S h => h.1)
  rename_i hu
  simp at h'

theorem pr_ok (f : FuncId) (p : Prim) (h : A.pr f = some p) : PrimOk Tryd.prog f p := by
  have h' : prT f = some p := h
  unfold prT at h'
  simp at h'
end Go.Proofs.YtegiadfbniamkaaDoor.Eq
