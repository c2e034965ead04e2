import Derived.Test.YtegiadfbniamkaaGreatDoorRaEq
import Derived.Test.YtegiadfbniamkaaGreatDoorK4
import Derived.Test.YtegiadfbniamkaaGreatDoorShf
/- What the functions of Go's library that are taken by contract come to. -/
namespace Go.Proofs.YtegiadfbniamkaaGreatDoor.Eq
open Go Go.Ra
set_option linter.unusedVariables false

theorem hmix : Tryz.prog.follows .mixedOrders = true := by kernel_rfl

/-- What is known of memory. -/
instance known : Known := ⟨fun w S => True ∧ KnowMax 0 w S, fun h1 h2 h => ⟨trivial, KnowMax.mono h1 h2 h.2⟩⟩

theorem gv_ok (u : Nat) (g : (A.var u).PT → Option (A.var u).RT) (h : A.gv u = some g) : Sound Tryz.prog (A.var u) g := by
  have h' : gvT u = some g := h
  unfold gvT at h'
  split at h'
  · rename_i hu
    subst hu
    injection h' with h'
    subst h'
    show Sound Tryz.prog var219 g219
    exact sound_idx Tryz.lays217
  rename_i hu
  split at h'
  · rename_i hu
    subst hu
    injection h' with h'
    subst h'
    show Sound Tryz.prog var187 g187
    exact sound_atoi Tryz.lays172
  rename_i hu
  split at h'
  · rename_i hu
    subst hu
    injection h' with h'
    subst h'
    show Sound Tryz.prog var160 g160
    exact sound_replace { Tryz.laysM155 with } Tryz.Builder_Extra_155 rfl (fun w S h => h.2)
  rename_i hu
  simp at h'
end Go.Proofs.YtegiadfbniamkaaGreatDoor.Eq
