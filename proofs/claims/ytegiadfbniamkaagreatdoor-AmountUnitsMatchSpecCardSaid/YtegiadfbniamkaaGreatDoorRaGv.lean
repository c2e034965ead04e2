import Derived.Test.YtegiadfbniamkaaGreatDoorRaEq
import Derived.Test.YtegiadfbniamkaaGreatDoorK4
import Derived.Test.YtegiadfbniamkaaGreatDoorShf
/- What the functions of Go's library that are taken by contract come to. -/
namespace Go.Proofs.YtegiadfbniamkaaGreatDoor.Eq
open Go Go.Ra
set_option linter.unusedVariables false

theorem hmix : Tryz.prog.follows .mixedOrders = true := by kernel_rfl

/-- What is known of memory. -/
instance known : Known := ⟨fun w S => True ∧ True, fun h1 h2 h => ⟨trivial, trivial⟩⟩

theorem gv_ok (u : Nat) (g : (A.var u).PT → Option (A.var u).RT) (h : A.gv u = some g) : Sound Tryz.prog (A.var u) g := by
  have h' : gvT u = some g := h
  unfold gvT at h'
  split at h'
  · rename_i hu
    subst hu
    injection h' with h'
    subst h'
    show Sound Tryz.prog var219 g219
    exact sound_idx Tryz.lays217
  rename_i hu
  split at h'
  · rename_i hu
    subst hu
    injection h' with h'
    subst h'
    show Sound Tryz.prog var173 g173
    exact sound_cmp Tryz.lays213
  rename_i hu
  split at h'
  · rename_i hu
    subst hu
    injection h' with h'
    subst h'
    show Sound Tryz.prog var172 g172
    exact sound_trim Tryz.lays160 (fun w => by kernel_rfl) (by kernel_rfl)
  rename_i hu
  simp at h'
end Go.Proofs.YtegiadfbniamkaaGreatDoor.Eq
