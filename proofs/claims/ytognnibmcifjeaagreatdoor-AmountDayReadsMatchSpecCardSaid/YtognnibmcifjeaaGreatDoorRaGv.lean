import Derived.Test.YtognnibmcifjeaaGreatDoorRaEq
import Derived.Test.YtognnibmcifjeaaGreatDoorK4
import Derived.Test.YtognnibmcifjeaaGreatDoorShf
import Derived.Test.YtognnibmcifjeaaGreatDoorGrow
/- What the functions of Go's library that are taken by contract come to. -/
namespace Go.Proofs.YtognnibmcifjeaaGreatDoor.Eq
open Go Go.Ra
set_option linter.unusedVariables false

theorem hmix : Tryz.prog.follows .mixedOrders = true := by kernel_rfl

/-- What is known of memory. -/
instance known : Known := ⟨fun w S => True ∧ True, fun h1 h2 h => ⟨trivial, trivial⟩⟩

theorem gv_ok (u : Nat) (g : (A.var u).PT → Option (A.var u).RT) (h : A.gv u = some g) : Sound Tryz.prog (A.var u) g := by
  have h' : gvT u = some g := h
  unfold gvT at h'
  split at h'
  · rename_i hu
    subst hu
    injection h' with h'
    subst h'
    show Sound Tryz.prog var75 g75
    exact sound_idx Tryz.lays217
  rename_i hu
  split at h'
  · rename_i hu
    subst hu
    injection h' with h'
    subst h'
    show Sound Tryz.prog var51 g51
    exact sound_count Tryz.lays138
  rename_i hu
  split at h'
  · rename_i hu
    subst hu
    injection h' with h'
    subst h'
    show Sound Tryz.prog var32 g32
    exact sound_atoi Tryz.lays172
  rename_i hu
  simp at h'

theorem pr_ok (f : FuncId) (p : Prim) (h : A.pr f = some p) : PrimOk Tryz.prog f p := by
  have h' : prT f = some p := h
  unfold prT at h'
  split at h'
  · rename_i hf
    subst hf
    injection h' with h'
    subst h'
    exact Ra.prim_bStr Tryz.lays169 Tryz.Builder_Extra_169
  rename_i hf
  split at h'
  · rename_i hf
    subst hf
    injection h' with h'
    subst h'
    exact Ra.prim_wStr (show Go.Proofs.Lays.n166 Tryz.prog Tryz.lays155_ren from { Tryz.lays155 with }) Tryz.Builder_Extra_155
  rename_i hf
  split at h'
  · rename_i hf
    subst hf
    injection h' with h'
    subst h'
    exact Ra.prim_bGr Tryz.lays165 Tryz.Builder_Extra_165
  rename_i hf
  simp at h'
end Go.Proofs.YtognnibmcifjeaaGreatDoor.Eq
