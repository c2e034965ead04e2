import Derived.Test.YtgoepklennckmaaGreatDoorRaEq
import Derived.Test.YtgoepklennckmaaGreatDoorK4
import Derived.Test.YtgoepklennckmaaGreatDoorShf
/- What the functions of Go's library that are taken by contract come to. -/
namespace Go.Proofs.YtgoepklennckmaaGreatDoor.Eq
open Go Go.Ra
set_option linter.unusedVariables false

theorem hmix : Tryz.prog.follows .mixedOrders = true := by kernel_rfl

/-- What is known of memory. -/
instance known : Known := ⟨fun w S => KnowTab Tryz.prog w S ∧ KnowMax 1 w S, fun h1 h2 h => ⟨KnowTab.mono h1 h2 h.1, KnowMax.mono h1 h2 h.2⟩⟩

theorem gv_ok (u : Nat) (g : (A.var u).PT → Option (A.var u).RT) (h : A.gv u = some g) : Sound Tryz.prog (A.var u) g := by
  have h' : gvT u = some g := h
  unfold gvT at h'
  split at h'
  · rename_i hu
    subst hu
    injection h' with h'
    subst h'
    show Sound Tryz.prog var192 g192
    exact sound_atoi Tryz.lays172
  rename_i hu
  split at h'
  · rename_i hu
    subst hu
    injection h' with h'
    subst h'
    show Sound Tryz.prog var154 g154
    exact sound_idx Tryz.lays217
  rename_i hu
  split at h'
  · rename_i hu
    subst hu
    injection h' with h'
    subst h'
    show Sound Tryz.prog var128 g128
    exact sound_replace { Tryz.laysM155 with } Tryz.Builder_Extra_155 rfl (fun w S h => h.2)
  rename_i hu
  split at h'
  · rename_i hu
    subst hu
    injection h' with h'
    subst h'
    show Sound Tryz.prog var67 g67
    exact sound_repeat Tryz.lays105 Tryz.Builder_Extra_105
  rename_i hu
  split at h'
  · rename_i hu
    subst hu
    injection h' with h'
    subst h'
    show Sound Tryz.prog var60 g60
    exact sound_trim Tryz.lays160 (fun w => by kernel_rfl) (by kernel_rfl)
  rename_i hu
  split at h'
  · rename_i hu
    subst hu
    injection h' with h'
    subst h'
    show Sound Tryz.prog var19 g19
    exact sound_itoa Tryz.laysM171 (fun w S h => h.1)
  rename_i hu
  simp at h'

theorem pr_ok (f : FuncId) (p : Prim) (h : A.pr f = some p) : PrimOk Tryz.prog f p := by
  have h' : prT f = some p := h
  unfold prT at h'
  split at h'
  · rename_i hf
    subst hf
    injection h' with h'
    subst h'
    exact Ra.prim_bStr Tryz.lays169 Tryz.Builder_Extra_169
  rename_i hf
  split at h'
  · rename_i hf
    subst hf
    injection h' with h'
    subst h'
    exact Ra.prim_wStr (show Go.Proofs.Lays.n166 Tryz.prog Tryz.lays105_ren from { Tryz.lays105 with }) Tryz.Builder_Extra_105
  rename_i hf
  split at h'
  · rename_i hf
    subst hf
    injection h' with h'
    subst h'
    exact Ra.prim_bLen Tryz.lays170
  rename_i hf
  simp at h'
end Go.Proofs.YtgoepklennckmaaGreatDoor.Eq
