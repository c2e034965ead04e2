import Derived.Test.YtebdajjgicfcaaaGreatDoorRaEq
import Derived.Test.YtebdajjgicfcaaaGreatDoorK4
import Derived.Test.YtebdajjgicfcaaaGreatDoorShf
import Derived.Test.YtebdajjgicfcaaaGreatDoorUpto
/- What the functions of Go's library that are taken by contract come to. -/
namespace Go.Proofs.YtebdajjgicfcaaaGreatDoor.Eq
open Go Go.Ra
set_option linter.unusedVariables false

theorem hmix : Tryz.prog.follows .mixedOrders = true := by kernel_rfl

/-- What is known of memory. -/
instance known : Known := ⟨fun w S => KnowTab Tryz.prog w S ∧ KnowMax 0 w S, fun h1 h2 h => ⟨KnowTab.mono h1 h2 h.1, KnowMax.mono h1 h2 h.2⟩⟩

theorem gv_ok (u : Nat) (g : (A.var u).PT → Option (A.var u).RT) (h : A.gv u = some g) : Sound Tryz.prog (A.var u) g := by
  have h' : gvT u = some g := h
  unfold gvT at h'
  split at h'
  · rename_i hu
    subst hu
    injection h' with h'
    subst h'
    show Sound Tryz.prog var215 g215
    exact sound_atoi Tryz.lays172
  rename_i hu
  split at h'
  · rename_i hu
    subst hu
    injection h' with h'
    subst h'
    show Sound Tryz.prog var148 g148
    exact sound_trim Tryz.lays160 (fun w => by kernel_rfl) (by kernel_rfl)
  rename_i hu
  split at h'
  · rename_i hu
    subst hu
    injection h' with h'
    subst h'
    show Sound Tryz.prog var143 g143
    exact sound_idx Tryz.lays217
  rename_i hu
  split at h'
  · rename_i hu
    subst hu
    injection h' with h'
    subst h'
    show Sound Tryz.prog var114 g114
    exact sound_replace { Tryz.laysM155 with } Tryz.Builder_Extra_155 rfl (fun w S h => h.2)
  rename_i hu
  split at h'
  · rename_i hu
    subst hu
    injection h' with h'
    subst h'
    show Sound Tryz.prog var112 g112
    exact sound_repeat Tryz.lays105 Tryz.Builder_Extra_105
  rename_i hu
  split at h'
  · rename_i hu
    subst hu
    injection h' with h'
    subst h'
    show Sound Tryz.prog var102 g102
    exact sound_split Tryz.laysM146 rfl (fun w S h => h.2)
  rename_i hu
  split at h'
  · rename_i hu
    subst hu
    injection h' with h'
    subst h'
    show Sound Tryz.prog var36 g36
    exact sound_itoa Tryz.laysM171 (fun w S h => h.1)
  rename_i hu
  simp at h'

theorem pr_ok (f : FuncId) (p : Prim) (h : A.pr f = some p) : PrimOk Tryz.prog f p := by
  have h' : prT f = some p := h
  unfold prT at h'
  simp at h'
end Go.Proofs.YtebdajjgicfcaaaGreatDoor.Eq
