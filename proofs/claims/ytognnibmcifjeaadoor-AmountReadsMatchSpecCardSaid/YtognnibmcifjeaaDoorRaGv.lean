import Derived.Test.YtognnibmcifjeaaDoorRaEq
import Derived.Test.YtognnibmcifjeaaDoorK4
import Derived.Test.YtognnibmcifjeaaDoorShf
import Derived.Test.YtognnibmcifjeaaDoorGrow
import Derived.Test.YtognnibmcifjeaaDoorUpto
/- What the functions of Go's library that are taken by contract come to. -/
namespace Go.Proofs.YtognnibmcifjeaaDoor.Eq
open Go Go.Ra
set_option linter.unusedVariables false

theorem hmix : Tryd.prog.follows .mixedOrders = true := by kernel_rfl

/-- What is known of memory. -/
instance known : Known := ⟨fun w S => True ∧ KnowMax 0 w S, fun h1 h2 h => ⟨trivial, KnowMax.mono h1 h2 h.2⟩⟩

theorem gv_ok (u : Nat) (g : (A.var u).PT → Option (A.var u).RT) (h : A.gv u = some g) : Sound Tryd.prog (A.var u) g := by
  have h' : gvT u = some g := h
  unfold gvT at h'
  split at h'
  · rename_i hu
    subst hu
    injection h' with h'
    subst h'
    show Sound Tryd.prog var59 g59
    exact sound_count Tryd.lays138
  rename_i hu
  split at h'
  · rename_i hu
    subst hu
    injection h' with h'
    subst h'
    show Sound Tryd.prog var45 g45
    exact sound_split Tryd.laysM146 rfl (fun w S h => h.2)
  rename_i hu
  split at h'
  · rename_i hu
    subst hu
    injection h' with h'
    subst h'
    show Sound Tryd.prog var44 g44
    exact sound_idx Tryd.lays217
  rename_i hu
  split at h'
  · rename_i hu
    subst hu
    injection h' with h'
    subst h'
    show Sound Tryd.prog var14 g14
    exact sound_trim Tryd.lays160 (fun w => by kernel_rfl) (by kernel_rfl)
  rename_i hu
  simp at h'

theorem pr_ok (f : FuncId) (p : Prim) (h : A.pr f = some p) : PrimOk Tryd.prog f p := by
  have h' : prT f = some p := h
  unfold prT at h'
  split at h'
  · rename_i hf
    subst hf
    injection h' with h'
    subst h'
    exact Ra.prim_bStr Tryd.lays169 Tryd.Builder_Extra_169
  rename_i hf
  split at h'
  · rename_i hf
    subst hf
    injection h' with h'
    subst h'
    exact Ra.prim_wStr (show Go.Proofs.Lays.n166 Tryd.prog Tryd.lays155_ren from { Tryd.lays155 with }) Tryd.Builder_Extra_155
  rename_i hf
  split at h'
  · rename_i hf
    subst hf
    injection h' with h'
    subst h'
    exact Ra.prim_bGr Tryd.lays165 Tryd.Builder_Extra_165
  rename_i hf
  simp at h'
end Go.Proofs.YtognnibmcifjeaaDoor.Eq
