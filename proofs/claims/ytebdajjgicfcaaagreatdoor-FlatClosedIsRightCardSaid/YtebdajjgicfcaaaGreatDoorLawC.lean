/- The row, from the run and the text's facts. -/
import Derived.Test.YtebdajjgicfcaaaGreatDoorLawA
import Derived.Test.YtebdajjgicfcaaaGreatDoorLawB
import Derived.Test.YtebdajjgicfcaaaGreatDoorTie
import Derived.Test.YtebdajjgicfcaaaGreatDoorCards
import Derived.Test.YtebdajjgicfcaaaGreatDoorP2
import Derived.Test.YtebdajjgicfcaaaGreatDoorRaGv
import Derived.WalkKit
import Derived.ProofKit
import Derived.Lay
namespace Go.Proofs.YtebdajjgicfcaaaGreatDoor.flatClosedIsRight
open Go Go.Ra Go.ChangeShapes Go.WideShapes Go.ChangeAt Go.RowKit
set_option linter.unusedVariables false

theorem over : Rows.flatClosedIsRightRow.holds Tryz.pinned (OpenSpec.ofChange Rows.flatClosedIsRightSpec) :=
  OpenClaim.holds_of_wide 5 Tryz.f5 rfl rfl rfl rfl rfl rfl rfl ⟨rfl, rfl, rfl, rfl, rfl⟩ rfl rfl rfl rfl rfl (by kernel_rfl) Tryz.func5 facts
    (of_decide_eq_true (by kernel_rfl)) (by unfold Func.isWrapper; first | (rw [if_pos (by decide +kernel)]; kernel_rfl) | (rw [if_neg (by decide +kernel)]; exact ⟨rfl, rfl⟩))
    (fun os started H enc _ => lifted os started H enc)
theorem proved : Rows.FlatClosedIsRightSaid := over
end Go.Proofs.YtebdajjgicfcaaaGreatDoor.flatClosedIsRight
