/- The row, from the run and the text's facts. -/
import Derived.Test.YtpgbbmdfnmjjjaaGreatDoorLawA
import Derived.Test.YtpgbbmdfnmjjjaaGreatDoorLawB
import Derived.Test.YtpgbbmdfnmjjjaaGreatDoorTie
import Derived.Test.YtpgbbmdfnmjjjaaGreatDoorCards
import Derived.Test.YtpgbbmdfnmjjjaaGreatDoorP3
import Derived.Test.YtpgbbmdfnmjjjaaGreatDoorRaGv
import Derived.WalkKit
import Derived.ProofKit
import Derived.Lay
namespace Go.Proofs.YtpgbbmdfnmjjjaaGreatDoor.flatOrdersMatchSpec
open Go Go.Ra Go.ChangeShapes Go.WideShapes Go.ChangeAt Go.RowKit
set_option linter.unusedVariables false

theorem over : Rows.flatOrdersMatchSpecRow.holds Tryz.pinned (OpenSpec.ofChange Rows.flatOrdersMatchSpecSpec) :=
  OpenClaim.holds_of_wide 5 Tryz.f5 rfl rfl rfl rfl rfl rfl rfl ⟨rfl, rfl, rfl, rfl, rfl⟩ rfl rfl rfl rfl rfl (by kernel_rfl) Tryz.func5 facts
    (of_decide_eq_true (by kernel_rfl)) (by unfold Func.isWrapper; first | (rw [if_pos (by decide +kernel)]; kernel_rfl) | (rw [if_neg (by decide +kernel)]; exact ⟨rfl, rfl⟩))
    (fun os started H enc _ => lifted os started H enc)
theorem proved : Rows.FlatOrdersMatchSpecSaid := over
end Go.Proofs.YtpgbbmdfnmjjjaaGreatDoor.flatOrdersMatchSpec
