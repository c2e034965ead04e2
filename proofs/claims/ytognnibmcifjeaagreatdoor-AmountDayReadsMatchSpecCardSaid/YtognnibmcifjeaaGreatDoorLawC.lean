/- The row, from the run and the text's facts. -/
import Derived.Test.YtognnibmcifjeaaGreatDoorLawA
import Derived.Test.YtognnibmcifjeaaGreatDoorLawB
import Derived.Test.YtognnibmcifjeaaGreatDoorTie
import Derived.Test.YtognnibmcifjeaaGreatDoorCards
import Derived.Test.YtognnibmcifjeaaGreatDoorP1
import Derived.Test.YtognnibmcifjeaaGreatDoorRaGv
import Derived.WalkKit
import Derived.ProofKit
import Derived.Lay
namespace Go.Proofs.YtognnibmcifjeaaGreatDoor.amountDayReadsMatchSpec
open Go Go.Ra Go.ChangeShapes Go.WideShapes Go.ChangeAt Go.RowKit
set_option linter.unusedVariables false

theorem over : Rows.amountDayReadsMatchSpecRow.holds Tryz.pinned (OpenSpec.ofChange Rows.amountDayReadsMatchSpecSpec) :=
  OpenClaim.holds_of_wide 3 Tryz.f3 rfl rfl rfl rfl rfl rfl rfl ⟨rfl, rfl, rfl, rfl, rfl⟩ rfl rfl rfl rfl rfl (by kernel_rfl) Tryz.func3 facts
    (of_decide_eq_true (by kernel_rfl)) (by unfold Func.isWrapper; first | (rw [if_pos (by decide +kernel)]; kernel_rfl) | (rw [if_neg (by decide +kernel)]; exact ⟨rfl, rfl⟩))
    (fun os started H enc _ => lifted os started H enc)
theorem proved : Rows.AmountDayReadsMatchSpecSaid := over
end Go.Proofs.YtognnibmcifjeaaGreatDoor.amountDayReadsMatchSpec
