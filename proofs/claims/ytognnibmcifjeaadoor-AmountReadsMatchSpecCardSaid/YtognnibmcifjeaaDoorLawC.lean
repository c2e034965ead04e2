/- The row, from the run and the text's facts. -/
import Derived.Test.YtognnibmcifjeaaDoorLawA
import Derived.Test.YtognnibmcifjeaaDoorLawB
import Derived.Test.YtognnibmcifjeaaDoorTie
import Derived.Test.YtognnibmcifjeaaDoorCards
import Derived.Test.YtognnibmcifjeaaDoorP1
import Derived.Test.YtognnibmcifjeaaDoorRaGv
import Derived.WalkKit
import Derived.ProofKit
import Derived.Lay
namespace Go.Proofs.YtognnibmcifjeaaDoor.amountReadsMatchSpec
open Go Go.Ra Go.ChangeShapes Go.WideShapes Go.ChangeAt Go.RowKit
set_option linter.unusedVariables false

theorem over : Rows.amountReadsMatchSpecRow.holds Tryd.pinned (OpenSpec.ofChange Rows.amountReadsMatchSpecSpec) :=
  OpenClaim.holds_of_wide 3 Tryd.f3 rfl rfl rfl rfl rfl rfl rfl ⟨rfl, rfl, rfl, rfl, rfl⟩ rfl rfl rfl rfl rfl (by kernel_rfl) Tryd.func3 facts
    (of_decide_eq_true (by kernel_rfl)) (by unfold Func.isWrapper; first | (rw [if_pos (by decide +kernel)]; kernel_rfl) | (rw [if_neg (by decide +kernel)]; exact ⟨rfl, rfl⟩))
    (fun os started H enc _ => lifted os started H enc)
theorem proved : Rows.AmountReadsMatchSpecSaid := over
end Go.Proofs.YtognnibmcifjeaaDoor.amountReadsMatchSpec
