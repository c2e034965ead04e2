/- The row, from the run and the text's facts. -/
import Derived.Test.YtgoepklennckmaaGreatDoorLawA
import Derived.Test.YtgoepklennckmaaGreatDoorLawB
import Derived.Test.YtgoepklennckmaaGreatDoorTie
import Derived.Test.YtgoepklennckmaaGreatDoorCards
import Derived.Test.YtgoepklennckmaaGreatDoorP3
import Derived.Test.YtgoepklennckmaaGreatDoorRaGv
import Derived.WalkKit
import Derived.ProofKit
import Derived.Lay
namespace Go.Proofs.YtgoepklennckmaaGreatDoor.topFlatOrdersAddUp
open Go Go.Ra Go.ChangeShapes Go.WideShapes Go.ChangeAt Go.RowKit
set_option linter.unusedVariables false

theorem over : Rows.topFlatOrdersAddUpRow.holds Tryz.pinned (OpenSpec.ofChange Rows.topFlatOrdersAddUpSpec) :=
  OpenClaim.holds_of_wide 3 Tryz.f3 rfl rfl rfl rfl rfl rfl rfl ⟨rfl, rfl, rfl, rfl, rfl⟩ rfl rfl rfl rfl rfl (by kernel_rfl) Tryz.func3 facts
    (of_decide_eq_true (by kernel_rfl)) (by unfold Func.isWrapper; first | (rw [if_pos (by decide +kernel)]; kernel_rfl) | (rw [if_neg (by decide +kernel)]; exact ⟨rfl, rfl⟩))
    (fun os started H enc _ => lifted os started H enc)
theorem proved : Rows.TopFlatOrdersAddUpSaid := over
end Go.Proofs.YtgoepklennckmaaGreatDoor.topFlatOrdersAddUp
