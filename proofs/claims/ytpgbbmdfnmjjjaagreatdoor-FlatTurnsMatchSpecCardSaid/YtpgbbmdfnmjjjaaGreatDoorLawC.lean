/- The row, from the run and the text's facts. -/
import Derived.Test.YtpgbbmdfnmjjjaaGreatDoorLawA
import Derived.Test.YtpgbbmdfnmjjjaaGreatDoorLawB
import Derived.Test.YtpgbbmdfnmjjjaaGreatDoorTie
import Derived.Test.YtpgbbmdfnmjjjaaGreatDoorCards
import Derived.Test.YtpgbbmdfnmjjjaaGreatDoorP3
import Derived.Test.YtpgbbmdfnmjjjaaGreatDoorRaGv
import Derived.WalkKit
import Derived.ProofKit
import Derived.Lay
namespace Go.Proofs.YtpgbbmdfnmjjjaaGreatDoor.flatTurnsMatchSpec
open Go Go.Ra Go.ChangeShapes Go.WideShapes Go.ChangeAt Go.RowKit
set_option linter.unusedVariables false

theorem over : Rows.flatTurnsMatchSpecRow.holds Tryz.pinned (OpenSpec.ofChange Rows.flatTurnsMatchSpecSpec) :=
  OpenClaim.holds_of_wide 4 Tryz.f4 rfl rfl rfl rfl rfl rfl rfl ⟨rfl, rfl, rfl, rfl, rfl⟩ rfl rfl rfl rfl rfl (by kernel_rfl) Tryz.func4 facts
    (of_decide_eq_true (by kernel_rfl)) (by unfold Func.isWrapper; first | (rw [if_pos (by decide +kernel)]; kernel_rfl) | (rw [if_neg (by decide +kernel)]; exact ⟨rfl, rfl⟩))
    (fun os started H enc _ => lifted os started H enc)
theorem proved : Rows.FlatTurnsMatchSpecSaid := over
end Go.Proofs.YtpgbbmdfnmjjjaaGreatDoor.flatTurnsMatchSpec
