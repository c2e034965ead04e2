/- What the program's text says of the functions that the law reaches. -/
import Derived.Test.YtebdajjgicfcaaaGreatDoorTie
import Derived.Test.YtebdajjgicfcaaaGreatDoorCards
import Derived.WalkKit
import Derived.ProofKit
import Derived.Lay
namespace Go.Proofs.YtebdajjgicfcaaaGreatDoor.flatClosedIsRight
open Go Go.ChangeShapes Go.WideShapes Go.ChangeAt Go.RowKit
theorem facts1 : Tryz.pinned.checked.prog.inPlace 5 = Rows.flatClosedIsRightRow.inPlace := by kernel_rfl
theorem facts2 : Tryz.pinned.checked.prog.unfollowed 5 = Rows.flatClosedIsRightRow.unfollowed := by kernel_rfl
theorem facts3 : Tryz.pinned.checked.prog.recurses 5 = Rows.flatClosedIsRightRow.recurses := by kernel_rfl
theorem facts4 : Tryz.pinned.checked.prog.varsNamed 5 = Rows.flatClosedIsRightRow.named := by kernel_rfl
theorem facts : joinedFacts Tryz.pinned.checked.prog 5 Tryz.f5 Rows.flatClosedIsRightSpec Rows.flatClosedIsRightRow = true := by
  rw [joinedFacts, facts1, facts2, facts3, facts4]
  kernel_rfl
end Go.Proofs.YtebdajjgicfcaaaGreatDoor.flatClosedIsRight
