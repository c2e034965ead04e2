/- What the program's text says of the functions that the law reaches. -/
import Derived.Test.YtpgbbmdfnmjjjaaGreatDoorTie
import Derived.Test.YtpgbbmdfnmjjjaaGreatDoorCards
import Derived.WalkKit
import Derived.ProofKit
import Derived.Lay
namespace Go.Proofs.YtpgbbmdfnmjjjaaGreatDoor.flatOrdersMatchSpec
open Go Go.ChangeShapes Go.WideShapes Go.ChangeAt Go.RowKit
theorem facts1 : Tryz.pinned.checked.prog.inPlace 5 = Rows.flatOrdersMatchSpecRow.inPlace := by kernel_rfl
theorem facts2 : Tryz.pinned.checked.prog.unfollowed 5 = Rows.flatOrdersMatchSpecRow.unfollowed := by kernel_rfl
theorem facts3 : Tryz.pinned.checked.prog.recurses 5 = Rows.flatOrdersMatchSpecRow.recurses := by kernel_rfl
theorem facts4 : Tryz.pinned.checked.prog.varsNamed 5 = Rows.flatOrdersMatchSpecRow.named := by kernel_rfl
theorem facts : joinedFacts Tryz.pinned.checked.prog 5 Tryz.f5 Rows.flatOrdersMatchSpecSpec Rows.flatOrdersMatchSpecRow = true := by
  rw [joinedFacts, facts1, facts2, facts3, facts4]
  kernel_rfl
end Go.Proofs.YtpgbbmdfnmjjjaaGreatDoor.flatOrdersMatchSpec
