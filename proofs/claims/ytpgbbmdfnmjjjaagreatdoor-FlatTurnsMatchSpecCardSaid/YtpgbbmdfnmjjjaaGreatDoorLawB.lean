/- What the program's text says of the functions that the law reaches. -/
import Derived.Test.YtpgbbmdfnmjjjaaGreatDoorTie
import Derived.Test.YtpgbbmdfnmjjjaaGreatDoorCards
import Derived.WalkKit
import Derived.ProofKit
import Derived.Lay
namespace Go.Proofs.YtpgbbmdfnmjjjaaGreatDoor.flatTurnsMatchSpec
open Go Go.ChangeShapes Go.WideShapes Go.ChangeAt Go.RowKit
theorem facts1 : Tryz.pinned.checked.prog.inPlace 4 = Rows.flatTurnsMatchSpecRow.inPlace := by kernel_rfl
theorem facts2 : Tryz.pinned.checked.prog.unfollowed 4 = Rows.flatTurnsMatchSpecRow.unfollowed := by kernel_rfl
theorem facts3 : Tryz.pinned.checked.prog.recurses 4 = Rows.flatTurnsMatchSpecRow.recurses := by kernel_rfl
theorem facts4 : Tryz.pinned.checked.prog.varsNamed 4 = Rows.flatTurnsMatchSpecRow.named := by kernel_rfl
theorem facts : joinedFacts Tryz.pinned.checked.prog 4 Tryz.f4 Rows.flatTurnsMatchSpecSpec Rows.flatTurnsMatchSpecRow = true := by
  rw [joinedFacts, facts1, facts2, facts3, facts4]
  kernel_rfl
end Go.Proofs.YtpgbbmdfnmjjjaaGreatDoor.flatTurnsMatchSpec
