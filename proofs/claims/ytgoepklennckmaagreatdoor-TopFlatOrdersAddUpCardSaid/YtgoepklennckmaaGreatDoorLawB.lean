/- What the program's text says of the functions that the law reaches. -/
import Derived.Test.YtgoepklennckmaaGreatDoorTie
import Derived.Test.YtgoepklennckmaaGreatDoorCards
import Derived.WalkKit
import Derived.ProofKit
import Derived.Lay
namespace Go.Proofs.YtgoepklennckmaaGreatDoor.topFlatOrdersAddUp
open Go Go.ChangeShapes Go.WideShapes Go.ChangeAt Go.RowKit
theorem facts1 : Tryz.pinned.checked.prog.inPlace 3 = Rows.topFlatOrdersAddUpRow.inPlace := by kernel_rfl
theorem facts2 : Tryz.pinned.checked.prog.unfollowed 3 = Rows.topFlatOrdersAddUpRow.unfollowed := by kernel_rfl
theorem facts3 : Tryz.pinned.checked.prog.recurses 3 = Rows.topFlatOrdersAddUpRow.recurses := by kernel_rfl
theorem facts4 : Tryz.pinned.checked.prog.varsNamed 3 = Rows.topFlatOrdersAddUpRow.named := by kernel_rfl
theorem facts : joinedFacts Tryz.pinned.checked.prog 3 Tryz.f3 Rows.topFlatOrdersAddUpSpec Rows.topFlatOrdersAddUpRow = true := by
  rw [joinedFacts, facts1, facts2, facts3, facts4]
  kernel_rfl
end Go.Proofs.YtgoepklennckmaaGreatDoor.topFlatOrdersAddUp
