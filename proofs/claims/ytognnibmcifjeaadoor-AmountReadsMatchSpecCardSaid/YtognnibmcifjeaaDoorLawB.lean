/- What the program's text says of the functions that the law reaches. -/
import Derived.Test.YtognnibmcifjeaaDoorTie
import Derived.Test.YtognnibmcifjeaaDoorCards
import Derived.WalkKit
import Derived.ProofKit
import Derived.Lay
namespace Go.Proofs.YtognnibmcifjeaaDoor.amountReadsMatchSpec
open Go Go.ChangeShapes Go.WideShapes Go.ChangeAt Go.RowKit
theorem facts1 : Tryd.pinned.checked.prog.inPlace 3 = Rows.amountReadsMatchSpecRow.inPlace := by kernel_rfl
theorem facts2 : Tryd.pinned.checked.prog.unfollowed 3 = Rows.amountReadsMatchSpecRow.unfollowed := by kernel_rfl
theorem facts3 : Tryd.pinned.checked.prog.recurses 3 = Rows.amountReadsMatchSpecRow.recurses := by kernel_rfl
theorem facts4 : Tryd.pinned.checked.prog.varsNamed 3 = Rows.amountReadsMatchSpecRow.named := by kernel_rfl
theorem facts : joinedFacts Tryd.pinned.checked.prog 3 Tryd.f3 Rows.amountReadsMatchSpecSpec Rows.amountReadsMatchSpecRow = true := by
  rw [joinedFacts, facts1, facts2, facts3, facts4]
  kernel_rfl
end Go.Proofs.YtognnibmcifjeaaDoor.amountReadsMatchSpec
