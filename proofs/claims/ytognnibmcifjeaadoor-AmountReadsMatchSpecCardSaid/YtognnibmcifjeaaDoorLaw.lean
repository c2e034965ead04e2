/- AmountReadsMatchSpec: for every input the law returns true, and each argument reads behind the call as it read before. The listed variables start as the program's text lays them; the card ties them to it. -/
import Derived.Test.YtognnibmcifjeaaDoorLawC
import Derived.Test.YtognnibmcifjeaaDoorTie
import Derived.Test.YtognnibmcifjeaaDoorCards
import Derived.WalkKit
import Derived.ProofKit
import Derived.Lay
namespace Go.Proofs.YtognnibmcifjeaaDoor.amountReadsMatchSpec
open Go Go.Ra Go.ChangeShapes Go.WideShapes Go.ChangeAt Go.RowKit
set_option linter.unusedVariables false

theorem carded : Rows.AmountReadsMatchSpecCardSaid :=
  Claim7.holds_tied_plain_at .later [] [.data, .pinned] true (true, "3bc2e163dae3fd3483d6001661bcd275fac55fc31e058253bd34f2a5dff80dac") false
    over (fun _ h => by cases h) (by kernel_rfl) (fun _ h => by cases h) amountReadsMatchSpec_row_tie rfl ⟨rfl, rfl⟩ (by kernel_rfl) rfl
    (fun f fn hf hfn => by
      obtain rfl : f = 3 := Option.some.inj ((show Tryd.prog.funcNamed Rows.amountReadsMatchSpecRow.func = some 3 by kernel_rfl).symm.trans hf) |>.symm
      obtain rfl : fn = Tryd.f3 := (Option.some.inj (Tryd.func3.symm.trans hfn)).symm
      exact ⟨by kernel_rfl, fun j t ht => by
        have hm : t ∈ Tryd.f3.params.toList := by simpa using Array.mem_of_getElem? ht
        have hall : (Tryd.f3.params.toList.all fun u => !Tryd.prog.wantsStandIn u) = true := by kernel_rfl
        exact (show Tryd.prog.wantsStandIn t = false by simpa using List.all_eq_true.1 hall t hm)⟩)
    (by kernel_rfl)
#print axioms carded
end Go.Proofs.YtognnibmcifjeaaDoor.amountReadsMatchSpec
namespace Go.Proofs.YtognnibmcifjeaaDoor
/-- The card, under a short name, for the claim. -/
theorem amountReadsMatchSpec_holds : Rows.AmountReadsMatchSpecCardSaid := amountReadsMatchSpec.carded
end Go.Proofs.YtognnibmcifjeaaDoor
