/- AmountDayReadsMatchSpec: for every input the law returns true, and each argument reads behind the call as it read before. The listed variables start as the program's text lays them; the card ties them to it. -/
import Derived.Test.YtognnibmcifjeaaGreatDoorLawC
import Derived.Test.YtognnibmcifjeaaGreatDoorTie
import Derived.Test.YtognnibmcifjeaaGreatDoorCards
import Derived.WalkKit
import Derived.ProofKit
import Derived.Lay
namespace Go.Proofs.YtognnibmcifjeaaGreatDoor.amountDayReadsMatchSpec
open Go Go.Ra Go.ChangeShapes Go.WideShapes Go.ChangeAt Go.RowKit
set_option linter.unusedVariables false

theorem carded : Rows.AmountDayReadsMatchSpecCardSaid :=
  Claim7.holds_tied_plain_at .later [] [.data, .data, .data, .data, .sentinel, .sentinel, .pinned] true (true, "ec5f4325676aaf43dd698eff0ec7425770892df23b60f875638b04eca4b5ea99") true
    over (fun _ h => by cases h) (by kernel_rfl) (fun _ h => by cases h) amountDayReadsMatchSpec_row_tie rfl ⟨rfl, rfl⟩ (by kernel_rfl) rfl
    (fun f fn hf hfn => by
      obtain rfl : f = 3 := Option.some.inj ((show Tryz.prog.funcNamed Rows.amountDayReadsMatchSpecRow.func = some 3 by kernel_rfl).symm.trans hf) |>.symm
      obtain rfl : fn = Tryz.f3 := (Option.some.inj (Tryz.func3.symm.trans hfn)).symm
      exact ⟨by kernel_rfl, fun j t ht => by
        have hm : t ∈ Tryz.f3.params.toList := by simpa using Array.mem_of_getElem? ht
        have hall : (Tryz.f3.params.toList.all fun u => !Tryz.prog.wantsStandIn u) = true := by kernel_rfl
        exact (show Tryz.prog.wantsStandIn t = false by simpa using List.all_eq_true.1 hall t hm)⟩)
    (by kernel_rfl)
#print axioms carded
end Go.Proofs.YtognnibmcifjeaaGreatDoor.amountDayReadsMatchSpec
namespace Go.Proofs.YtognnibmcifjeaaGreatDoor
/-- The card, under a short name, for the claim. -/
theorem amountDayReadsMatchSpec_holds : Rows.AmountDayReadsMatchSpecCardSaid := amountDayReadsMatchSpec.carded
end Go.Proofs.YtognnibmcifjeaaGreatDoor
