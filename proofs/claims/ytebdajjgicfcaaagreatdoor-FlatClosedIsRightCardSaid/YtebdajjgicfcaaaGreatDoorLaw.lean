/- FlatClosedIsRight: for every input the law returns true, and each argument reads behind the call as it read before. The listed variables start as the program's text lays them; the card ties them to it. -/
import Derived.Test.YtebdajjgicfcaaaGreatDoorLawC
import Derived.Test.YtebdajjgicfcaaaGreatDoorTie
import Derived.Test.YtebdajjgicfcaaaGreatDoorCards
import Derived.WalkKit
import Derived.ProofKit
import Derived.Lay
namespace Go.Proofs.YtebdajjgicfcaaaGreatDoor.flatClosedIsRight
open Go Go.Ra Go.ChangeShapes Go.WideShapes Go.ChangeAt Go.RowKit
set_option linter.unusedVariables false

theorem carded : Rows.FlatClosedIsRightCardSaid :=
  Claim7.holds_tied_plain_at .later [] [.data, .data, .data, .data, .sentinel, .sentinel, .pinned] true (true, "2884e46597e3b282f049f51c8122232ec0ce955f391a8ad2319c2d5e198ecc83") true
    over (fun _ h => by cases h) (by kernel_rfl) (fun _ h => by cases h) flatClosedIsRight_row_tie rfl ⟨rfl, rfl⟩ (by kernel_rfl) rfl
    (fun f fn hf hfn => by
      obtain rfl : f = 5 := Option.some.inj ((show Tryz.prog.funcNamed Rows.flatClosedIsRightRow.func = some 5 by kernel_rfl).symm.trans hf) |>.symm
      obtain rfl : fn = Tryz.f5 := (Option.some.inj (Tryz.func5.symm.trans hfn)).symm
      exact ⟨by kernel_rfl, fun j t ht => by
        have hm : t ∈ Tryz.f5.params.toList := by simpa using Array.mem_of_getElem? ht
        have hall : (Tryz.f5.params.toList.all fun u => !Tryz.prog.wantsStandIn u) = true := by kernel_rfl
        exact (show Tryz.prog.wantsStandIn t = false by simpa using List.all_eq_true.1 hall t hm)⟩)
    (by kernel_rfl)
#print axioms carded
end Go.Proofs.YtebdajjgicfcaaaGreatDoor.flatClosedIsRight
namespace Go.Proofs.YtebdajjgicfcaaaGreatDoor
/-- The card, under a short name, for the claim. -/
theorem flatClosedIsRight_holds : Rows.FlatClosedIsRightCardSaid := flatClosedIsRight.carded
end Go.Proofs.YtebdajjgicfcaaaGreatDoor
