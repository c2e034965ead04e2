/- TopFlatOrdersAddUp: for every input the law returns true, and each argument reads behind the call as it read before. The listed variables start as the program's text lays them; the card ties them to it. -/
import Derived.Test.YtgoepklennckmaaGreatDoorLawC
import Derived.Test.YtgoepklennckmaaGreatDoorTie
import Derived.Test.YtgoepklennckmaaGreatDoorCards
import Derived.WalkKit
import Derived.ProofKit
import Derived.Lay
namespace Go.Proofs.YtgoepklennckmaaGreatDoor.topFlatOrdersAddUp
open Go Go.Ra Go.ChangeShapes Go.WideShapes Go.ChangeAt Go.RowKit
set_option linter.unusedVariables false

theorem carded : Rows.TopFlatOrdersAddUpCardSaid :=
  Claim7.holds_tied_plain_at .later [] [.data, .data, .data, .data, .sentinel, .sentinel, .pinned] true (true, "fe336aee2836fd2c0e90de31856ff90c1ee5fb04a23dda75f2f5dab36be6f854") true
    over (fun _ h => by cases h) (by kernel_rfl) (fun _ h => by cases h) topFlatOrdersAddUp_row_tie rfl ⟨rfl, rfl⟩ (by kernel_rfl) rfl
    (fun f fn hf hfn => by
      obtain rfl : f = 3 := Option.some.inj ((show Tryz.prog.funcNamed Rows.topFlatOrdersAddUpRow.func = some 3 by kernel_rfl).symm.trans hf) |>.symm
      obtain rfl : fn = Tryz.f3 := (Option.some.inj (Tryz.func3.symm.trans hfn)).symm
      exact ⟨by kernel_rfl, fun j t ht => by
        have hm : t ∈ Tryz.f3.params.toList := by simpa using Array.mem_of_getElem? ht
        have hall : (Tryz.f3.params.toList.all fun u => !Tryz.prog.wantsStandIn u) = true := by kernel_rfl
        exact (show Tryz.prog.wantsStandIn t = false by simpa using List.all_eq_true.1 hall t hm)⟩)
    (by kernel_rfl)
#print axioms carded
end Go.Proofs.YtgoepklennckmaaGreatDoor.topFlatOrdersAddUp
namespace Go.Proofs.YtgoepklennckmaaGreatDoor
/-- The card, under a short name, for the claim. -/
theorem topFlatOrdersAddUp_holds : Rows.TopFlatOrdersAddUpCardSaid := topFlatOrdersAddUp.carded
end Go.Proofs.YtgoepklennckmaaGreatDoor
