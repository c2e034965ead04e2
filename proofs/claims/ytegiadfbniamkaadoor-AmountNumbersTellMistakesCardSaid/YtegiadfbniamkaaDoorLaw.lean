/- AmountNumbersTellMistakes: for every input the law returns true, and each argument reads behind the call as it read before. The listed variables start as the program's text lays them; the card ties them to it. -/
import Derived.Test.YtegiadfbniamkaaDoorTie
import Derived.Test.YtegiadfbniamkaaDoorCards
import Derived.Test.YtegiadfbniamkaaDoorP1
import Derived.Test.YtegiadfbniamkaaDoorRaGv
import Derived.WalkKit
import Derived.ProofKit
import Derived.Lay
namespace Go.Proofs.YtegiadfbniamkaaDoor.amountNumbersTellMistakes
open Go Go.Ra Go.ChangeShapes Go.WideShapes Go.ChangeAt Go.RowKit
set_option linter.unusedVariables false

theorem own : ownKnob Tryd.prog.godebug = none := by kernel_rfl
theorem laidOut : laidOutB Tryd.prog = true := by kernel_rfl

theorem pure (x : (Eq.A.var 8).PT) (h : wfE (.pair .leaf (.pair .leaf (.pair .leaf .leaf))) (tupEK (Eq.A.var 8).parEs) x) : ∃ k y, callA Tryd.prog Eq.A k 8 x = some y ∧ unT (Eq.A.var 8).retEs y = [⟨.bool, true⟩] := by
  have key : ∀ (a : Int) (b : ByteArray) (c d : Int), b.size ≤ 140737488351232 → ∃ k, Eq.interchangelaw1_AmountNumbersTellMistakes k a b c d = some true := fun a b c d hb => (Eq.ev_law_tells a b c d hb).ex
  obtain ⟨k, hk⟩ := key x.1 x.2.1 x.2.2.1 x.2.2.2 h.2.1
  exact ⟨k, true, hk, rfl⟩

theorem known (W : World) (hsh : W.ShapedOpen Tryd.prog) (hL : laidMetH Tryd.prog Rows.amountNumbersTellMistakesRow.laid W) : Known.K W (fun b => Inside W b ∧ ¬ False) :=
  ⟨know_tab (fun x => x.1 == "internal/strconv.uint64pow10") (by kernel_rfl) (by kernel_rfl) (g := 2) (t := 182) (e := 117) (by kernel_rfl) (by kernel_rfl) Tryd.underlying182 Tryd.underlying117 (by kernel_rfl) (by kernel_rfl) hL, trivial⟩

set_option maxRecDepth 100000 in
theorem lifted (os : Os) (started : os.Started) (H : Type) (enc : TypeId × Value → H) :
    ReturnsInHanded {} Tryd.checked os 8 .any (fun w args => (Rows.amountNumbersTellMistakesSpec.pre enc Tryd.prog Tryd.f8 [] false w args ∧ laidMetH Tryd.prog Rows.amountNumbersTellMistakesRow.laid w) ∧ sizedMet enc Tryd.prog Tryd.f8 (OpenSpec.ofChange Rows.amountNumbersTellMistakesSpec) false w args) (Rows.amountNumbersTellMistakesSpec.post enc Tryd.prog Tryd.f8 false true false false) := by
  refine law_shaped (C := Tryd.checked) (A := Eq.A) (u := 8) (n := 20) (es := .pair .leaf (.pair .leaf (.pair .leaf .leaf))) (rt := 4) Rows.amountNumbersTellMistakesRow.laid Eq.hmix Eq.gv_ok Eq.pr_ok own started (by kernel_rfl) Tryd.func8 laidOut (by kernel_rfl) (by kernel_rfl) rfl rfl Tryd.underlying4 rfl rfl ?_ pure known
    (ChangeSpec.witness_shaped (enc := enc) (C := Tryd.checked) (os := os) (X := fun w _ => laidMetH Tryd.prog Rows.amountNumbersTellMistakesRow.laid w) false (World.laidAll Tryd.prog os Rows.amountNumbersTellMistakesRow.laid) #[.int .i64 0, .string ⟨#[]⟩, .int .i64 0, .int .i64 0] 8 (World.laidAll_os _ _ _) (World.shaped_of_ZipB (by kernel_rfl) (by kernel_rfl)) (by kernel_rfl) (by kernel_rfl) (by kernel_rfl)
      (by rw [MakeChecks.laidMetH_plain _ _ _ (by kernel_rfl)]; exact laidMet_laidAll _ (by kernel_rfl) (by kernel_rfl)))
  intro ds hds
  have hds' : ds.length = 4 := hds
  match ds, hds' with
  | [d0, d1, d2, d3], _ => exact ⟨rfl, rfl, rfl⟩

theorem over : Rows.amountNumbersTellMistakesRow.holds Tryd.pinned (OpenSpec.ofChange Rows.amountNumbersTellMistakesSpec) :=
  OpenClaim.holds_of_wide 8 Tryd.f8 rfl rfl rfl rfl rfl rfl rfl ⟨rfl, rfl, rfl, rfl, rfl⟩ rfl rfl rfl rfl rfl (by kernel_rfl) Tryd.func8 (by kernel_rfl)
    (of_decide_eq_true (by kernel_rfl)) (by unfold Func.isWrapper; first | (rw [if_pos (by decide +kernel)]; kernel_rfl) | (rw [if_neg (by decide +kernel)]; exact ⟨rfl, rfl⟩))
    (fun os started H enc _ => lifted os started H enc)
theorem proved : Rows.AmountNumbersTellMistakesSaid := over
theorem carded : Rows.AmountNumbersTellMistakesCardSaid :=
  Claim7.holds_tied_plain_at .later [] [.data, .data, .data, .data, .pinned] true (true, "436469bbf6ecc7631bceb7a8bfa7d77c33cfa9bd2aa97cd324ae332d1bb106c1") false
    over (fun _ h => by cases h) (by kernel_rfl) (fun _ h => by cases h) amountNumbersTellMistakes_row_tie rfl ⟨rfl, rfl⟩ (by kernel_rfl) rfl
    (fun f fn hf hfn => by
      obtain rfl : f = 8 := Option.some.inj ((show Tryd.prog.funcNamed Rows.amountNumbersTellMistakesRow.func = some 8 by kernel_rfl).symm.trans hf) |>.symm
      obtain rfl : fn = Tryd.f8 := (Option.some.inj (Tryd.func8.symm.trans hfn)).symm
      exact ⟨by kernel_rfl, fun j t ht => by
        have hm : t ∈ Tryd.f8.params.toList := by simpa using Array.mem_of_getElem? ht
        have hall : (Tryd.f8.params.toList.all fun u => !Tryd.prog.wantsStandIn u) = true := by kernel_rfl
        exact (show Tryd.prog.wantsStandIn t = false by simpa using List.all_eq_true.1 hall t hm)⟩)
    (by kernel_rfl)
#print axioms carded
end Go.Proofs.YtegiadfbniamkaaDoor.amountNumbersTellMistakes
namespace Go.Proofs.YtegiadfbniamkaaDoor
/-- The card, under a short name, for the claim. -/
theorem amountNumbersTellMistakes_holds : Rows.AmountNumbersTellMistakesCardSaid := amountNumbersTellMistakes.carded
end Go.Proofs.YtegiadfbniamkaaDoor
