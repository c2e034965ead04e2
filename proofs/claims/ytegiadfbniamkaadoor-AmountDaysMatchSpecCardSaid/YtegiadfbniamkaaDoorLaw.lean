/- AmountDaysMatchSpec: for every input the law returns true, and each argument reads behind the call as it read before. The listed variables start as the program's text lays them; the card ties them to it. -/
import Derived.Test.YtegiadfbniamkaaDoorTie
import Derived.Test.YtegiadfbniamkaaDoorCards
import Derived.Test.YtegiadfbniamkaaDoorP1
import Derived.Test.YtegiadfbniamkaaDoorRaGv
import Derived.WalkKit
import Derived.ProofKit
import Derived.Lay
namespace Go.Proofs.YtegiadfbniamkaaDoor.amountDaysMatchSpec
open Go Go.Ra Go.ChangeShapes Go.WideShapes Go.ChangeAt Go.RowKit
set_option linter.unusedVariables false

theorem own : ownKnob Tryd.prog.godebug = none := by kernel_rfl
theorem laidOut : laidOutB Tryd.prog = true := by kernel_rfl

theorem pure (x : (Eq.A.var 4).PT) (h : wfE (.pair .leaf (.pair .leaf (.pair .leaf (.pair .leaf (.pair .leaf .leaf))))) (tupEK (Eq.A.var 4).parEs) x) : ∃ k y, callA Tryd.prog Eq.A k 4 x = some y ∧ unT (Eq.A.var 4).retEs y = [⟨.bool, true⟩] := by
  obtain ⟨k, hk⟩ := (Eq.ev_law_days x.1 x.2.1 x.2.2.1 x.2.2.2.1 x.2.2.2.2.1 x.2.2.2.2.2).ex
  exact ⟨k, true, hk, rfl⟩

theorem known (W : World) (hsh : W.ShapedOpen Tryd.prog) (hL : laidMetH Tryd.prog Rows.amountDaysMatchSpecRow.laid W) : Known.K W (fun b => Inside W b ∧ ¬ False) :=
  ⟨know_tab (fun x => x.1 == "internal/strconv.uint64pow10") (by kernel_rfl) (by kernel_rfl) (g := 2) (t := 182) (e := 117) (by kernel_rfl) (by kernel_rfl) Tryd.underlying182 Tryd.underlying117 (by kernel_rfl) (by kernel_rfl) hL, trivial⟩

set_option maxRecDepth 100000 in
theorem lifted (os : Os) (started : os.Started) (H : Type) (enc : TypeId × Value → H) :
    ReturnsInHanded {} Tryd.checked os 4 .any (fun w args => (Rows.amountDaysMatchSpecSpec.pre enc Tryd.prog Tryd.f4 [] false w args ∧ laidMetH Tryd.prog Rows.amountDaysMatchSpecRow.laid w) ∧ sizedMet enc Tryd.prog Tryd.f4 (OpenSpec.ofChange Rows.amountDaysMatchSpecSpec) false w args) (Rows.amountDaysMatchSpecSpec.post enc Tryd.prog Tryd.f4 false true false false) := by
  refine law_shaped (C := Tryd.checked) (A := Eq.A) (u := 4) (n := 20) (es := .pair .leaf (.pair .leaf (.pair .leaf (.pair .leaf (.pair .leaf .leaf))))) (rt := 4) Rows.amountDaysMatchSpecRow.laid Eq.hmix Eq.gv_ok own started (by kernel_rfl) Tryd.func4 laidOut (by kernel_rfl) (by kernel_rfl) rfl rfl Tryd.underlying4 rfl rfl ?_ pure known
    (ChangeSpec.witness_shaped (enc := enc) (C := Tryd.checked) (os := os) (X := fun w _ => laidMetH Tryd.prog Rows.amountDaysMatchSpecRow.laid w) false (World.laidAll Tryd.prog os Rows.amountDaysMatchSpecRow.laid) #[.int .i64 0, .int .i64 0, .int .i64 0, .int .i64 0, .int .i64 0, .int .i64 0] 8 (World.laidAll_os _ _ _) (World.shaped_of_ZipB (by kernel_rfl) (by kernel_rfl)) (by kernel_rfl) (by kernel_rfl) (by kernel_rfl)
      (by rw [MakeChecks.laidMetH_plain _ _ _ (by kernel_rfl)]; exact laidMet_laidAll _ (by kernel_rfl) (by kernel_rfl)))
  intro ds hds
  have hds' : ds.length = 6 := hds
  match ds, hds' with
  | [d0, d1, d2, d3, d4, d5], _ => exact ⟨rfl, rfl, rfl⟩

theorem over : Rows.amountDaysMatchSpecRow.holds Tryd.pinned (OpenSpec.ofChange Rows.amountDaysMatchSpecSpec) :=
  OpenClaim.holds_of_wide 4 Tryd.f4 rfl rfl rfl rfl rfl rfl rfl ⟨rfl, rfl, rfl, rfl, rfl⟩ rfl rfl rfl rfl rfl (by kernel_rfl) Tryd.func4 (by kernel_rfl)
    (of_decide_eq_true (by kernel_rfl)) (by unfold Func.isWrapper; first | (rw [if_pos (by decide +kernel)]; kernel_rfl) | (rw [if_neg (by decide +kernel)]; exact ⟨rfl, rfl⟩))
    (fun os started H enc _ => lifted os started H enc)
theorem proved : Rows.AmountDaysMatchSpecSaid := over
theorem carded : Rows.AmountDaysMatchSpecCardSaid :=
  Claim7.holds_tied_plain_at .later [] [.data, .data, .data] true (true, "436469bbf6ecc7631bceb7a8bfa7d77c33cfa9bd2aa97cd324ae332d1bb106c1") false
    over (fun _ h => by cases h) (by kernel_rfl) (fun _ h => by cases h) amountDaysMatchSpec_row_tie rfl ⟨rfl, rfl⟩ (by kernel_rfl) rfl
    (fun f fn hf hfn => by
      obtain rfl : f = 4 := Option.some.inj ((show Tryd.prog.funcNamed Rows.amountDaysMatchSpecRow.func = some 4 by kernel_rfl).symm.trans hf) |>.symm
      obtain rfl : fn = Tryd.f4 := (Option.some.inj (Tryd.func4.symm.trans hfn)).symm
      exact ⟨by kernel_rfl, fun j t ht => by
        have hm : t ∈ Tryd.f4.params.toList := by simpa using Array.mem_of_getElem? ht
        have hall : (Tryd.f4.params.toList.all fun u => !Tryd.prog.wantsStandIn u) = true := by kernel_rfl
        exact (show Tryd.prog.wantsStandIn t = false by simpa using List.all_eq_true.1 hall t hm)⟩)
    (by kernel_rfl)
#print axioms carded
end Go.Proofs.YtegiadfbniamkaaDoor.amountDaysMatchSpec
namespace Go.Proofs.YtegiadfbniamkaaDoor
/-- The card, under a short name, for the claim. -/
theorem amountDaysMatchSpec_holds : Rows.AmountDaysMatchSpecCardSaid := amountDaysMatchSpec.carded
end Go.Proofs.YtegiadfbniamkaaDoor
