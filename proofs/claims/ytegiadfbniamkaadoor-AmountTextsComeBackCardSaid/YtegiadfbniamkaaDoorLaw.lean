/- AmountTextsComeBack: for every input the law returns true, and each argument reads behind the call as it read before. The listed variables start as the program's text lays them; the card ties them to it. -/
import Derived.Test.YtegiadfbniamkaaDoorTie
import Derived.Test.YtegiadfbniamkaaDoorCards
import Derived.Test.YtegiadfbniamkaaDoorP1
import Derived.Test.YtegiadfbniamkaaDoorRaGv
import Derived.WalkKit
import Derived.ProofKit
import Derived.Lay
namespace Go.Proofs.YtegiadfbniamkaaDoor.amountTextsComeBack
open Go Go.Ra Go.ChangeShapes Go.WideShapes Go.ChangeAt Go.RowKit
set_option linter.unusedVariables false

theorem own : ownKnob Tryd.prog.godebug = none := by kernel_rfl
theorem laidOut : laidOutB Tryd.prog = true := by kernel_rfl

theorem pure (x : (Eq.A.var 5).PT) (h : wfE (.pair (.pair .leaf .leaf) (.pair .leaf (.pair .leaf (.pair .leaf .leaf)))) (tupEK (Eq.A.var 5).parEs) x) : ∃ k y, callA Tryd.prog Eq.A k 5 x = some y ∧ unT (Eq.A.var 5).retEs y = [⟨.bool, true⟩] := by
  have key : ∀ (a : Int × Int) (b c d e : Int), (Lit.int .u8 d).wf = true → (Lit.int .u8 e).wf = true → ∃ k, Eq.interchangelaw1_AmountTextsComeBack k a b c d e = some true := fun a b c d e hd he =>
    (Eq.ev_law_back a b c d e (wf_u8 hd).1 (wf_u8 he).1).ex
  obtain ⟨k, hk⟩ := key x.1 x.2.1 x.2.2.1 x.2.2.2.1 x.2.2.2.2 h.2.2.2.1 h.2.2.2.2
  exact ⟨k, true, hk, rfl⟩

theorem known (W : World) (hsh : W.ShapedOpen Tryd.prog) (hL : laidMetH Tryd.prog Rows.amountTextsComeBackRow.laid W) : Known.K W (fun b => Inside W b ∧ ¬ False) :=
  ⟨trivial, (by
    obtain ⟨m, hm⟩ := Tryd.laysM155.s1_3 W hsh
    exact ⟨⟨World.block_lt_of_cell? _ _ hm, fun z => z⟩, m, hm⟩)⟩

set_option maxRecDepth 100000 in
theorem lifted (os : Os) (started : os.Started) (H : Type) (enc : TypeId × Value → H) :
    ReturnsInHanded {} Tryd.checked os 5 .any (fun w args => (Rows.amountTextsComeBackSpec.pre enc Tryd.prog Tryd.f5 [] false w args ∧ laidMetH Tryd.prog Rows.amountTextsComeBackRow.laid w) ∧ sizedMet enc Tryd.prog Tryd.f5 (OpenSpec.ofChange Rows.amountTextsComeBackSpec) false w args) (Rows.amountTextsComeBackSpec.post enc Tryd.prog Tryd.f5 false true false false) := by
  refine law_shaped (C := Tryd.checked) (A := Eq.A) (u := 5) (n := 20) (es := .pair (.pair .leaf .leaf) (.pair .leaf (.pair .leaf (.pair .leaf .leaf)))) (rt := 4) Rows.amountTextsComeBackRow.laid Eq.hmix Eq.gv_ok own started (by kernel_rfl) Tryd.func5 laidOut (by kernel_rfl) (by kernel_rfl) rfl rfl Tryd.underlying4 rfl rfl ?_ pure known
    (ChangeSpec.witness_shaped (enc := enc) (C := Tryd.checked) (os := os) (X := fun w _ => laidMetH Tryd.prog Rows.amountTextsComeBackRow.laid w) false (World.laidAll Tryd.prog os Rows.amountTextsComeBackRow.laid) #[.agg #[.int .i64 0, .int .i64 0], .int .i64 0, .int .i64 0, .int .u8 0, .int .u8 0] 8 (World.laidAll_os _ _ _) (World.shaped_of_ZipB (by kernel_rfl) (by kernel_rfl)) (by kernel_rfl) (by kernel_rfl) (by kernel_rfl)
      (by rw [MakeChecks.laidMetH_plain _ _ _ (by kernel_rfl)]; exact laidMet_laidAll _ (by kernel_rfl) (by kernel_rfl)))
  intro ds hds
  have hds' : ds.length = 5 := hds
  match ds, hds' with
  | [d0, d1, d2, d3, d4], _ => exact ⟨rfl, rfl, rfl⟩

theorem over : Rows.amountTextsComeBackRow.holds Tryd.pinned (OpenSpec.ofChange Rows.amountTextsComeBackSpec) :=
  OpenClaim.holds_of_wide 5 Tryd.f5 rfl rfl rfl rfl rfl rfl rfl ⟨rfl, rfl, rfl, rfl, rfl⟩ rfl rfl rfl rfl rfl (by kernel_rfl) Tryd.func5 (by kernel_rfl)
    (of_decide_eq_true (by kernel_rfl)) (by unfold Func.isWrapper; first | (rw [if_pos (by decide +kernel)]; kernel_rfl) | (rw [if_neg (by decide +kernel)]; exact ⟨rfl, rfl⟩))
    (fun os started H enc _ => lifted os started H enc)
theorem proved : Rows.AmountTextsComeBackSaid := over
theorem carded : Rows.AmountTextsComeBackCardSaid :=
  Claim7.holds_tied_plain_at .later [] [.data, .pinned] true (true, "436469bbf6ecc7631bceb7a8bfa7d77c33cfa9bd2aa97cd324ae332d1bb106c1") false
    over (fun _ h => by cases h) (by kernel_rfl) (fun _ h => by cases h) amountTextsComeBack_row_tie rfl ⟨rfl, rfl⟩ (by kernel_rfl) rfl
    (fun f fn hf hfn => by
      obtain rfl : f = 5 := Option.some.inj ((show Tryd.prog.funcNamed Rows.amountTextsComeBackRow.func = some 5 by kernel_rfl).symm.trans hf) |>.symm
      obtain rfl : fn = Tryd.f5 := (Option.some.inj (Tryd.func5.symm.trans hfn)).symm
      exact ⟨by kernel_rfl, fun j t ht => by
        have hm : t ∈ Tryd.f5.params.toList := by simpa using Array.mem_of_getElem? ht
        have hall : (Tryd.f5.params.toList.all fun u => !Tryd.prog.wantsStandIn u) = true := by kernel_rfl
        exact (show Tryd.prog.wantsStandIn t = false by simpa using List.all_eq_true.1 hall t hm)⟩)
    (by kernel_rfl)
#print axioms carded
end Go.Proofs.YtegiadfbniamkaaDoor.amountTextsComeBack
namespace Go.Proofs.YtegiadfbniamkaaDoor
/-- The card, under a short name, for the claim. -/
theorem amountTextsComeBack_holds : Rows.AmountTextsComeBackCardSaid := amountTextsComeBack.carded
end Go.Proofs.YtegiadfbniamkaaDoor
