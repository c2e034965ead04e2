/- AmountUnitsMatchSpec: for every input the law returns true, and each argument reads behind the call as it read before. The listed variables start as the program's text lays them; the card ties them to it. -/
import Derived.Test.YtegiadfbniamkaaGreatDoorTie
import Derived.Test.YtegiadfbniamkaaGreatDoorCards
import Derived.Test.YtegiadfbniamkaaGreatDoorP2
import Derived.Test.YtegiadfbniamkaaGreatDoorRaGv
import Derived.WalkKit
import Derived.ProofKit
import Derived.Lay
namespace Go.Proofs.YtegiadfbniamkaaGreatDoor.amountUnitsMatchSpec
open Go Go.Ra Go.ChangeShapes Go.WideShapes Go.ChangeAt Go.RowKit
set_option linter.unusedVariables false

theorem own : ownKnob Tryz.prog.godebug = none := by kernel_rfl
theorem laidOut : laidOutB Tryz.prog = true := by kernel_rfl

theorem pure (x : (Eq.A.var 3).PT) (h : wfE (.pair (.sl 48 (.pair .leaf (.pair .leaf (.pair .leaf .leaf)))) (.pair (.pair .leaf .leaf) (.pair .leaf (.pair .leaf (.pair .leaf .leaf))))) (tupEK (Eq.A.var 3).parEs) x) : ∃ k y, callA Tryz.prog Eq.A k 3 x = some y ∧ unT (Eq.A.var 3).retEs y = [⟨.bool, true⟩] := by
  obtain ⟨k, hk⟩ := (Eq.ev_law_units x.1 x.2.1 x.2.2.1 x.2.2.2.1 x.2.2.2.2.1 x.2.2.2.2.2).ex
  exact ⟨k, true, hk, rfl⟩

theorem known (W : World) (hsh : W.ShapedOpen Tryz.prog) (hL : laidMetH Tryz.prog Rows.amountUnitsMatchSpecRow.laid W) : Known.K W (fun b => Inside W b ∧ ¬ False) :=
  ⟨trivial, trivial⟩

set_option maxRecDepth 100000 in
theorem lifted (os : Os) (started : os.Started) (H : Type) (enc : TypeId × Value → H) :
    ReturnsInHanded {} Tryz.checked os 3 .any (fun w args => (Rows.amountUnitsMatchSpecSpec.pre enc Tryz.prog Tryz.f3 [] false w args ∧ laidMetH Tryz.prog Rows.amountUnitsMatchSpecRow.laid w) ∧ sizedMet enc Tryz.prog Tryz.f3 (OpenSpec.ofChange Rows.amountUnitsMatchSpecSpec) false w args) (Rows.amountUnitsMatchSpecSpec.post enc Tryz.prog Tryz.f3 false true false false) := by
  refine law_shaped (C := Tryz.checked) (A := Eq.A) (u := 3) (n := 20) (es := .pair (.sl 48 (.pair .leaf (.pair .leaf (.pair .leaf .leaf)))) (.pair (.pair .leaf .leaf) (.pair .leaf (.pair .leaf (.pair .leaf .leaf))))) (rt := 4) Rows.amountUnitsMatchSpecRow.laid Eq.hmix Eq.gv_ok own started (by kernel_rfl) Tryz.func3 laidOut (by kernel_rfl) (by kernel_rfl) rfl rfl Tryz.underlying4 rfl rfl ?_ pure known
    (ChangeSpec.witness_shaped (enc := enc) (C := Tryz.checked) (os := os) (X := fun w _ => laidMetH Tryz.prog Rows.amountUnitsMatchSpecRow.laid w) false (World.laidAll Tryz.prog os Rows.amountUnitsMatchSpecRow.laid) #[.slice none 0 0, .agg #[.int .i64 0, .int .i64 0], .string ⟨#[]⟩, .string ⟨#[]⟩, .int .i64 0, .int .i64 0] 8 (World.laidAll_os _ _ _) (World.shaped_of_ZipB (by kernel_rfl) (by kernel_rfl)) (by kernel_rfl) (by kernel_rfl) (by kernel_rfl)
      (by rw [MakeChecks.laidMetH_plain _ _ _ (by kernel_rfl)]; exact laidMet_laidAll _ (by kernel_rfl) (by kernel_rfl)))
  intro ds hds
  have hds' : ds.length = 6 := hds
  match ds, hds' with
  | [d0, d1, d2, d3, d4, d5], _ => exact ⟨rfl, rfl, rfl⟩

theorem over : Rows.amountUnitsMatchSpecRow.holds Tryz.pinned (OpenSpec.ofChange Rows.amountUnitsMatchSpecSpec) :=
  OpenClaim.holds_of_wide 3 Tryz.f3 rfl rfl rfl rfl rfl rfl rfl ⟨rfl, rfl, rfl, rfl, rfl⟩ rfl rfl rfl rfl rfl (by kernel_rfl) Tryz.func3 (by kernel_rfl)
    (of_decide_eq_true (by kernel_rfl)) (by unfold Func.isWrapper; first | (rw [if_pos (by decide +kernel)]; kernel_rfl) | (rw [if_neg (by decide +kernel)]; exact ⟨rfl, rfl⟩))
    (fun os started H enc _ => lifted os started H enc)
theorem proved : Rows.AmountUnitsMatchSpecSaid := over
theorem carded : Rows.AmountUnitsMatchSpecCardSaid :=
  Claim7.holds_tied_plain_at .later [] [.data, .pinned] true (true, "781ada627f7a50c6fbe05bd6da77468741bb9c6037e976d4640209e25862e87e") true
    over (fun _ h => by cases h) (by kernel_rfl) (fun _ h => by cases h) amountUnitsMatchSpec_row_tie rfl ⟨rfl, rfl⟩ (by kernel_rfl) rfl
    (fun f fn hf hfn => by
      obtain rfl : f = 3 := Option.some.inj ((show Tryz.prog.funcNamed Rows.amountUnitsMatchSpecRow.func = some 3 by kernel_rfl).symm.trans hf) |>.symm
      obtain rfl : fn = Tryz.f3 := (Option.some.inj (Tryz.func3.symm.trans hfn)).symm
      exact ⟨by kernel_rfl, fun j t ht => by
        have hm : t ∈ Tryz.f3.params.toList := by simpa using Array.mem_of_getElem? ht
        have hall : (Tryz.f3.params.toList.all fun u => !Tryz.prog.wantsStandIn u) = true := by kernel_rfl
        exact (show Tryz.prog.wantsStandIn t = false by simpa using List.all_eq_true.1 hall t hm)⟩)
    (by kernel_rfl)
#print axioms carded
end Go.Proofs.YtegiadfbniamkaaGreatDoor.amountUnitsMatchSpec
namespace Go.Proofs.YtegiadfbniamkaaGreatDoor
/-- The card, under a short name, for the claim. -/
theorem amountUnitsMatchSpec_holds : Rows.AmountUnitsMatchSpecCardSaid := amountUnitsMatchSpec.carded
end Go.Proofs.YtegiadfbniamkaaGreatDoor
