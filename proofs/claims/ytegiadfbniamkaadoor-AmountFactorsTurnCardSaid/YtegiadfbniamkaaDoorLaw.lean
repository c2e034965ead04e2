/- AmountFactorsTurn: for every input the law returns true, and each argument reads behind the call as it read before. The listed variables start as the program's text lays them; the card ties them to it. -/
import Derived.Test.YtegiadfbniamkaaDoorTie
import Derived.Test.YtegiadfbniamkaaDoorCards
import Derived.Test.YtegiadfbniamkaaDoorP1
import Derived.Test.YtegiadfbniamkaaDoorRaGv
import Derived.WalkKit
import Derived.ProofKit
import Derived.Lay
namespace Go.Proofs.YtegiadfbniamkaaDoor.amountFactorsTurn
open Go Go.Ra Go.ChangeShapes Go.WideShapes Go.ChangeAt Go.RowKit
set_option linter.unusedVariables false

theorem own : ownKnob Tryd.prog.godebug = none := by kernel_rfl
theorem laidOut : laidOutB Tryd.prog = true := by kernel_rfl

theorem pure (x : (Eq.A.var 3).PT) (h : wfE (.pair (.sl 48 (.pair .leaf (.pair .leaf (.pair .leaf .leaf)))) (.pair .leaf .leaf)) (tupEK (Eq.A.var 3).parEs) x) : ∃ k y, callA Tryd.prog Eq.A k 3 x = some y ∧ unT (Eq.A.var 3).retEs y = [⟨.bool, true⟩] := by
  obtain ⟨k, hk⟩ := (Eq.ev_law1 x.1 x.2.1 x.2.2).ex
  exact ⟨k, true, hk, rfl⟩

theorem known (W : World) (hsh : W.ShapedOpen Tryd.prog) (hL : laidMetH Tryd.prog Rows.amountFactorsTurnRow.laid W) : Known.K W (fun b => Inside W b ∧ ¬ False) :=
  ⟨trivial, trivial⟩

set_option maxRecDepth 100000 in
theorem lifted (os : Os) (started : os.Started) (H : Type) (enc : TypeId × Value → H) :
    ReturnsInHanded {} Tryd.checked os 3 .any (fun w args => (Rows.amountFactorsTurnSpec.pre enc Tryd.prog Tryd.f3 [] false w args ∧ laidMetH Tryd.prog Rows.amountFactorsTurnRow.laid w) ∧ sizedMet enc Tryd.prog Tryd.f3 (OpenSpec.ofChange Rows.amountFactorsTurnSpec) false w args) (Rows.amountFactorsTurnSpec.post enc Tryd.prog Tryd.f3 false true false false) := by
  refine law_shaped (C := Tryd.checked) (A := Eq.A) (u := 3) (n := 20) (es := .pair (.sl 48 (.pair .leaf (.pair .leaf (.pair .leaf .leaf)))) (.pair .leaf .leaf)) (rt := 4) Rows.amountFactorsTurnRow.laid Eq.hmix Eq.gv_ok own started (by kernel_rfl) Tryd.func3 laidOut (by kernel_rfl) (by kernel_rfl) rfl rfl Tryd.underlying4 rfl rfl ?_ pure known
    (ChangeSpec.witness_shaped (enc := enc) (C := Tryd.checked) (os := os) (X := fun w _ => laidMetH Tryd.prog Rows.amountFactorsTurnRow.laid w) false (World.laidAll Tryd.prog os Rows.amountFactorsTurnRow.laid) #[.slice none 0 0, .string ⟨#[]⟩, .string ⟨#[]⟩] 8 (World.laidAll_os _ _ _) (World.shaped_of_ZipB (by kernel_rfl) (by kernel_rfl)) (by kernel_rfl) (by kernel_rfl) (by kernel_rfl)
      (by rw [MakeChecks.laidMetH_plain _ _ _ (by kernel_rfl)]; exact laidMet_laidAll _ (by kernel_rfl) (by kernel_rfl)))
  intro ds hds
  have hds' : ds.length = 3 := hds
  match ds, hds' with
  | [d0, d1, d2], _ => exact ⟨rfl, rfl, rfl⟩

theorem over : Rows.amountFactorsTurnRow.holds Tryd.pinned (OpenSpec.ofChange Rows.amountFactorsTurnSpec) :=
  OpenClaim.holds_of_wide 3 Tryd.f3 rfl rfl rfl rfl rfl rfl rfl ⟨rfl, rfl, rfl, rfl, rfl⟩ rfl rfl rfl rfl rfl (by kernel_rfl) Tryd.func3 (by kernel_rfl)
    (of_decide_eq_true (by kernel_rfl)) (by unfold Func.isWrapper; first | (rw [if_pos (by decide +kernel)]; kernel_rfl) | (rw [if_neg (by decide +kernel)]; exact ⟨rfl, rfl⟩))
    (fun os started H enc _ => lifted os started H enc)
theorem proved : Rows.AmountFactorsTurnSaid := over
theorem carded : Rows.AmountFactorsTurnCardSaid :=
  Claim7.holds_tied_plain_at .later [] [.data, .pinned] true (true, "436469bbf6ecc7631bceb7a8bfa7d77c33cfa9bd2aa97cd324ae332d1bb106c1") false
    over (fun _ h => by cases h) (by kernel_rfl) (fun _ h => by cases h) amountFactorsTurn_row_tie rfl ⟨rfl, rfl⟩ (by kernel_rfl) rfl
    (fun f fn hf hfn => by
      obtain rfl : f = 3 := Option.some.inj ((show Tryd.prog.funcNamed Rows.amountFactorsTurnRow.func = some 3 by kernel_rfl).symm.trans hf) |>.symm
      obtain rfl : fn = Tryd.f3 := (Option.some.inj (Tryd.func3.symm.trans hfn)).symm
      exact ⟨by kernel_rfl, fun j t ht => by
        have hm : t ∈ Tryd.f3.params.toList := by simpa using Array.mem_of_getElem? ht
        have hall : (Tryd.f3.params.toList.all fun u => !Tryd.prog.wantsStandIn u) = true := by kernel_rfl
        exact (show Tryd.prog.wantsStandIn t = false by simpa using List.all_eq_true.1 hall t hm)⟩)
    (by kernel_rfl)
#print axioms carded
end Go.Proofs.YtegiadfbniamkaaDoor.amountFactorsTurn
namespace Go.Proofs.YtegiadfbniamkaaDoor
/-- The card, under a short name, for the claim. -/
theorem amountFactorsTurn_holds : Rows.AmountFactorsTurnCardSaid := amountFactorsTurn.carded
end Go.Proofs.YtegiadfbniamkaaDoor
