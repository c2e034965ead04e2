/- AmountNumbersMatchSpec: for every input the law returns true, and each argument reads behind the call as it read before. The listed variables start as the program's text lays them; the card ties them to it. -/
import Derived.Test.YtegiadfbniamkaaGreatDoorTie
import Derived.Test.YtegiadfbniamkaaGreatDoorCards
import Derived.Test.YtegiadfbniamkaaGreatDoorP1
import Derived.Test.YtegiadfbniamkaaGreatDoorRaGv
import Derived.WalkKit
import Derived.ProofKit
import Derived.Lay
namespace Go.Proofs.YtegiadfbniamkaaGreatDoor.amountNumbersMatchSpec
open Go Go.Ra Go.ChangeShapes Go.WideShapes Go.ChangeAt Go.RowKit
set_option linter.unusedVariables false

theorem own : ownKnob Tryz.prog.godebug = none := by kernel_rfl
theorem laidOut : laidOutB Tryz.prog = true := by kernel_rfl

theorem pure (x : (Eq.A.var 4).PT) (h : wfE (.pair .leaf (.pair .leaf .leaf)) (tupEK (Eq.A.var 4).parEs) x) : ∃ k y, callA Tryz.prog Eq.A k 4 x = some y ∧ unT (Eq.A.var 4).retEs y = [⟨.bool, true⟩] := by
  have key : ∀ (a : Int) (b c : ByteArray), b.size ≤ 140737488351232 → c.size ≤ 140737488351232 → ∃ k, Eq.interchangelaw1_AmountNumbersMatchSpec k a b c = some true := fun a b c hb hc => (Eq.ev_law_nums a b c hb hc).ex
  obtain ⟨k, hk⟩ := key x.1 x.2.1 x.2.2 h.2.1 h.2.2
  exact ⟨k, true, hk, rfl⟩

theorem known (W : World) (hsh : W.ShapedOpen Tryz.prog) (hL : laidMetH Tryz.prog Rows.amountNumbersMatchSpecRow.laid W) : Known.K W (fun b => Inside W b ∧ ¬ False) :=
  ⟨know_tab (fun x => x.1 == "internal/strconv.uint64pow10") (by kernel_rfl) (by kernel_rfl) (g := 1) (t := 223) (e := 142) (by kernel_rfl) (by kernel_rfl) Tryz.underlying223 Tryz.underlying142 (by kernel_rfl) (by kernel_rfl) hL, trivial⟩

set_option maxRecDepth 100000 in
theorem lifted (os : Os) (started : os.Started) (H : Type) (enc : TypeId × Value → H) :
    ReturnsInHanded {} Tryz.checked os 4 .any (fun w args => (Rows.amountNumbersMatchSpecSpec.pre enc Tryz.prog Tryz.f4 [] false w args ∧ laidMetH Tryz.prog Rows.amountNumbersMatchSpecRow.laid w) ∧ sizedMet enc Tryz.prog Tryz.f4 (OpenSpec.ofChange Rows.amountNumbersMatchSpecSpec) false w args) (Rows.amountNumbersMatchSpecSpec.post enc Tryz.prog Tryz.f4 false true false false) := by
  refine law_shaped (C := Tryz.checked) (A := Eq.A) (u := 4) (n := 20) (es := .pair .leaf (.pair .leaf .leaf)) (rt := 4) Rows.amountNumbersMatchSpecRow.laid Eq.hmix Eq.gv_ok own started (by kernel_rfl) Tryz.func4 laidOut (by kernel_rfl) (by kernel_rfl) rfl rfl Tryz.underlying4 rfl rfl ?_ pure known
    (ChangeSpec.witness_shaped (enc := enc) (C := Tryz.checked) (os := os) (X := fun w _ => laidMetH Tryz.prog Rows.amountNumbersMatchSpecRow.laid w) false (World.laidAll Tryz.prog os Rows.amountNumbersMatchSpecRow.laid) #[.int .i64 0, .string ⟨#[]⟩, .string ⟨#[]⟩] 8 (World.laidAll_os _ _ _) (World.shaped_of_ZipB (by kernel_rfl) (by kernel_rfl)) (by kernel_rfl) (by kernel_rfl) (by kernel_rfl)
      (by rw [MakeChecks.laidMetH_plain _ _ _ (by kernel_rfl)]; exact laidMet_laidAll _ (by kernel_rfl) (by kernel_rfl)))
  intro ds hds
  have hds' : ds.length = 3 := hds
  match ds, hds' with
  | [d0, d1, d2], _ => exact ⟨rfl, rfl, rfl⟩

theorem over : Rows.amountNumbersMatchSpecRow.holds Tryz.pinned (OpenSpec.ofChange Rows.amountNumbersMatchSpecSpec) :=
  OpenClaim.holds_of_wide 4 Tryz.f4 rfl rfl rfl rfl rfl rfl rfl ⟨rfl, rfl, rfl, rfl, rfl⟩ rfl rfl rfl rfl rfl (by kernel_rfl) Tryz.func4 (by kernel_rfl)
    (of_decide_eq_true (by kernel_rfl)) (by unfold Func.isWrapper; first | (rw [if_pos (by decide +kernel)]; kernel_rfl) | (rw [if_neg (by decide +kernel)]; exact ⟨rfl, rfl⟩))
    (fun os started H enc _ => lifted os started H enc)
theorem proved : Rows.AmountNumbersMatchSpecSaid := over
theorem carded : Rows.AmountNumbersMatchSpecCardSaid :=
  Claim7.holds_tied_plain_at .later [] [.data, .data, .data, .data, .pinned] true (true, "781ada627f7a50c6fbe05bd6da77468741bb9c6037e976d4640209e25862e87e") true
    over (fun _ h => by cases h) (by kernel_rfl) (fun _ h => by cases h) amountNumbersMatchSpec_row_tie rfl ⟨rfl, rfl⟩ (by kernel_rfl) rfl
    (fun f fn hf hfn => by
      obtain rfl : f = 4 := Option.some.inj ((show Tryz.prog.funcNamed Rows.amountNumbersMatchSpecRow.func = some 4 by kernel_rfl).symm.trans hf) |>.symm
      obtain rfl : fn = Tryz.f4 := (Option.some.inj (Tryz.func4.symm.trans hfn)).symm
      exact ⟨by kernel_rfl, fun j t ht => by
        have hm : t ∈ Tryz.f4.params.toList := by simpa using Array.mem_of_getElem? ht
        have hall : (Tryz.f4.params.toList.all fun u => !Tryz.prog.wantsStandIn u) = true := by kernel_rfl
        exact (show Tryz.prog.wantsStandIn t = false by simpa using List.all_eq_true.1 hall t hm)⟩)
    (by kernel_rfl)
#print axioms carded
end Go.Proofs.YtegiadfbniamkaaGreatDoor.amountNumbersMatchSpec
namespace Go.Proofs.YtegiadfbniamkaaGreatDoor
/-- The card, under a short name, for the claim. -/
theorem amountNumbersMatchSpec_holds : Rows.AmountNumbersMatchSpecCardSaid := amountNumbersMatchSpec.carded
end Go.Proofs.YtegiadfbniamkaaGreatDoor
