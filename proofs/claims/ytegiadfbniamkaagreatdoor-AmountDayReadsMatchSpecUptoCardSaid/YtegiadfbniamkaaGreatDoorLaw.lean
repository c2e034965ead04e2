/- AmountDayReadsMatchSpec: for every input of bulk at most 1048576 the law returns true, and each argument reads behind the call as it read before. The listed variables start as the program's text lays them; the card ties them to it. -/
import Derived.Test.YtegiadfbniamkaaGreatDoorTie
import Derived.Test.YtegiadfbniamkaaGreatDoorCards
import Derived.Test.YtegiadfbniamkaaGreatDoorP1
import Derived.Test.YtegiadfbniamkaaGreatDoorRaGv
import Derived.Test.YtegiadfbniamkaaGreatDoorUpto
import Derived.WalkKit
import Derived.ProofKit
import Derived.Lay
namespace Go.Proofs.YtegiadfbniamkaaGreatDoor.amountDayReadsMatchSpec
open Go Go.Ra Go.ChangeShapes Go.WideShapes Go.ChangeAt Go.RowKit
set_option linter.unusedVariables false

theorem own : ownKnob Tryz.prog.godebug = none := by kernel_rfl
theorem laidOut : laidOutB Tryz.prog = true := by kernel_rfl

theorem pure (x : (Eq.A.var 5).PT) (h : wfE (.pair .leaf (.pair .leaf .leaf)) (tupEK (Eq.A.var 5).parEs) x) (hz : HeadLe 1048576 (unT (Eq.A.var 5).parEs x)) : ∃ k y, callA Tryz.prog Eq.A k 5 x = some y ∧ unT (Eq.A.var 5).retEs y = [⟨.bool, true⟩] := by
  have key : ∀ (a : ByteArray) (b c : Int), a.size ≤ 1048576 → ∃ k, Eq.interchangelaw1_AmountDayReadsMatchSpec k a b c = some true := fun a b c ha => (Eq.ev_law_dayRead a b c ha).ex
  obtain ⟨k, hk⟩ := key x.1 x.2.1 x.2.2 (hz x.1 rfl)
  exact ⟨k, true, hk, rfl⟩

theorem known (W : World) (hsh : W.ShapedOpen Tryz.prog) (hL : laidMetH Tryz.prog Rows.amountDayReadsMatchSpecUptoRow.laid W) : Known.K W (fun b => Inside W b ∧ ¬ False) :=
  ⟨trivial, (by
    obtain ⟨m, hm⟩ := Tryz.laysM155.s1_3 W hsh
    exact ⟨⟨World.block_lt_of_cell? _ _ hm, fun z => z⟩, m, hm⟩)⟩

theorem small {H : Type} (b : List UInt8) (ds : List (DataW H)) (h : Rows.uptoSmall H (.lit (.string b) :: ds) = true) : b.length ≤ 1048576 := by
  have h2 : Rows.uptoBulkAll (.lit (.string b) :: ds) ≤ 1048576 := of_decide_eq_true h
  have h3 : Rows.uptoBulkAll (.lit (.string b) :: ds) = (b.length + 1) + Rows.uptoBulkAll ds := by simp only [Rows.uptoBulkAll, Rows.uptoBulk]
  omega

set_option maxRecDepth 100000 in
theorem lifted (os : Os) (started : os.Started) (H : Type) (enc : TypeId × Value → H) :
    ReturnsInHanded {} Tryz.checked os 5 .any (fun w args => ((Rows.OpenSpec.upto Rows.amountDayReadsMatchSpecSpec).pre enc Tryz.prog Tryz.f5 [] false w args ∧ laidMetH Tryz.prog Rows.amountDayReadsMatchSpecUptoRow.laid w) ∧ sizedMet enc Tryz.prog Tryz.f5 (Rows.OpenSpec.upto Rows.amountDayReadsMatchSpecSpec) false w args) (Rows.amountDayReadsMatchSpecSpec.post enc Tryz.prog Tryz.f5 false true false false) := by
  refine law_upto (C := Tryz.checked) (A := Eq.A) (u := 5) (n := 20) (N := 1048576) (s := Rows.amountDayReadsMatchSpecSpec) (kk := Rows.uptoSmall) (es := .pair .leaf (.pair .leaf .leaf)) (rt := 4) (t0 := 9) Rows.amountDayReadsMatchSpecUptoRow.laid Eq.hmix Eq.gv_ok own started (by kernel_rfl) Tryz.func5 laidOut (by kernel_rfl) (by kernel_rfl) rfl rfl Tryz.underlying4 rfl rfl ?_ rfl Tryz.underlying9 rfl small pure known
    (witness_upto (enc := enc) (C := Tryz.checked) (os := os) (s := Rows.amountDayReadsMatchSpecSpec) (kk := Rows.uptoSmall) (X := fun w _ => laidMetH Tryz.prog Rows.amountDayReadsMatchSpecUptoRow.laid w) (World.laidAll Tryz.prog os Rows.amountDayReadsMatchSpecUptoRow.laid) #[.string ⟨#[]⟩, .int .i64 0, .int .i64 0] 8 (World.laidAll_os _ _ _) (World.shaped_of_ZipB (by kernel_rfl) (by kernel_rfl)) (by kernel_rfl) (by kernel_rfl) (by kernel_rfl)
      (by rw [MakeChecks.laidMetH_plain _ _ _ (by kernel_rfl)]; exact laidMet_laidAll _ (by kernel_rfl) (by kernel_rfl)))
  intro ds hds
  have hds' : ds.length = 3 := hds
  match ds, hds' with
  | [d0, d1, d2], _ => exact ⟨rfl, rfl, rfl⟩

theorem over : Rows.amountDayReadsMatchSpecUptoRow.holds Tryz.pinned (Rows.OpenSpec.upto Rows.amountDayReadsMatchSpecSpec) :=
  OpenClaim.holds_of_cond 5 Tryz.f5 rfl rfl rfl rfl rfl rfl rfl ⟨rfl, rfl, rfl, rfl, rfl⟩ rfl rfl rfl rfl rfl (by kernel_rfl) Tryz.func5 (by kernel_rfl)
    (of_decide_eq_true (by kernel_rfl)) (by unfold Func.isWrapper; first | (rw [if_pos (by decide +kernel)]; kernel_rfl) | (rw [if_neg (by decide +kernel)]; exact ⟨rfl, rfl⟩))
    (fun os started H enc _ _ => lifted os started H enc)
theorem proved : Rows.AmountDayReadsMatchSpecUptoSaid := over
theorem carded : Rows.AmountDayReadsMatchSpecUptoCardSaid :=
  Claim7.holds_tied_plain_at .later [] [.data, .data, .data, .data, .sentinel, .sentinel, .pinned] true (true, "781ada627f7a50c6fbe05bd6da77468741bb9c6037e976d4640209e25862e87e") true
    over (fun _ h => by cases h) (by kernel_rfl) (fun _ h => by cases h) amountDayReadsMatchSpecUpto_row_tie rfl ⟨rfl, rfl⟩ (by kernel_rfl) rfl
    (fun f fn hf hfn => by
      obtain rfl : f = 5 := Option.some.inj ((show Tryz.prog.funcNamed Rows.amountDayReadsMatchSpecUptoRow.func = some 5 by kernel_rfl).symm.trans hf) |>.symm
      obtain rfl : fn = Tryz.f5 := (Option.some.inj (Tryz.func5.symm.trans hfn)).symm
      exact ⟨by kernel_rfl, fun j t ht => by
        have hm : t ∈ Tryz.f5.params.toList := by simpa using Array.mem_of_getElem? ht
        have hall : (Tryz.f5.params.toList.all fun u => !Tryz.prog.wantsStandIn u) = true := by kernel_rfl
        exact (show Tryz.prog.wantsStandIn t = false by simpa using List.all_eq_true.1 hall t hm)⟩)
    (by kernel_rfl)
#print axioms carded
end Go.Proofs.YtegiadfbniamkaaGreatDoor.amountDayReadsMatchSpec
namespace Go.Proofs.YtegiadfbniamkaaGreatDoor
/-- The card, under a short name, for the claim. -/
theorem amountDayReadsMatchSpecUpto_holds : Rows.AmountDayReadsMatchSpecUptoCardSaid := amountDayReadsMatchSpec.carded
end Go.Proofs.YtegiadfbniamkaaGreatDoor
