/- AmountReadsMatchSpec: for every input of bulk at most 1048576 the law returns true, and each argument reads behind the call as it read before. The listed variables start as the program's text lays them; the card ties them to it. -/
import Derived.Test.YtegiadfbniamkaaDoorTie
import Derived.Test.YtegiadfbniamkaaDoorCards
import Derived.Test.YtegiadfbniamkaaDoorP1
import Derived.Test.YtegiadfbniamkaaDoorRaGv
import Derived.Test.YtegiadfbniamkaaDoorUpto
import Derived.WalkKit
import Derived.ProofKit
import Derived.Lay
namespace Go.Proofs.YtegiadfbniamkaaDoor.amountReadsMatchSpec
open Go Go.Ra Go.ChangeShapes Go.WideShapes Go.ChangeAt Go.RowKit
set_option linter.unusedVariables false

theorem own : ownKnob Tryd.prog.godebug = none := by kernel_rfl
theorem laidOut : laidOutB Tryd.prog = true := by kernel_rfl

theorem pure (x : (Eq.A.var 6).PT) (h : wfE (.pair .leaf (.pair .leaf (.pair .leaf .leaf))) (tupEK (Eq.A.var 6).parEs) x) (hz : HeadLe 1048576 (unT (Eq.A.var 6).parEs x)) : ∃ k y, callA Tryd.prog Eq.A k 6 x = some y ∧ unT (Eq.A.var 6).retEs y = [⟨.bool, true⟩] := by
  have key : ∀ (a : ByteArray) (b c d : Int), a.size ≤ 1048576 → (Lit.int .u8 c).wf = true → (Lit.int .u8 d).wf = true → ∃ k, Eq.interchangelaw1_AmountReadsMatchSpec k a b c d = some true := fun a b c d ha hc hd => (Eq.ev_law_reads a b c d ha (wf_u8 hc) (wf_u8 hd)).ex
  obtain ⟨k, hk⟩ := key x.1 x.2.1 x.2.2.1 x.2.2.2 (hz x.1 rfl) h.2.2.1 h.2.2.2
  exact ⟨k, true, hk, rfl⟩

theorem known (W : World) (hsh : W.ShapedOpen Tryd.prog) (hL : laidMetH Tryd.prog Rows.amountReadsMatchSpecUptoRow.laid W) : Known.K W (fun b => Inside W b ∧ ¬ False) :=
  ⟨trivial, (by
    obtain ⟨m, hm⟩ := Tryd.laysM155.s1_3 W hsh
    exact ⟨⟨World.block_lt_of_cell? _ _ hm, fun z => z⟩, m, hm⟩)⟩

theorem small {H : Type} (b : List UInt8) (ds : List (DataW H)) (h : Rows.uptoSmall H (.lit (.string b) :: ds) = true) : b.length ≤ 1048576 := by
  have h2 : Rows.uptoBulkAll (.lit (.string b) :: ds) ≤ 1048576 := of_decide_eq_true h
  have h3 : Rows.uptoBulkAll (.lit (.string b) :: ds) = (b.length + 1) + Rows.uptoBulkAll ds := by simp only [Rows.uptoBulkAll, Rows.uptoBulk]
  omega

set_option maxRecDepth 100000 in
theorem lifted (os : Os) (started : os.Started) (H : Type) (enc : TypeId × Value → H) :
    ReturnsInHanded {} Tryd.checked os 6 .any (fun w args => ((Rows.OpenSpec.upto Rows.amountReadsMatchSpecSpec).pre enc Tryd.prog Tryd.f6 [] false w args ∧ laidMetH Tryd.prog Rows.amountReadsMatchSpecUptoRow.laid w) ∧ sizedMet enc Tryd.prog Tryd.f6 (Rows.OpenSpec.upto Rows.amountReadsMatchSpecSpec) false w args) (Rows.amountReadsMatchSpecSpec.post enc Tryd.prog Tryd.f6 false true false false) := by
  refine law_upto (C := Tryd.checked) (A := Eq.A) (u := 6) (n := 20) (N := 1048576) (s := Rows.amountReadsMatchSpecSpec) (kk := Rows.uptoSmall) (es := .pair .leaf (.pair .leaf (.pair .leaf .leaf))) (rt := 4) (t0 := 9) Rows.amountReadsMatchSpecUptoRow.laid Eq.hmix Eq.gv_ok own started (by kernel_rfl) Tryd.func6 laidOut (by kernel_rfl) (by kernel_rfl) rfl rfl Tryd.underlying4 rfl rfl ?_ rfl Tryd.underlying9 rfl small pure known
    (witness_upto (enc := enc) (C := Tryd.checked) (os := os) (s := Rows.amountReadsMatchSpecSpec) (kk := Rows.uptoSmall) (X := fun w _ => laidMetH Tryd.prog Rows.amountReadsMatchSpecUptoRow.laid w) (World.laidAll Tryd.prog os Rows.amountReadsMatchSpecUptoRow.laid) #[.string ⟨#[]⟩, .int .i64 0, .int .u8 0, .int .u8 0] 8 (World.laidAll_os _ _ _) (World.shaped_of_ZipB (by kernel_rfl) (by kernel_rfl)) (by kernel_rfl) (by kernel_rfl) (by kernel_rfl)
      (by rw [MakeChecks.laidMetH_plain _ _ _ (by kernel_rfl)]; exact laidMet_laidAll _ (by kernel_rfl) (by kernel_rfl)))
  intro ds hds
  have hds' : ds.length = 4 := hds
  match ds, hds' with
  | [d0, d1, d2, d3], _ => exact ⟨rfl, rfl, rfl⟩

theorem over : Rows.amountReadsMatchSpecUptoRow.holds Tryd.pinned (Rows.OpenSpec.upto Rows.amountReadsMatchSpecSpec) :=
  OpenClaim.holds_of_cond 6 Tryd.f6 rfl rfl rfl rfl rfl rfl rfl ⟨rfl, rfl, rfl, rfl, rfl⟩ rfl rfl rfl rfl rfl (by kernel_rfl) Tryd.func6 (by kernel_rfl)
    (of_decide_eq_true (by kernel_rfl)) (by unfold Func.isWrapper; first | (rw [if_pos (by decide +kernel)]; kernel_rfl) | (rw [if_neg (by decide +kernel)]; exact ⟨rfl, rfl⟩))
    (fun os started H enc _ _ => lifted os started H enc)
theorem proved : Rows.AmountReadsMatchSpecUptoSaid := over
theorem carded : Rows.AmountReadsMatchSpecUptoCardSaid :=
  Claim7.holds_tied_plain_at .later [] [.data, .pinned] true (true, "436469bbf6ecc7631bceb7a8bfa7d77c33cfa9bd2aa97cd324ae332d1bb106c1") false
    over (fun _ h => by cases h) (by kernel_rfl) (fun _ h => by cases h) amountReadsMatchSpecUpto_row_tie rfl ⟨rfl, rfl⟩ (by kernel_rfl) rfl
    (fun f fn hf hfn => by
      obtain rfl : f = 6 := Option.some.inj ((show Tryd.prog.funcNamed Rows.amountReadsMatchSpecUptoRow.func = some 6 by kernel_rfl).symm.trans hf) |>.symm
      obtain rfl : fn = Tryd.f6 := (Option.some.inj (Tryd.func6.symm.trans hfn)).symm
      exact ⟨by kernel_rfl, fun j t ht => by
        have hm : t ∈ Tryd.f6.params.toList := by simpa using Array.mem_of_getElem? ht
        have hall : (Tryd.f6.params.toList.all fun u => !Tryd.prog.wantsStandIn u) = true := by kernel_rfl
        exact (show Tryd.prog.wantsStandIn t = false by simpa using List.all_eq_true.1 hall t hm)⟩)
    (by kernel_rfl)
#print axioms carded
end Go.Proofs.YtegiadfbniamkaaDoor.amountReadsMatchSpec
namespace Go.Proofs.YtegiadfbniamkaaDoor
/-- The card, under a short name, for the claim. -/
theorem amountReadsMatchSpecUpto_holds : Rows.AmountReadsMatchSpecUptoCardSaid := amountReadsMatchSpec.carded
end Go.Proofs.YtegiadfbniamkaaDoor
