/- The run of the law, from any state that the row lets in: it returns true. -/
import Derived.Test.YtognnibmcifjeaaDoorTie
import Derived.Test.YtognnibmcifjeaaDoorCards
import Derived.Test.YtognnibmcifjeaaDoorP1
import Derived.Test.YtognnibmcifjeaaDoorRaGv
import Derived.WalkKit
import Derived.ProofKit
import Derived.Lay
namespace Go.Proofs.YtognnibmcifjeaaDoor.amountReadsMatchSpec
open Go Go.Ra Go.ChangeShapes Go.WideShapes Go.ChangeAt Go.RowKit
set_option linter.unusedVariables false

theorem own : ownKnob Tryd.prog.godebug = none := by kernel_rfl
theorem laidOut : laidOutB Tryd.prog = true := by kernel_rfl

theorem pure (x : (Eq.A.var 3).PT) (h : wfE (.pair .leaf (.pair .leaf (.pair .leaf .leaf))) (tupEK (Eq.A.var 3).parEs) x) : ∃ k y, callA Tryd.prog Eq.A k 3 x = some y ∧ unT (Eq.A.var 3).retEs y = [⟨.bool, true⟩] := by
  have key : ∀ (a : ByteArray) (b c d : Int), a.size ≤ 140737488351232 → (Lit.int .u8 c).wf = true → (Lit.int .u8 d).wf = true → ∃ k, Eq.interchangelaw1_AmountReadsMatchSpec k a b c d = some true := fun a b c d ha hc hd => (Eq.ev_law_reads a b c d ha (wf_u8 hc) (wf_u8 hd)).ex
  obtain ⟨k, hk⟩ := key x.1 x.2.1 x.2.2.1 x.2.2.2 h.1 h.2.2.1 h.2.2.2
  exact ⟨k, true, hk, rfl⟩

theorem known (W : World) (hsh : W.ShapedOpen Tryd.prog) (hL : laidMetH Tryd.prog Rows.amountReadsMatchSpecRow.laid W) : Known.K W (fun b => Inside W b ∧ ¬ False) :=
  ⟨trivial, (by
    obtain ⟨m, hm⟩ := Tryd.laysM146.s1_3 W hsh
    exact ⟨⟨World.block_lt_of_cell? _ _ hm, fun z => z⟩, m, hm⟩)⟩

set_option maxRecDepth 100000 in
theorem lifted (os : Os) (started : os.Started) (H : Type) (enc : TypeId × Value → H) :
    ReturnsInHanded {} Tryd.checked os 3 .any (fun w args => (Rows.amountReadsMatchSpecSpec.pre enc Tryd.prog Tryd.f3 [] false w args ∧ laidMetH Tryd.prog Rows.amountReadsMatchSpecRow.laid w) ∧ sizedMet enc Tryd.prog Tryd.f3 (OpenSpec.ofChange Rows.amountReadsMatchSpecSpec) false w args) (Rows.amountReadsMatchSpecSpec.post enc Tryd.prog Tryd.f3 false true false false) := by
  refine law_shaped (C := Tryd.checked) (A := Eq.A) (u := 3) (n := 20) (es := .pair .leaf (.pair .leaf (.pair .leaf .leaf))) (rt := 4) Rows.amountReadsMatchSpecRow.laid Eq.hmix Eq.gv_ok Eq.pr_ok own started (by kernel_rfl) Tryd.func3 laidOut (by kernel_rfl) (by kernel_rfl) rfl rfl Tryd.underlying4 rfl rfl ?_ pure known
    (ChangeSpec.witness_shaped (enc := enc) (C := Tryd.checked) (os := os) (X := fun w _ => laidMetH Tryd.prog Rows.amountReadsMatchSpecRow.laid w) false (World.laidAll Tryd.prog os Rows.amountReadsMatchSpecRow.laid) #[.string ⟨#[]⟩, .int .i64 0, .int .u8 0, .int .u8 0] 8 (World.laidAll_os _ _ _) (World.shaped_of_ZipB (by kernel_rfl) (by kernel_rfl)) (by kernel_rfl) (by kernel_rfl) (by kernel_rfl)
      (by rw [MakeChecks.laidMetH_plain _ _ _ (by kernel_rfl)]; exact laidMet_laidAll _ (by kernel_rfl) (by kernel_rfl)))
  intro ds hds
  have hds' : ds.length = 4 := hds
  match ds, hds' with
  | [d0, d1, d2, d3], _ => exact ⟨rfl, rfl, rfl⟩

end Go.Proofs.YtognnibmcifjeaaDoor.amountReadsMatchSpec
