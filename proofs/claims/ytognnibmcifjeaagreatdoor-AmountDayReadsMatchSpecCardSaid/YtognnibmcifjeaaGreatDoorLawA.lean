/- The run of the law, from any state that the row lets in: it returns true. -/
import Derived.Test.YtognnibmcifjeaaGreatDoorTie
import Derived.Test.YtognnibmcifjeaaGreatDoorCards
import Derived.Test.YtognnibmcifjeaaGreatDoorP1
import Derived.Test.YtognnibmcifjeaaGreatDoorRaGv
import Derived.WalkKit
import Derived.ProofKit
import Derived.Lay
namespace Go.Proofs.YtognnibmcifjeaaGreatDoor.amountDayReadsMatchSpec
open Go Go.Ra Go.ChangeShapes Go.WideShapes Go.ChangeAt Go.RowKit
set_option linter.unusedVariables false

theorem own : ownKnob Tryz.prog.godebug = none := by kernel_rfl
theorem laidOut : laidOutB Tryz.prog = true := by kernel_rfl

theorem pure (x : (Eq.A.var 3).PT) (h : wfE (.pair .leaf (.pair .leaf .leaf)) (tupEK (Eq.A.var 3).parEs) x) : ∃ k y, callA Tryz.prog Eq.A k 3 x = some y ∧ unT (Eq.A.var 3).retEs y = [⟨.bool, true⟩] := by
  have key : ∀ (a : ByteArray) (b c : Int), a.size ≤ 140737488351232 → ∃ k, Eq.interchangelaw1_AmountDayReadsMatchSpec k a b c = some true := fun a b c ha => (Eq.ev_law_dayRead a b c ha).ex
  obtain ⟨k, hk⟩ := key x.1 x.2.1 x.2.2 h.1
  exact ⟨k, true, hk, rfl⟩

theorem known (W : World) (hsh : W.ShapedOpen Tryz.prog) (hL : laidMetH Tryz.prog Rows.amountDayReadsMatchSpecRow.laid W) : Known.K W (fun b => Inside W b ∧ ¬ False) :=
  ⟨trivial, trivial⟩

set_option maxRecDepth 100000 in
theorem lifted (os : Os) (started : os.Started) (H : Type) (enc : TypeId × Value → H) :
    ReturnsInHanded {} Tryz.checked os 3 .any (fun w args => (Rows.amountDayReadsMatchSpecSpec.pre enc Tryz.prog Tryz.f3 [] false w args ∧ laidMetH Tryz.prog Rows.amountDayReadsMatchSpecRow.laid w) ∧ sizedMet enc Tryz.prog Tryz.f3 (OpenSpec.ofChange Rows.amountDayReadsMatchSpecSpec) false w args) (Rows.amountDayReadsMatchSpecSpec.post enc Tryz.prog Tryz.f3 false true false false) := by
  refine law_shaped (C := Tryz.checked) (A := Eq.A) (u := 3) (n := 20) (es := .pair .leaf (.pair .leaf .leaf)) (rt := 4) Rows.amountDayReadsMatchSpecRow.laid Eq.hmix Eq.gv_ok Eq.pr_ok own started (by kernel_rfl) Tryz.func3 laidOut (by kernel_rfl) (by kernel_rfl) rfl rfl Tryz.underlying4 rfl rfl ?_ pure known
    (ChangeSpec.witness_shaped (enc := enc) (C := Tryz.checked) (os := os) (X := fun w _ => laidMetH Tryz.prog Rows.amountDayReadsMatchSpecRow.laid w) false (World.laidAll Tryz.prog os Rows.amountDayReadsMatchSpecRow.laid) #[.string ⟨#[]⟩, .int .i64 0, .int .i64 0] 8 (World.laidAll_os _ _ _) (World.shaped_of_ZipB (by kernel_rfl) (by kernel_rfl)) (by kernel_rfl) (by kernel_rfl) (by kernel_rfl)
      (by rw [MakeChecks.laidMetH_plain _ _ _ (by kernel_rfl)]; exact laidMet_laidAll _ (by kernel_rfl) (by kernel_rfl)))
  intro ds hds
  have hds' : ds.length = 3 := hds
  match ds, hds' with
  | [d0, d1, d2], _ => exact ⟨rfl, rfl, rfl⟩

end Go.Proofs.YtognnibmcifjeaaGreatDoor.amountDayReadsMatchSpec
