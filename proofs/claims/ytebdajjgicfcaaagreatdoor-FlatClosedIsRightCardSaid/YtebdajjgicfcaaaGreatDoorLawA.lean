/- The run of the law, from any state that the row lets in: it returns true. -/
import Derived.Test.YtebdajjgicfcaaaGreatDoorTie
import Derived.Test.YtebdajjgicfcaaaGreatDoorCards
import Derived.Test.YtebdajjgicfcaaaGreatDoorP2
import Derived.Test.YtebdajjgicfcaaaGreatDoorRaGv
import Derived.WalkKit
import Derived.ProofKit
import Derived.Lay
namespace Go.Proofs.YtebdajjgicfcaaaGreatDoor.flatClosedIsRight
open Go Go.Ra Go.ChangeShapes Go.WideShapes Go.ChangeAt Go.RowKit
set_option linter.unusedVariables false

theorem own : ownKnob Tryz.prog.godebug = none := by kernel_rfl
theorem laidOut : laidOutB Tryz.prog = true := by kernel_rfl

theorem pure (x : (Eq.A.var 5).PT) (h : wfE (.pair (.pair .leaf (.pair .leaf (.pair (.sl 64 (.pair .leaf (.pair (.sl 56 (.pair .leaf (.pair .leaf (.pair .leaf (.pair .leaf (.pair .leaf (.pair .leaf (.pair .leaf .leaf)))))))) (.pair .leaf .leaf)))) (.pair .leaf (.pair .leaf (.pair .leaf .leaf)))))) (.sl 40 (.pair .leaf (.sl 16 .leaf)))) (tupEK (Eq.A.var 5).parEs) x) : ∃ k y, callA Tryz.prog Eq.A k 5 x = some y ∧ unT (Eq.A.var 5).retEs y = [⟨.bool, true⟩] := by
  have f0 : Eq.FitF x.1 := ⟨by
      have q : x.1.2.2.1.length * 64 ≤ 140737488351232 := h.1.2.2.1.1
      omega, fun kd hkd => by
      have q : kd.1.size ≤ 140737488351232 := (h.1.2.2.1.2 kd hkd).1
      omega, fun kd hkd => by
      have q : kd.2.1.length * 56 ≤ 140737488351232 := (h.1.2.2.1.2 kd hkd).2.1.1
      omega⟩
  have f1 : Eq.FitRs x.2 := ⟨by
      have q : x.2.length * 40 ≤ 140737488351232 := h.2.1
      omega, fun r hr => ⟨by
      have q : r.2.length * 16 ≤ 140737488351232 := (h.2.2 r hr).2.1
      omega, fun c hc => (h.2.2 r hr).2.2 c hc⟩⟩
  obtain ⟨k, hk⟩ := (Eq.ev_law_closed x.1 x.2 f0 f1).ex
  exact ⟨k, true, hk, rfl⟩

theorem known (W : World) (hsh : W.ShapedOpen Tryz.prog) (hL : laidMetH Tryz.prog Rows.flatClosedIsRightRow.laid W) : Known.K W (fun b => Inside W b ∧ ¬ False) :=
  ⟨know_tab (fun x => x.1 == "internal/strconv.uint64pow10") (by kernel_rfl) (by kernel_rfl) (g := 2) (t := 219) (e := 145) (by kernel_rfl) (by kernel_rfl) Tryz.underlying219 Tryz.underlying145 (by kernel_rfl) (by kernel_rfl) hL, (by
    obtain ⟨m, hm⟩ := Tryz.laysM155.s1_3 W hsh
    exact ⟨⟨World.block_lt_of_cell? _ _ hm, fun z => z⟩, m, hm⟩)⟩

set_option maxRecDepth 100000 in
theorem lifted (os : Os) (started : os.Started) (H : Type) (enc : TypeId × Value → H) :
    ReturnsInHanded {} Tryz.checked os 5 .any (fun w args => (Rows.flatClosedIsRightSpec.pre enc Tryz.prog Tryz.f5 [] false w args ∧ laidMetH Tryz.prog Rows.flatClosedIsRightRow.laid w) ∧ sizedMet enc Tryz.prog Tryz.f5 (OpenSpec.ofChange Rows.flatClosedIsRightSpec) false w args) (Rows.flatClosedIsRightSpec.post enc Tryz.prog Tryz.f5 false true false false) := by
  refine law_shaped (C := Tryz.checked) (A := Eq.A) (u := 5) (n := 20) (es := .pair (.pair .leaf (.pair .leaf (.pair (.sl 64 (.pair .leaf (.pair (.sl 56 (.pair .leaf (.pair .leaf (.pair .leaf (.pair .leaf (.pair .leaf (.pair .leaf (.pair .leaf .leaf)))))))) (.pair .leaf .leaf)))) (.pair .leaf (.pair .leaf (.pair .leaf .leaf)))))) (.sl 40 (.pair .leaf (.sl 16 .leaf)))) (rt := 4) Rows.flatClosedIsRightRow.laid Eq.hmix Eq.gv_ok Eq.pr_ok own started (by kernel_rfl) Tryz.func5 laidOut (by kernel_rfl) (by kernel_rfl) rfl rfl Tryz.underlying4 rfl rfl ?_ pure known
    (ChangeSpec.witness_shaped (enc := enc) (C := Tryz.checked) (os := os) (X := fun w _ => laidMetH Tryz.prog Rows.flatClosedIsRightRow.laid w) false (World.laidAll Tryz.prog os Rows.flatClosedIsRightRow.laid) #[.agg #[.int .u8 0, .int .u8 0, .slice none 0 0, .string ⟨#[]⟩, .string ⟨#[]⟩, .string ⟨#[]⟩, .string ⟨#[]⟩], .slice none 0 0] 8 (World.laidAll_os _ _ _) (World.shaped_of_ZipB (by kernel_rfl) (by kernel_rfl)) (by kernel_rfl) (by kernel_rfl) (by kernel_rfl)
      (by rw [MakeChecks.laidMetH_plain _ _ _ (by kernel_rfl)]; exact laidMet_laidAll _ (by kernel_rfl) (by kernel_rfl)))
  intro ds hds
  have hds' : ds.length = 2 := hds
  match ds, hds' with
  | [d0, d1], _ => exact ⟨rfl, rfl, rfl⟩

end Go.Proofs.YtebdajjgicfcaaaGreatDoor.flatClosedIsRight
