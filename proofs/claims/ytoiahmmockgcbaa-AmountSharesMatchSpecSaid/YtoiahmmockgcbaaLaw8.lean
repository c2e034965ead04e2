/- AmountSharesMatchSpec: for every input the law returns true, and each argument reads behind the call as it read before. No condition.  -/
import Derived.Test.YtoiahmmockgcbaaRows
import Derived.Test.YtoiahmmockgcbaaRaSharesC
import Derived.Test.YtoiahmmockgcbaaRaGv
import Derived.WalkKit
import Derived.ProofKit
namespace Go.Proofs.Ytoiahmmockgcbaa.amountSharesMatchSpec
open Go Go.Ra Go.ChangeShapes Go.WideShapes Go.ChangeAt Go.RowKit
set_option linter.unusedVariables false

theorem own : ownKnob Try.prog.godebug = none := by kernel_rfl
theorem laidOut : laidOutB Try.prog = true := by kernel_rfl

theorem pure (x : (Eq.A.var 10).PT) (h : wfE (.pair (.pair .leaf .leaf) (.sl 8 .leaf)) (tupEK (Eq.A.var 10).parEs) x) : ∃ k y, callA Try.prog Eq.A k 10 x = some y ∧ unT (Eq.A.var 10).retEs y = [⟨.bool, true⟩] := by
  obtain ⟨k, hk⟩ := (Eq.ev_law10 x.1 x.2).ex
  exact ⟨k, true, hk, rfl⟩

set_option maxRecDepth 100000 in
theorem lifted (os : Os) (started : os.Started) (H : Type) (enc : TypeId × Value → H) :
    ReturnsInHanded {} Try.checked os 10 .any (Rows.amountSharesMatchSpecSpec.pre6 enc Try.prog Try.f10 Rows.amountSharesMatchSpecRow.domain false) (Rows.amountSharesMatchSpecSpec.post enc Try.prog Try.f10 false true false false) := by
  refine law_lifted (C := Try.checked) (A := Eq.A) (u := 10) (n := 20) (es := .pair (.pair .leaf .leaf) (.sl 8 .leaf)) (rt := 4) Eq.hmix Eq.gv_ok own started (by kernel_rfl) Try.func10 laidOut (by kernel_rfl) (by kernel_rfl) rfl rfl Try.underlying4 rfl rfl ?_ pure (fun _ => trivial)
    (ChangeSpec.witness6 (enc := enc) (C := Try.checked) false ⟨#[], #[.agg #[.int .i64 0, .int .i64 0], .slice none 0 0], []⟩ 8 (by kernel_rfl) (by kernel_rfl) (by kernel_rfl) (by kernel_rfl))
  intro ds hds
  have hds' : ds.length = 2 := hds
  match ds, hds' with
  | [d0, d1], _ => exact ⟨rfl, rfl, rfl⟩

theorem over : Rows.amountSharesMatchSpecRow.holds Try.pinned (OpenSpec.ofChange Rows.amountSharesMatchSpecSpec) :=
  OpenClaim.holds_of_wide 10 Try.f10 rfl rfl rfl rfl rfl rfl rfl ⟨rfl, rfl, rfl, rfl, rfl⟩ rfl rfl rfl rfl rfl (by kernel_rfl) Try.func10 (by kernel_rfl)
    (of_decide_eq_true (by kernel_rfl)) (by unfold Func.isWrapper; first | (rw [if_pos (by decide +kernel)]; kernel_rfl) | (rw [if_neg (by decide +kernel)]; exact ⟨rfl, rfl⟩))
    (fun os started H enc _ => lifted os started H enc)
theorem proved : Rows.AmountSharesMatchSpecSaid := over
#print axioms proved
end Go.Proofs.Ytoiahmmockgcbaa.amountSharesMatchSpec
namespace Go.Proofs.Ytoiahmmockgcbaa
/-- The row, under a short name, for the claim. -/
theorem amountSharesMatchSpec_holds : Rows.AmountSharesMatchSpecSaid := amountSharesMatchSpec.proved
end Go.Proofs.Ytoiahmmockgcbaa
