/- AmountSumsAreExact: for every input the law returns true, and each argument reads behind the call as it read before. No condition. -/
import Derived.Test.YtoiahmmockgcbaaRows
import Derived.Test.YtoiahmmockgcbaaRaSums
import Derived.Test.YtoiahmmockgcbaaRaGv
import Derived.WalkKit
import Derived.ProofKit
namespace Go.Proofs.Ytoiahmmockgcbaa.amountSumsAreExact
open Go Go.Ra Go.ChangeShapes Go.WideShapes Go.ChangeAt Go.RowKit
set_option linter.unusedVariables false

theorem own : ownKnob Try.prog.godebug = none := by kernel_rfl
theorem laidOut : laidOutB Try.prog = true := by kernel_rfl

theorem pure (x : (Eq.A.var 3).PT) (h : wfE (.pair (.sl 16 (.pair .leaf .leaf)) .leaf) (tupEK (Eq.A.var 3).parEs) x) : ∃ k y, callA Try.prog Eq.A k 3 x = some y ∧ unT (Eq.A.var 3).retEs y = [⟨.bool, true⟩] := by
  have key : ∀ (l : List (Int × Int)) (b : Int), l.length * 16 ≤ 140737488351232 → (Lit.int .i64 b).wf = true → ∃ k, Eq.interchangelaw1_AmountSumsAreExact k l b = some true := fun l b hl hb =>
    (Eq.ev_law l b (by omega) (wf_i64 hb).1 (wf_i64 hb).2).ex
  obtain ⟨k, hk⟩ := key x.1 x.2 h.1.1 h.2
  exact ⟨k, true, hk, rfl⟩

set_option maxRecDepth 100000 in
theorem lifted (os : Os) (started : os.Started) (H : Type) (enc : TypeId × Value → H) :
    ReturnsInHanded {} Try.checked os 3 .any (Rows.amountSumsAreExactSpec.pre6 enc Try.prog Try.f3 Rows.amountSumsAreExactRow.domain false) (Rows.amountSumsAreExactSpec.post enc Try.prog Try.f3 false true false false) := by
  refine law_lifted (C := Try.checked) (A := Eq.A) (u := 3) (n := 20) (es := .pair (.sl 16 (.pair .leaf .leaf)) .leaf) (rt := 4) Eq.hmix Eq.gv_ok own started (by kernel_rfl) Try.func3 laidOut (by kernel_rfl) (by kernel_rfl) rfl rfl Try.underlying4 rfl rfl ?_ pure
    (ChangeSpec.witness6 (enc := enc) (C := Try.checked) false ⟨#[], #[.slice none 0 0, .int .i64 0], []⟩ 8 (by kernel_rfl) (by kernel_rfl) (by kernel_rfl) (by kernel_rfl))
  intro ds hds
  have hds' : ds.length = 2 := hds
  match ds, hds' with
  | [d1, d2], _ => exact ⟨rfl, rfl, rfl⟩

theorem over : Rows.amountSumsAreExactRow.holds Try.pinned (OpenSpec.ofChange Rows.amountSumsAreExactSpec) :=
  OpenClaim.holds_of_wide 3 Try.f3 rfl rfl rfl rfl rfl rfl rfl ⟨rfl, rfl, rfl, rfl, rfl⟩ rfl rfl rfl rfl rfl (by kernel_rfl) Try.func3 (by kernel_rfl)
    (of_decide_eq_true (by kernel_rfl)) (by unfold Func.isWrapper; first | (rw [if_pos (by decide +kernel)]; kernel_rfl) | (rw [if_neg (by decide +kernel)]; exact ⟨rfl, rfl⟩))
    (fun os started H enc _ => lifted os started H enc)
theorem proved : Rows.AmountSumsAreExactSaid := over
#print axioms proved
end Go.Proofs.Ytoiahmmockgcbaa.amountSumsAreExact
namespace Go.Proofs.Ytoiahmmockgcbaa
/-- The row, under a short name, for the claim. -/
theorem amountSumsAreExact_holds : Rows.AmountSumsAreExactSaid := amountSumsAreExact.proved
end Go.Proofs.Ytoiahmmockgcbaa
