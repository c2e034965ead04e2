/- The run of the law, from any state that the row lets in: it returns true. -/
import Derived.Test.YtgoepklennckmaaGreatDoorTie
import Derived.Test.YtgoepklennckmaaGreatDoorCards
import Derived.Test.YtgoepklennckmaaGreatDoorP3
import Derived.Test.YtgoepklennckmaaGreatDoorRaGv
import Derived.WalkKit
import Derived.ProofKit
import Derived.Lay
namespace Go.Proofs.YtgoepklennckmaaGreatDoor.topFlatOrdersAddUp
open Go Go.Ra Go.ChangeShapes Go.WideShapes Go.ChangeAt Go.RowKit
set_option linter.unusedVariables false

theorem own : ownKnob Tryz.prog.godebug = none := by kernel_rfl
theorem laidOut : laidOutB Tryz.prog = true := by kernel_rfl

theorem pure (x : (Eq.A.var 3).PT) (h : wfE (.pair .leaf (.pair .leaf (.pair .leaf (.pair .leaf (.pair .leaf (.sl 80 (.pair .leaf (.pair .leaf (.pair (.pair .leaf .leaf) (.pair .leaf (.pair (.pair .leaf .leaf) .leaf))))))))))) (tupEK (Eq.A.var 3).parEs) x) : ∃ k y, callA Tryz.prog Eq.A k 3 x = some y ∧ unT (Eq.A.var 3).retEs y = [⟨.bool, true⟩] := by
  obtain ⟨k, hk⟩ := (Eq.ev_law_top x).ex
  exact ⟨k, true, hk, rfl⟩

theorem known (W : World) (hsh : W.ShapedOpen Tryz.prog) (hL : laidMetH Tryz.prog Rows.topFlatOrdersAddUpRow.laid W) : Known.K W (fun b => Inside W b ∧ ¬ False) :=
  ⟨know_tab (fun x => x.1 == "internal/strconv.uint64pow10") (by kernel_rfl) (by kernel_rfl) (g := 2) (t := 202) (e := 125) (by kernel_rfl) (by kernel_rfl) Tryz.underlying202 Tryz.underlying125 (by kernel_rfl) (by kernel_rfl) hL, (by
    obtain ⟨m, hm⟩ := Tryz.laysM155.s1_3 W hsh
    exact ⟨⟨World.block_lt_of_cell? _ _ hm, fun z => z⟩, m, hm⟩)⟩

set_option maxRecDepth 100000 in
theorem lifted (os : Os) (started : os.Started) (H : Type) (enc : TypeId × Value → H) :
    ReturnsInHanded {} Tryz.checked os 3 .any (fun w args => (Rows.topFlatOrdersAddUpSpec.pre enc Tryz.prog Tryz.f3 [] false w args ∧ laidMetH Tryz.prog Rows.topFlatOrdersAddUpRow.laid w) ∧ sizedMet enc Tryz.prog Tryz.f3 (OpenSpec.ofChange Rows.topFlatOrdersAddUpSpec) false w args) (Rows.topFlatOrdersAddUpSpec.post enc Tryz.prog Tryz.f3 false true false false) := by
  refine law_shaped (C := Tryz.checked) (A := Eq.A) (u := 3) (n := 20) (es := .pair .leaf (.pair .leaf (.pair .leaf (.pair .leaf (.pair .leaf (.sl 80 (.pair .leaf (.pair .leaf (.pair (.pair .leaf .leaf) (.pair .leaf (.pair (.pair .leaf .leaf) .leaf))))))))))) (rt := 4) Rows.topFlatOrdersAddUpRow.laid Eq.hmix Eq.gv_ok Eq.pr_ok own started (by kernel_rfl) Tryz.func3 laidOut (by kernel_rfl) (by kernel_rfl) rfl rfl Tryz.underlying4 rfl rfl ?_ pure known
    (ChangeSpec.witness_shaped (enc := enc) (C := Tryz.checked) (os := os) (X := fun w _ => laidMetH Tryz.prog Rows.topFlatOrdersAddUpRow.laid w) false (World.laidAll Tryz.prog os Rows.topFlatOrdersAddUpRow.laid) #[.agg #[.string ⟨#[]⟩, .string ⟨#[]⟩, .string ⟨#[]⟩, .int .i64 0, .int .i64 0, .slice none 0 0]] 8 (World.laidAll_os _ _ _) (World.shaped_of_ZipB (by kernel_rfl) (by kernel_rfl)) (by kernel_rfl) (by kernel_rfl) (by kernel_rfl)
      (by rw [MakeChecks.laidMetH_plain _ _ _ (by kernel_rfl)]; exact laidMet_laidAll _ (by kernel_rfl) (by kernel_rfl)))
  intro ds hds
  have hds' : ds.length = 1 := hds
  match ds, hds' with
  | [d0], _ => exact ⟨rfl, rfl, rfl⟩

end Go.Proofs.YtgoepklennckmaaGreatDoor.topFlatOrdersAddUp
