/- FlatLinesMatchSpec: for every input the law returns true, and each argument reads behind the call as it read before. The listed variables start as the program's text lays them; the card ties them to it. -/
import Derived.Test.YtpgbbmdfnmjjjaaGreatDoorTie
import Derived.Test.YtpgbbmdfnmjjjaaGreatDoorCards
import Derived.Test.YtpgbbmdfnmjjjaaGreatDoorP2
import Derived.Test.YtpgbbmdfnmjjjaaGreatDoorRaGv
import Derived.WalkKit
import Derived.ProofKit
import Derived.Lay
namespace Go.Proofs.YtpgbbmdfnmjjjaaGreatDoor.flatLinesMatchSpec
open Go Go.Ra Go.ChangeShapes Go.WideShapes Go.ChangeAt Go.RowKit
set_option linter.unusedVariables false

theorem own : ownKnob Tryz.prog.godebug = none := by kernel_rfl
theorem laidOut : laidOutB Tryz.prog = true := by kernel_rfl

theorem pure (x : (Eq.A.var 3).PT) (h : wfE (.pair (.pair .leaf (.pair .leaf (.pair (.sl 64 (.pair .leaf (.pair (.sl 56 (.pair .leaf (.pair .leaf (.pair .leaf (.pair .leaf (.pair .leaf (.pair .leaf (.pair .leaf .leaf)))))))) (.pair .leaf .leaf)))) (.pair .leaf (.pair .leaf (.pair .leaf .leaf)))))) (.pair .leaf (.sl 16 .leaf))) (tupEK (Eq.A.var 3).parEs) x) : ∃ k y, callA Tryz.prog Eq.A k 3 x = some y ∧ unT (Eq.A.var 3).retEs y = [⟨.bool, true⟩] := by
  have fax1 : Eq.FitF x.1 := ⟨by
      have q : x.1.2.2.1.length * 64 ≤ 140737488351232 := h.1.2.2.1.1
      omega, fun kd hkd => by
      have q : kd.1.size ≤ 140737488351232 := (h.1.2.2.1.2 kd hkd).1
      omega, fun kd hkd => by
      have q : kd.2.1.length * 56 ≤ 140737488351232 := (h.1.2.2.1.2 kd hkd).2.1.1
      omega⟩
  have rb : Eq.FitR x.2 := ⟨by
      have q : x.2.2.length * 16 ≤ 140737488351232 := h.2.2.1
      omega, fun c hc => h.2.2.2 c hc⟩
  obtain ⟨k, hk⟩ := (Eq.ev_law_lines x.1 x.2 fax1 rb).ex
  exact ⟨k, true, hk, rfl⟩

theorem known (W : World) (hsh : W.ShapedOpen Tryz.prog) (hL : laidMetH Tryz.prog Rows.flatLinesMatchSpecRow.laid W) : Known.K W (fun b => Inside W b ∧ ¬ False) :=
  ⟨know_tab (fun x => x.1 == "internal/strconv.uint64pow10") (by kernel_rfl) (by kernel_rfl) (g := 1) (t := 250) (e := 180) (by kernel_rfl) (by kernel_rfl) Tryz.underlying250 Tryz.underlying180 (by kernel_rfl) (by kernel_rfl) hL, (by
    obtain ⟨m, hm⟩ := Tryz.laysM155.s1_3 W hsh
    exact ⟨⟨World.block_lt_of_cell? _ _ hm, fun z => z⟩, m, hm⟩)⟩

set_option maxRecDepth 100000 in
theorem lifted (os : Os) (started : os.Started) (H : Type) (enc : TypeId × Value → H) :
    ReturnsInHanded {} Tryz.checked os 3 .any (fun w args => (Rows.flatLinesMatchSpecSpec.pre enc Tryz.prog Tryz.f3 [] false w args ∧ laidMetH Tryz.prog Rows.flatLinesMatchSpecRow.laid w) ∧ sizedMet enc Tryz.prog Tryz.f3 (OpenSpec.ofChange Rows.flatLinesMatchSpecSpec) false w args) (Rows.flatLinesMatchSpecSpec.post enc Tryz.prog Tryz.f3 false true false false) := by
  refine law_shaped (C := Tryz.checked) (A := Eq.A) (u := 3) (n := 20) (es := .pair (.pair .leaf (.pair .leaf (.pair (.sl 64 (.pair .leaf (.pair (.sl 56 (.pair .leaf (.pair .leaf (.pair .leaf (.pair .leaf (.pair .leaf (.pair .leaf (.pair .leaf .leaf)))))))) (.pair .leaf .leaf)))) (.pair .leaf (.pair .leaf (.pair .leaf .leaf)))))) (.pair .leaf (.sl 16 .leaf))) (rt := 4) Rows.flatLinesMatchSpecRow.laid Eq.hmix Eq.gv_ok Eq.pr_ok own started (by kernel_rfl) Tryz.func3 laidOut (by kernel_rfl) (by kernel_rfl) rfl rfl Tryz.underlying4 rfl rfl ?_ pure known
    (ChangeSpec.witness_shaped (enc := enc) (C := Tryz.checked) (os := os) (X := fun w _ => laidMetH Tryz.prog Rows.flatLinesMatchSpecRow.laid w) false (World.laidAll Tryz.prog os Rows.flatLinesMatchSpecRow.laid) #[.agg #[.int .u8 0, .int .u8 0, .slice none 0 0, .string ⟨#[]⟩, .string ⟨#[]⟩, .string ⟨#[]⟩, .string ⟨#[]⟩], .agg #[.string ⟨#[]⟩, .slice none 0 0]] 8 (World.laidAll_os _ _ _) (World.shaped_of_ZipB (by kernel_rfl) (by kernel_rfl)) (by kernel_rfl) (by kernel_rfl) (by kernel_rfl)
      (by rw [MakeChecks.laidMetH_plain _ _ _ (by kernel_rfl)]; exact laidMet_laidAll _ (by kernel_rfl) (by kernel_rfl)))
  intro ds hds
  have hds' : ds.length = 2 := hds
  match ds, hds' with
  | [d0, d1], _ => exact ⟨rfl, rfl, rfl⟩

theorem over : Rows.flatLinesMatchSpecRow.holds Tryz.pinned (OpenSpec.ofChange Rows.flatLinesMatchSpecSpec) :=
  OpenClaim.holds_of_wide 3 Tryz.f3 rfl rfl rfl rfl rfl rfl rfl ⟨rfl, rfl, rfl, rfl, rfl⟩ rfl rfl rfl rfl rfl (by kernel_rfl) Tryz.func3 (by kernel_rfl)
    (of_decide_eq_true (by kernel_rfl)) (by unfold Func.isWrapper; first | (rw [if_pos (by decide +kernel)]; kernel_rfl) | (rw [if_neg (by decide +kernel)]; exact ⟨rfl, rfl⟩))
    (fun os started H enc _ => lifted os started H enc)
theorem proved : Rows.FlatLinesMatchSpecSaid := over
theorem carded : Rows.FlatLinesMatchSpecCardSaid :=
  Claim7.holds_tied_plain_at .later [] [.data, .data, .data, .data, .sentinel, .sentinel, .pinned] true (true, "99dab85fa8b56a09103852035ee78ae5cd7f95ffcc0bfed2a2416c092b809ea6") true
    over (fun _ h => by cases h) (by kernel_rfl) (fun _ h => by cases h) flatLinesMatchSpec_row_tie rfl ⟨rfl, rfl⟩ (by kernel_rfl) rfl
    (fun f fn hf hfn => by
      obtain rfl : f = 3 := Option.some.inj ((show Tryz.prog.funcNamed Rows.flatLinesMatchSpecRow.func = some 3 by kernel_rfl).symm.trans hf) |>.symm
      obtain rfl : fn = Tryz.f3 := (Option.some.inj (Tryz.func3.symm.trans hfn)).symm
      exact ⟨by kernel_rfl, fun j t ht => by
        have hm : t ∈ Tryz.f3.params.toList := by simpa using Array.mem_of_getElem? ht
        have hall : (Tryz.f3.params.toList.all fun u => !Tryz.prog.wantsStandIn u) = true := by kernel_rfl
        exact (show Tryz.prog.wantsStandIn t = false by simpa using List.all_eq_true.1 hall t hm)⟩)
    (by kernel_rfl)
#print axioms carded
end Go.Proofs.YtpgbbmdfnmjjjaaGreatDoor.flatLinesMatchSpec
namespace Go.Proofs.YtpgbbmdfnmjjjaaGreatDoor
/-- The card, under a short name, for the claim. -/
theorem flatLinesMatchSpec_holds : Rows.FlatLinesMatchSpecCardSaid := flatLinesMatchSpec.carded
end Go.Proofs.YtpgbbmdfnmjjjaaGreatDoor
