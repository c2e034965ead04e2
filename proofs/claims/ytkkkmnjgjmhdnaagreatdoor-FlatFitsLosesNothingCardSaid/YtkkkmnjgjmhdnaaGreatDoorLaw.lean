/- FlatFitsLosesNothing: for every input the law returns true, and each argument reads behind the call as it read before. The listed variables start as the program's text lays them; the card ties them to it. -/
import Derived.Test.YtkkkmnjgjmhdnaaGreatDoorTie
import Derived.Test.YtkkkmnjgjmhdnaaGreatDoorCards
import Derived.Test.YtkkkmnjgjmhdnaaGreatDoorP3
import Derived.Test.YtkkkmnjgjmhdnaaGreatDoorRaGv
import Derived.WalkKit
import Derived.ProofKit
import Derived.Lay
namespace Go.Proofs.YtkkkmnjgjmhdnaaGreatDoor.flatFitsLosesNothing
open Go Go.Ra Go.ChangeShapes Go.WideShapes Go.ChangeAt Go.RowKit
set_option linter.unusedVariables false

theorem own : ownKnob Tryz.prog.godebug = none := by kernel_rfl
theorem laidOut : laidOutB Tryz.prog = true := by kernel_rfl

theorem pure (x : (Eq.A.var 4).PT) (h : wfE (.pair (.pair .leaf (.pair .leaf (.pair (.sl 64 (.pair .leaf (.pair (.sl 56 (.pair .leaf (.pair .leaf (.pair .leaf (.pair .leaf (.pair .leaf (.pair .leaf (.pair .leaf .leaf)))))))) (.pair .leaf .leaf)))) (.pair .leaf (.pair .leaf (.pair .leaf .leaf)))))) (.pair (.pair .leaf (.pair .leaf (.pair (.sl 64 (.pair .leaf (.pair (.sl 56 (.pair .leaf (.pair .leaf (.pair .leaf (.pair .leaf (.pair .leaf (.pair .leaf (.pair .leaf .leaf)))))))) (.pair .leaf .leaf)))) (.pair .leaf (.pair .leaf (.pair .leaf .leaf)))))) (.sl 40 (.pair .leaf (.sl 16 .leaf))))) (tupEK (Eq.A.var 4).parEs) x) : ∃ k y, callA Tryz.prog Eq.A k 4 x = some y ∧ unT (Eq.A.var 4).retEs y = [⟨.bool, true⟩] := by
  have f0 : Eq.FitF x.1 := ⟨by
      have q : x.1.2.2.1.length * 64 ≤ 140737488351232 := h.1.2.2.1.1
      omega, fun kd hkd => by
      have q : kd.1.size ≤ 140737488351232 := (h.1.2.2.1.2 kd hkd).1
      omega, fun kd hkd => by
      have q : kd.2.1.length * 56 ≤ 140737488351232 := (h.1.2.2.1.2 kd hkd).2.1.1
      omega⟩
  have f1 : Eq.FitF x.2.1 := ⟨by
      have q : x.2.1.2.2.1.length * 64 ≤ 140737488351232 := h.2.1.2.2.1.1
      omega, fun kd hkd => by
      have q : kd.1.size ≤ 140737488351232 := (h.2.1.2.2.1.2 kd hkd).1
      omega, fun kd hkd => by
      have q : kd.2.1.length * 56 ≤ 140737488351232 := (h.2.1.2.2.1.2 kd hkd).2.1.1
      omega⟩
  have f2 : Eq.FitRs x.2.2 := ⟨by
      have q : x.2.2.length * 40 ≤ 140737488351232 := h.2.2.1
      omega, fun r hr => ⟨by
      have q : r.2.length * 16 ≤ 140737488351232 := (h.2.2.2 r hr).2.1
      omega, fun c hc => (h.2.2.2 r hr).2.2 c hc⟩⟩
  obtain ⟨k, hk⟩ := (Eq.ev_law_fits x.1 x.2.1 x.2.2 f0 f1 f2).ex
  exact ⟨k, true, hk, rfl⟩

theorem known (W : World) (hsh : W.ShapedOpen Tryz.prog) (hL : laidMetH Tryz.prog Rows.flatFitsLosesNothingRow.laid W) : Known.K W (fun b => Inside W b ∧ ¬ False) :=
  ⟨know_tab (fun x => x.1 == "internal/strconv.uint64pow10") (by kernel_rfl) (by kernel_rfl) (g := 2) (t := 229) (e := 140) (by kernel_rfl) (by kernel_rfl) Tryz.underlying229 Tryz.underlying140 (by kernel_rfl) (by kernel_rfl) hL, (by
    obtain ⟨m, hm⟩ := Tryz.laysM155.s1_3 W hsh
    exact ⟨⟨World.block_lt_of_cell? _ _ hm, fun z => z⟩, m, hm⟩)⟩

set_option maxRecDepth 100000 in
theorem lifted (os : Os) (started : os.Started) (H : Type) (enc : TypeId × Value → H) :
    ReturnsInHanded {} Tryz.checked os 4 .any (fun w args => (Rows.flatFitsLosesNothingSpec.pre enc Tryz.prog Tryz.f4 [] false w args ∧ laidMetH Tryz.prog Rows.flatFitsLosesNothingRow.laid w) ∧ sizedMet enc Tryz.prog Tryz.f4 (OpenSpec.ofChange Rows.flatFitsLosesNothingSpec) false w args) (Rows.flatFitsLosesNothingSpec.post enc Tryz.prog Tryz.f4 false true false false) := by
  refine law_shaped (C := Tryz.checked) (A := Eq.A) (u := 4) (n := 20) (es := .pair (.pair .leaf (.pair .leaf (.pair (.sl 64 (.pair .leaf (.pair (.sl 56 (.pair .leaf (.pair .leaf (.pair .leaf (.pair .leaf (.pair .leaf (.pair .leaf (.pair .leaf .leaf)))))))) (.pair .leaf .leaf)))) (.pair .leaf (.pair .leaf (.pair .leaf .leaf)))))) (.pair (.pair .leaf (.pair .leaf (.pair (.sl 64 (.pair .leaf (.pair (.sl 56 (.pair .leaf (.pair .leaf (.pair .leaf (.pair .leaf (.pair .leaf (.pair .leaf (.pair .leaf .leaf)))))))) (.pair .leaf .leaf)))) (.pair .leaf (.pair .leaf (.pair .leaf .leaf)))))) (.sl 40 (.pair .leaf (.sl 16 .leaf))))) (rt := 4) Rows.flatFitsLosesNothingRow.laid Eq.hmix Eq.gv_ok Eq.pr_ok own started (by kernel_rfl) Tryz.func4 laidOut (by kernel_rfl) (by kernel_rfl) rfl rfl Tryz.underlying4 rfl rfl ?_ pure known
    (ChangeSpec.witness_shaped (enc := enc) (C := Tryz.checked) (os := os) (X := fun w _ => laidMetH Tryz.prog Rows.flatFitsLosesNothingRow.laid w) false (World.laidAll Tryz.prog os Rows.flatFitsLosesNothingRow.laid) #[.agg #[.int .u8 0, .int .u8 0, .slice none 0 0, .string ⟨#[]⟩, .string ⟨#[]⟩, .string ⟨#[]⟩, .string ⟨#[]⟩], .agg #[.int .u8 0, .int .u8 0, .slice none 0 0, .string ⟨#[]⟩, .string ⟨#[]⟩, .string ⟨#[]⟩, .string ⟨#[]⟩], .slice none 0 0] 8 (World.laidAll_os _ _ _) (World.shaped_of_ZipB (by kernel_rfl) (by kernel_rfl)) (by kernel_rfl) (by kernel_rfl) (by kernel_rfl)
      (by rw [MakeChecks.laidMetH_plain _ _ _ (by kernel_rfl)]; exact laidMet_laidAll _ (by kernel_rfl) (by kernel_rfl)))
  intro ds hds
  have hds' : ds.length = 3 := hds
  match ds, hds' with
  | [d0, d1, d2], _ => exact ⟨rfl, rfl, rfl⟩

theorem over : Rows.flatFitsLosesNothingRow.holds Tryz.pinned (OpenSpec.ofChange Rows.flatFitsLosesNothingSpec) :=
  OpenClaim.holds_of_wide 4 Tryz.f4 rfl rfl rfl rfl rfl rfl rfl ⟨rfl, rfl, rfl, rfl, rfl⟩ rfl rfl rfl rfl rfl (by kernel_rfl) Tryz.func4 (by kernel_rfl)
    (of_decide_eq_true (by kernel_rfl)) (by unfold Func.isWrapper; first | (rw [if_pos (by decide +kernel)]; kernel_rfl) | (rw [if_neg (by decide +kernel)]; exact ⟨rfl, rfl⟩))
    (fun os started H enc _ => lifted os started H enc)
theorem proved : Rows.FlatFitsLosesNothingSaid := over
theorem carded : Rows.FlatFitsLosesNothingCardSaid :=
  Claim7.holds_tied_plain_at .later [] [.data, .data, .data, .data, .sentinel, .sentinel, .pinned] true (true, "b4b35fe2ca74b869004d353753018f13566687d65ddd8470f02ec558e8bd53e7") true
    over (fun _ h => by cases h) (by kernel_rfl) (fun _ h => by cases h) flatFitsLosesNothing_row_tie rfl ⟨rfl, rfl⟩ (by kernel_rfl) rfl
    (fun f fn hf hfn => by
      obtain rfl : f = 4 := Option.some.inj ((show Tryz.prog.funcNamed Rows.flatFitsLosesNothingRow.func = some 4 by kernel_rfl).symm.trans hf) |>.symm
      obtain rfl : fn = Tryz.f4 := (Option.some.inj (Tryz.func4.symm.trans hfn)).symm
      exact ⟨by kernel_rfl, fun j t ht => by
        have hm : t ∈ Tryz.f4.params.toList := by simpa using Array.mem_of_getElem? ht
        have hall : (Tryz.f4.params.toList.all fun u => !Tryz.prog.wantsStandIn u) = true := by kernel_rfl
        exact (show Tryz.prog.wantsStandIn t = false by simpa using List.all_eq_true.1 hall t hm)⟩)
    (by kernel_rfl)
#print axioms carded
end Go.Proofs.YtkkkmnjgjmhdnaaGreatDoor.flatFitsLosesNothing
namespace Go.Proofs.YtkkkmnjgjmhdnaaGreatDoor
/-- The card, under a short name, for the claim. -/
theorem flatFitsLosesNothing_holds : Rows.FlatFitsLosesNothingCardSaid := flatFitsLosesNothing.carded
end Go.Proofs.YtkkkmnjgjmhdnaaGreatDoor
