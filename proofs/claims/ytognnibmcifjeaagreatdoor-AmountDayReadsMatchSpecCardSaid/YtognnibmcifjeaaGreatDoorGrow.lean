/- A builder of strings that grows first; bytes counted. -/
import Derived.Test.YtognnibmcifjeaaGreatDoorK4
import Derived.Shelf.Strings.Builder2
import Derived.Shelf.Strings.Count
import Derived.Lib.SplitLaws
namespace Go.Proofs
open Go.Shelf Go.RowKit Go.Ra
variable {P : Program} {ρ : Ren}

theorem Ra.grown (w : World) (b : Nat) (T e : TypeId) (p : Value) (cs : Array Value) (hbk : w.heap[b]? = some (.cells #[p, .slice none 0 0] T (0, 0))) (hp : p = .pointer (some ⟨b, 0, none⟩)) (hm : cs.size ≤ maxLen) (hTe : T ≠ e) :
    ∃ v', BldAt ((w.alloc (.cells cs e)).setCell ⟨b, 1, none⟩ (.slice (some ⟨w.heap.size, 0, none⟩) 0 cs.size)).drew.drew.drew T e b v' ⟨#[]⟩ ∧ Mod (fun k => b = k) w ((w.alloc (.cells cs e)).setCell ⟨b, 1, none⟩ (.slice (some ⟨w.heap.size, 0, none⟩) 0 cs.size)).drew.drew.drew ∧ ∀ k, v'.ownBlock = some k → w.heap.size ≤ k := by
  have hlt : b < w.heap.size := (Array.getElem?_eq_some_iff.1 hbk).1
  obtain ⟨⟨_, v, h1, h2, h3⟩, hB⟩ := Lib.grown_fresh (T := T) (e := e) (B := 0) (cs := cs) (Nat.zero_le _) hbk (Nat.zero_le _) hm hTe
  have old : ∀ k, k < w.heap.size → (w.alloc (.cells cs e)).heap[k]? = w.heap[k]? := fun k hk => Lib.alloc_old w _ k hk
  have hv : v = .slice (some ⟨w.heap.size, 0, none⟩) 0 cs.size := by
    have h0 : ((w.alloc (.cells cs e)).setCell ⟨b, 1, none⟩ (.slice (some ⟨w.heap.size, 0, none⟩) 0 cs.size)).heap[b]? = some (.cells #[p, v] T (0, 0)) := h1
    have h4 : (w.alloc (.cells cs e)).heap[b]? = some (.cells #[p, .slice none 0 0] T (0, 0)) := (old b hlt).trans hbk
    simp only [World.setCell, Array.getElem?_modify, h4, if_true, Option.map_some, Option.some.injEq] at h0
    simpa using h0.symm
  subst hv
  refine ⟨_, ⟨p, h1, .inr hp, h2, h3⟩, ⟨hB.os, hB.tape, hB.output, hB.size, fun k hk hn => ?_⟩, fun k hk => ?_⟩
  · show ((w.alloc (.cells cs e)).setCell ⟨b, 1, none⟩ (.slice (some ⟨w.heap.size, 0, none⟩) 0 cs.size)).heap[k]? = _
    simp only [World.setCell, Array.getElem?_modify, if_neg hn]
    exact old k hk
  · simp only [Value.ownBlock, Option.some.injEq] at hk
    omega

set_option maxHeartbeats 2000000 in
set_option maxRecDepth 1000000 in
theorem Ra.grow0 (L : Lays.n241 P ρ) (X : Builder.Extra P ρ) (b n : Nat) (w : World) (hbk : w.heap[b]? = some (.cells #[.pointer (some ⟨b, 0, none⟩), .slice none 0 0] (ρ.t 72) (0, 0))) (hn : n ≤ 281474976710656) :
    Calls P (ρ.f 241) #[.pointer (some ⟨b, 0, none⟩), .int .i64 n] w fun e w' => e = .returned (.tuple #[]) ∧ ∃ v', BldAt w' (ρ.t 72) (ρ.t 5) b v' ⟨#[]⟩ ∧ Mod (fun k => b = k) w w' ∧ ∀ k, v'.ownBlock = some k → w.heap.size ≤ k := by
  obtain ⟨cs, hrun, hle, hmax⟩ := Lib.run_makeNoZero (P := P) w.drew #[(ρ.t 3)] (ρ.t 37) (ρ.t 5) L.t37 n hn
  have hcall : (callFunc (ρ.f 277) #[.int .i64 (IntKind.i64.wrap (IntKind.i64.wrap 0 + (n : Int)))]).run P w.drew = .ok (.value (.slice (some ⟨w.drew.heap.size, 0, none⟩) n cs.size)) (w.drew.drew.drew.alloc (.cells cs (ρ.t 5))) := by
    rw [show IntKind.i64.wrap (IntKind.i64.wrap 0 + (n : Int)) = n by rw [IntKind.wrap_i64, IntKind.wrap_i64]; omega, run_callFunc_extern L.f277 (by kernel_rfl) (by kernel_rfl) (by kernel_rfl) (e := Extern.BytealgMakeNoZero.makeNoZero #[(ρ.t 3)] #[(ρ.t 37)]) (by kernel_rfl), hrun]
    rfl
  have hbk2 : (w.alloc (.cells cs (ρ.t 5))).heap[b]? = some (.cells #[.pointer (some ⟨b, 0, none⟩), .slice none 0 0] (ρ.t 72) (0, 0)) := (Lib.alloc_old w _ b (Array.getElem?_eq_some_iff.1 hbk).1).trans hbk
  have c1 : w.drew.cell? ⟨b, 1, none⟩ = some (.slice none 0 0) := by
    have h0 : w.drew.heap[b]? = _ := hbk
    rw [Lib.cell_of_heap h0]; rfl
  have c2 : (w.alloc (.cells cs (ρ.t 5))).cell? ⟨b, 1, none⟩ = some (.slice none 0 0) := by rw [Lib.cell_of_heap hbk2]; rfl
  have f2 : (w.alloc (.cells cs (ρ.t 5))).frozen? ⟨b, 1, none⟩ = false := Lib.frozen_of_heap hbk2 1
  have hcopy : ∀ W : World, (Builtin.copy_ #[(ρ.t 37), (ρ.t 37)] (ρ.t 3) #[.slice (some ⟨w.heap.size, 0, none⟩) 0 cs.size, .slice none 0 0]).run P W = .ok (goInt 0) W :=
    fun W => run_copy_none W (ρ.t 37) (ρ.t 37) (ρ.t 3) (ρ.t 5) _ _ 0 cs.size 0 0 L.t37 X.sizeByte rfl
  have mixed := L.mixed
  have t72 := L.t72; have a72 := L.a72; have z72 := L.z72; have v72 := L.v72; have u72 := run_underlying L.t72
  have t70 := L.t70; have a70 := L.a70; have z70 := L.z70; have v70 := L.v70; have u70 := run_underlying L.t70
  have t37 := L.t37; have a37 := L.a37; have z37 := L.z37; have v37 := L.v37; have u37 := run_underlying L.t37
  have t3 := L.t3; have a3 := L.a3; have z3 := L.z3; have v3 := L.v3; have u3 := run_underlying L.t3
  have t5 := X.t5; have a5 := X.a5; have z5 := X.z5; have v5 := X.v5; have u5 := run_underlying X.t5
  go_enter L.f241, Body.n241_ntmps ρ
  go_wp2
  have hfin := Ra.grown w b (ρ.t 72) (ρ.t 5) _ cs hbk rfl (hmax (by unfold maxLen; omega)) X.neB5
  go_region_o
  all_goals (go_wp2; go_end0; exact ⟨rfl, hfin⟩)

set_option maxHeartbeats 2000000 in
set_option maxRecDepth 1000000 in
theorem Ra.prim_bGr (L : Lays.n165 P ρ) (X : Builder.Extra P ρ) : PrimOk P (ρ.f 165) (.bGr (ρ.t 72) (ρ.t 5)) := by
  intro b n0 w hbk h0 hn
  obtain ⟨n, rfl⟩ : ∃ n : Nat, n0 = (n : Int) := ⟨n0.toNat, by omega⟩
  have hbk1 : (w.setCell ⟨b, 0, none⟩ (.pointer (some ⟨b, 0, none⟩))).heap[b]? = some (.cells #[.pointer (some ⟨b, 0, none⟩), .slice none 0 0] (ρ.t 72) (0, 0)) := by
    simp [World.setCell, Array.getElem?_modify, hbk]
  have hsz : (w.setCell ⟨b, 0, none⟩ (.pointer (some ⟨b, 0, none⟩))).heap.size = w.heap.size := by simp [World.setCell]
  have c1 : (w.setCell ⟨b, 0, none⟩ (.pointer (some ⟨b, 0, none⟩))).cell? ⟨b, 1, none⟩ = some (.slice none 0 0) := by rw [Lib.cell_of_heap hbk1]; rfl
  have m1 : Mod (fun k => b = k) w (w.setCell ⟨b, 0, none⟩ (.pointer (some ⟨b, 0, none⟩))) := setCell_mod w b 0 _
  have md : ∀ W : World, Mod (fun k => b = k) W W.drew := fun W => by
    have hd := Below.drew (Below.refl 0 W)
    exact ⟨hd.os, hd.tape, hd.output, hd.size, fun k hk _ => rfl⟩
  have mixed := L.mixed
  have t72 := L.t72; have a72 := L.a72; have z72 := L.z72; have v72 := L.v72; have u72 := run_underlying L.t72
  have t70 := L.t70; have a70 := L.a70; have z70 := L.z70; have v70 := L.v70; have u70 := run_underlying L.t70
  have t37 := L.t37; have a37 := L.a37; have z37 := L.z37; have v37 := L.v37; have u37 := run_underlying L.t37
  have t3 := L.t3; have a3 := L.a3; have z3 := L.z3; have v3 := L.v3; have u3 := run_underlying L.t3
  have t9 := L.t9; have a9 := L.a9; have z9 := L.z9; have v9 := L.v9; have u9 := run_underlying L.t9
  have t4 := L.t4; have a4 := L.a4; have z4 := L.z4; have v4 := L.v4; have u4 := run_underlying L.t4
  have t164 := L.t164; have a164 := L.a164; have z164 := L.z164; have v164 := L.v164; have u164 := run_underlying L.t164
  have t5 := X.t5; have a5 := X.a5; have z5 := X.z5; have v5 := X.v5; have u5 := run_underlying X.t5
  have e240 : ∀ args w, (callFunc (ρ.f 240) args).run P w = .ok (.enter (ρ.f 240) args) w := enters_of L.f240 (by kernel_rfl) rfl
  have e241 : ∀ args w, (callFunc (ρ.f 241) args).run P w = .ok (.enter (ρ.f 241) args) w := enters_of L.f241 (by kernel_rfl) rfl
  go_enter L.f165, Body.n165_ntmps ρ
  have hU : BldAt (w.setCell ⟨b, 0, none⟩ (.pointer (some ⟨b, 0, none⟩))).drew (ρ.t 72) (ρ.t 5) b (.slice none 0 0) ⟨#[]⟩ := ⟨.pointer (some ⟨b, 0, none⟩), hbk1, .inr rfl, World.ownsRow_nil _ _ _ _, by simp [Value.ownBlock]⟩
  have c1' : (w.setCell ⟨b, 0, none⟩ (.pointer (some ⟨b, 0, none⟩))).drew.cell? ⟨b, 1, none⟩ = some (.slice none 0 0) := c1
  go_wp2_with (go_at_fn (ρ.f 240); refine (Any.Builder_copyCheck_fresh { L with } X.toX72 b w (by rw [Lib.cell_of_heap hbk]; rfl) (by simp [World.shape?, hbk]) (Lib.frozen_of_heap hbk 0)).mono ?_; rintro e w' ⟨rfl, rfl⟩)
  go_region_o
  all_goals go_wp2_with (go_at_fn (ρ.f 241); refine (Ra.grow0 { L with } X b n (w.setCell ⟨b, 0, none⟩ (.pointer (some ⟨b, 0, none⟩))).drew hbk1 (by omega)).mono ?_; rintro e w' ⟨rfl, v', h1, h2, h3⟩)
  all_goals first
    | (go_end0; exact ⟨rfl, v', h1, (m1.trans (md _)).trans h2, fun k hk => by have := h3 k hk; simpa [World.setCell, World.drew, -World.drew_eq] using this⟩)
    | (go_end0; exact ⟨rfl, .slice none 0 0, hU, m1.trans (md _), fun k hk => by simp [Value.ownBlock] at hk⟩)
end Go.Proofs

namespace Go.Ra
open Go.Shelf Go.RowKit Go.Proofs
set_option linter.unusedVariables false
def gCount : ByteArray × ByteArray → Option Int := fun (a, b) => cond (decide (b.size = 1)) (some ((Lib.countB a b : Nat) : Int)) none
section
variable [Known] {P : Program} {ρ : Ren} {c : Nat → Option (List (Nat × CM))} {kp : Nat → Nat → Bool} {cl : Nat → Nat → Option Nat} {al : Nat → List (Nat × Nat)}
theorem sound_count (L : Lays.n138 P ρ) : Sound P ⟨ρ.f 138, [.byv .str, .byv .str], [.byv (.int .i64)], c, kp, cl, al, 0⟩ gCount := by
  refine snd2 (e1 := .str) (e2 := .str) (er := .int .i64) rfl rfl rfl fun (x y : ByteArray) z hz w S hS => ?_
  have hz' : cond (decide (y.size = 1)) (some ((Lib.countB x y : Nat) : Int)) none = some z := hz
  by_cases h : y.size = 1
  · rw [decide_eq_true h] at hz'
    cases hz'
    obtain ⟨b, rfl⟩ := Lib.one_byte y h
    refine (Any.strings_Count_one L x b w).mono ?_
    rintro e w' ⟨rfl, rfl⟩
    refine ⟨?_, Below.refl _ _⟩
    show Ending.returned (Value.int .i64 ((Lib.countByte x.data.toList b : Nat) : Int)) = Ending.returned (Value.int .i64 ((Lib.count x.data.toList [b] : Nat) : Int))
    rw [Lib.count_one]
    rfl
  · rw [decide_eq_false h] at hz'
    cases hz'
end
end Go.Ra
