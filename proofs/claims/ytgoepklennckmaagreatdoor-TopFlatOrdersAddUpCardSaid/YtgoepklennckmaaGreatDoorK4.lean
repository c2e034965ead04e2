/- What a library function's contract says of its calls, in the interpreter's words. -/
import Derived.Test.YtgoepklennckmaaGreatDoorK3
import Derived.Shelf.Strings.SlTrimAsciiWalks
import Derived.Shelf.Strings.IndexAnyAll
import Derived.Shelf.Strings.Trim
import Derived.Lib.SlTrimSet
import Derived.Shelf.Strconv.Itoa3
import Derived.Shelf.Strings.Repeat
import Derived.Shelf.Strconv.Atoi
import Derived.Shelf.Strings.SplitShaped
import Derived.Lib.LaidTab
import Derived.LaidSub
import Derived.Shelf.Strings.Builder1

namespace Go.Ra
set_option linter.unusedSectionVars false
open Go.ChangeShapes Go.WideShapes Go.RowKit
variable [Known]

def fv : (e : EK) → e.T → Value
  | .str, (s : ByteArray) => .string s
  | .int k, (x : Int) => .int k x
  | .bool, (b : Bool) => .bool b
  | _, _ => undef
def EK.flat : EK → Bool
  | .str => true
  | .int _ => true
  | .bool => true
  | _ => false

theorem fv_of {w : World} {T : Nat → Prop} {e : EK} {x : e.T} {v : Value} (hf : e.flat = true) (h : RU w T e x v) : v = fv e x := by
  cases e <;> simp [EK.flat] at hf
  · simp only [RU, RC, List.cons.injEq, and_true] at h
    exact h
  · simp only [RU, RC, List.cons.injEq, and_true] at h
    exact h
  · simp only [RU, RC, List.cons.injEq, and_true] at h
    exact h
theorem of_fv {w : World} {T : Nat → Prop} {e : EK} {x : e.T} (hf : e.flat = true) : RU w T e x (fv e x) := by
  cases e <;> simp [EK.flat] at hf
  · simp only [RU, RC, fv]
  · simp only [RU, RC, fv]
  · simp only [RU, RC, fv]

theorem given_flat {w w' : World} {T I : Nat → Prop} {ps : List PM} {args : List Value} {e : EK} {y : e.T} (hf : e.flat = true) (hb : ∀ vs, backH ps vs = []) (hbk : BackOk w' T ps args []) (htb : ∀ b, T b → b < w.heap.size) (bel : Below w.heap.size w w') :
    Given w w' T I T ps args [.byv e] [⟨e, y⟩] [] [fv e y] where
  mod := ⟨bel.os, bel.tape, bel.output, bel.size, fun k hk _ => bel.block k hk⟩
  more := fun _ z => z
  tb := fun b z => ⟨.inl z, Nat.lt_of_lt_of_le (htb b z) bel.size⟩
  ret := ⟨⟨y, rfl, of_fv hf⟩, trivial⟩
  back := hbk
  nodup := by rw [hb]; exact List.nodup_nil
  free := by rw [hb]; intro b h; simp [resH] at h

section
variable {P : Program} {f : FuncId} {e1 e2 e3 er : EK} {c : Nat → Option (List (Nat × CM))} {kp : Nat → Nat → Bool} {cl : Nat → Nat → Option Nat} {al : Nat → List (Nat × Nat)}

theorem snd1 {g : e1.T → Option er.T} (h1 : e1.flat = true) (hr : er.flat = true)
    (h : ∀ x y, g x = some y → ∀ w S, Known.K w S → Calls P f #[fv e1 x] w fun e w' => e = .returned (fv er y) ∧ Below w.heap.size w w') :
    Sound P ⟨f, [.byv e1], [.byv er], c, kp, cl, al, 0⟩ g := by
  intro x y hy w T I args hH
  have hok := hH.ok
  rcases args with ⟨l⟩
  match l, hok with
  | [v1], ⟨⟨x1, q1, r1⟩, _⟩ =>
    cases q1
    cases fv_of h1 r1
    refine (h x y hy w _ hH.kn).mono ?_
    rintro e w' ⟨rfl, bel⟩
    exact ⟨[fv er y], T, rfl, given_flat hr (fun vs => by cases vs <;> rfl) trivial hH.tb bel⟩
theorem snd2 {g : e1.T × e2.T → Option er.T} (h1 : e1.flat = true) (h2 : e2.flat = true) (hr : er.flat = true)
    (h : ∀ x y z, g (x, y) = some z → ∀ w S, Known.K w S → Calls P f #[fv e1 x, fv e2 y] w fun e w' => e = .returned (fv er z) ∧ Below w.heap.size w w') :
    Sound P ⟨f, [.byv e1, .byv e2], [.byv er], c, kp, cl, al, 0⟩ g := by
  intro x y hy w T I args hH
  obtain ⟨x1, x2⟩ := x
  have hok := hH.ok
  rcases args with ⟨l⟩
  match l, hok with
  | [v1, v2], ⟨⟨z1, q1, r1⟩, ⟨z2, q2, r2⟩, _⟩ =>
    cases q1
    cases q2
    cases fv_of h1 r1
    cases fv_of h2 r2
    refine (h x1 x2 y hy w _ hH.kn).mono ?_
    rintro e w' ⟨rfl, bel⟩
    exact ⟨[fv er y], T, rfl, given_flat hr (fun vs => by rcases vs with _ | ⟨_, _ | _⟩ <;> rfl) trivial hH.tb bel⟩
theorem snd3 {g : e1.T × e2.T × e3.T → Option er.T} (h1 : e1.flat = true) (h2 : e2.flat = true) (h3 : e3.flat = true) (hr : er.flat = true)
    (h : ∀ x y z u, g (x, y, z) = some u → ∀ w S, Known.K w S → Calls P f #[fv e1 x, fv e2 y, fv e3 z] w fun e w' => e = .returned (fv er u) ∧ Below w.heap.size w w') :
    Sound P ⟨f, [.byv e1, .byv e2, .byv e3], [.byv er], c, kp, cl, al, 0⟩ g := by
  intro x y hy w T I args hH
  obtain ⟨x1, x2, x3⟩ := x
  have hok := hH.ok
  rcases args with ⟨l⟩
  match l, hok with
  | [v1, v2, v3], ⟨⟨z1, q1, r1⟩, ⟨z2, q2, r2⟩, ⟨z3, q3, r3⟩, _⟩ =>
    cases q1
    cases q2
    cases q3
    cases fv_of h1 r1
    cases fv_of h2 r2
    cases fv_of h3 r3
    refine (h x1 x2 x3 y hy w _ hH.kn).mono ?_
    rintro e w' ⟨rfl, bel⟩
    exact ⟨[fv er y], T, rfl, given_flat hr (fun vs => by rcases vs with _ | ⟨_, _ | ⟨_, _ | _⟩⟩ <;> rfl) trivial hH.tb bel⟩
end
end Go.Ra

namespace Go.Proofs
open Go.Shelf Go.RowKit Go.Ra
section
variable {P : Program} {ρ : Ren}

theorem Ra.trim_many (L : Lays.n160 P ρ) (z : ∀ w, (zeroValue (ρ.t 116)).run P w = .ok (.agg (Array.replicate 256 (.bool false))) w) (n : (P.info? (ρ.t 116)).map (·.size) = some 256) (a b : ByteArray) (w : World) (hb : 2 ≤ b.size) (ha : 0 < a.size) (hal : a.size ≤ 9223372036854775807) (hbl : b.size < 4294967281)
    (low : ∀ (j : Nat) x, b.data.toList[j]? = some x → x.toNat < 128) :
    Calls P (ρ.f 160) #[.string a, .string b] w fun e w' => e = .returned (.string ⟨(Lib.trimS a.data.toList b.data.toList).toArray⟩) ∧ Below w.heap.size w w' := by
  have set := Any.strings_makeASCIISet { L with } z n b w hbl low
  have full : ∀ t : ByteArray, 0 < t.size → t.toList.isEmpty = false := fun t ht => by
    rw [Lib.toList_data]
    cases h : t.data.toList with
    | nil => rw [Lib.size_eq, h] at ht; exact absurd ht (by simp)
    | cons _ _ => rfl
  have fullA := full a ha
  have fullB := full b (by omega)
  have many : ((b.size : Int) == 1) = false := beq_eq_false_iff_ne.2 (by omega)
  clear low full
  generalize hw1 : w.alloc (.cells (Lib.setCells b.data.toList) (ρ.t 116)) = w1 at set
  have store : (storeCells ⟨w.heap.size + 1, 0, none⟩ (Lib.setCells b.data.toList).toList 0).run P (w1.alloc (.cells (Array.replicate 256 (.bool false)) (ρ.t 116))) = .ok () (w1.alloc (.cells (Lib.setCells b.data.toList) (ρ.t 116))) := by
    have := run_storeCells_new (P := P) w1 (ρ.t 116) (Array.replicate 256 (.bool false)) (Lib.setCells b.data.toList) (by rw [Lib.setCells_size]; exact n) (by rw [Lib.setCells_size, Array.size_replicate]) (Lib.setCells_one _)
    rw [← hw1] at this ⊢
    simpa using this
  have cell : Aside (∀ (x : UInt8), (w1.alloc (.cells (Lib.setCells b.data.toList) (ρ.t 116))).cell? ⟨w.heap.size + 1, x.toNat, none⟩ = some (.bool (b.data.toList.contains x))) := fun x => by
    rw [← hw1, World.cell?_alloc_at _ _ _ _ (by simp), Lib.setCells_at]
  have bel : Below w.heap.size w (w1.alloc (.cells (Lib.setCells b.data.toList) (ρ.t 116))) := by
    rw [← hw1]
    exact ((Below.refl _ _).alloc (Nat.le_refl _) _).alloc (by simp) _
  have cells := Lib.setCells_size b.data.toList
  have size1 : w1.heap.size = w.heap.size + 1 := by rw [← hw1]; simp
  have mixed := L.mixed; have t0 := L.t0; have a0 := L.a0; have z0 := L.z0; have v0 := L.v0; have t3 := L.t3; have a3 := L.a3; have z3 := L.z3; have v3 := L.v3; have t4 := L.t4; have a4 := L.a4; have z4 := L.z4; have v4 := L.v4; have t5 := L.t5; have a5 := L.a5; have z5 := L.z5; have v5 := L.v5; have t9 := L.t9; have a9 := L.a9; have z9 := L.z9; have v9 := L.v9
  have t21 := L.t21; have a21 := L.a21; have z21 := L.z21; have v21 := L.v21; have t46 := L.t46; have a46 := L.a46; have z46 := L.z46; have v46 := L.v46; have t105 := L.t105; have a105 := L.a105; have z105 := L.z105; have v105 := L.v105; have t116 := L.t116; have t124 := L.t124; have a124 := L.a124; have z124 := L.z124; have v124 := L.v124
  have g1 : ∀ args w, (callFunc (ρ.f 227) args).run P w = .ok (.enter (ρ.f 227) args) w := enters_of L.f227 (by kernel_rfl) rfl
  have g2 : ∀ args w, (callFunc (ρ.f 233) args).run P w = .ok (.enter (ρ.f 233) args) w := enters_of L.f233 (by kernel_rfl) rfl
  have g3 : ∀ args w, (callFunc (ρ.f 234) args).run P w = .ok (.enter (ρ.f 234) args) w := enters_of L.f234 (by kernel_rfl) rfl
  go_enter L.f160, Body.n160_ntmps ρ
  go_wp2_with (go_at_fn (ρ.f 227); refine set.mono ?_; rintro e w' ⟨rfl, hw⟩; rw [hw])
  simp only [L.z116, Result.andThen, ↓reduceIte, store]
  rw [Oper.upon_skip]
  clear set store
  go_wp2_with (first
    | (go_at_fn (ρ.f 234); refine (Any.strings_trimRightASCII { L with } a (w.heap.size + 1) b.data.toList _ hal cell.out).mono ?_; rintro e w' ⟨rfl, hw⟩; rw [hw])
    | (go_at_fn (ρ.f 233); refine (Any.strings_trimLeftASCII { L with } _ (w.heap.size + 1) b.data.toList _ cell.out).mono ?_; rintro e w' ⟨rfl, hw⟩; rw [hw]))
  go_ret
  exact ⟨rfl, bel⟩
end
end Go.Proofs

namespace Go.Proofs
open Go.Shelf Go.RowKit Go.Ra
section
variable {P : Program} {ρ : Ren}
theorem Ra.trim_empty (L : Lays.n160 P ρ) (a b : ByteArray) (w : World) (h : a.size = 0 ∨ b.size = 0) :
    Calls P (ρ.f 160) #[.string a, .string b] w fun e w' => e = .returned (.string a) ∧ w' = w := by
  have nil : ∀ t : ByteArray, t.size = 0 → t.toList.isEmpty = true := fun t ht => by
    rw [Lib.toList_data]
    cases h : t.data.toList with
    | nil => rfl
    | cons _ _ => rw [Lib.size_eq, h] at ht; simp at ht
  have full : ∀ t : ByteArray, ¬ t.size = 0 → t.toList.isEmpty = false := fun t ht => by
    rw [Lib.toList_data]
    cases h : t.data.toList with
    | nil => rw [Lib.size_eq, h] at ht; exact absurd rfl ht
    | cons _ _ => rfl
  have mixed := L.mixed; have t0 := L.t0; have a0 := L.a0; have z0 := L.z0; have v0 := L.v0; have t3 := L.t3; have a3 := L.a3; have z3 := L.z3; have v3 := L.v3; have t4 := L.t4; have a4 := L.a4; have z4 := L.z4; have v4 := L.v4; have t5 := L.t5; have a5 := L.a5; have z5 := L.z5; have v5 := L.v5; have t9 := L.t9; have a9 := L.a9; have z9 := L.z9; have v9 := L.v9
  by_cases ha : a.size = 0
  · have h1 := nil a ha
    go_enter L.f160, Body.n160_ntmps ρ
    go_wp2
    all_goals (go_ret; exact ⟨rfl, rfl⟩)
  · have h1 := full a ha
    have h2 := nil b (by omega)
    go_enter L.f160, Body.n160_ntmps ρ
    go_wp2
    all_goals (go_ret; exact ⟨rfl, rfl⟩)
end
end Go.Proofs

namespace Go.Ra
set_option linter.unusedSectionVars false
set_option linter.unusedVariables false
open Go.Shelf Go.RowKit Go.Proofs
def KnowTab (P : Program) (w : World) (S : Nat → Prop) : Prop := (∃ g, P.globalNamed "internal/strconv.uint64pow10" = some g ∧ S g) ∧ Lib.TabIs P w "internal/strconv.uint64pow10" .u64 Lib.pow10Tab
def KnowMax (g : Nat) (w : World) (S : Nat → Prop) : Prop := S g ∧ ∃ m, w.cell? ⟨g, 0, none⟩ = some (.int .i64 m)
theorem KnowTab.mono {P : Program} {w w' : World} {S S' : Nat → Prop} (h1 : ∀ b, S b → w'.heap[b]? = w.heap[b]?) (h2 : ∀ b, S b → S' b) (h : KnowTab P w S) : KnowTab P w' S' := by
  obtain ⟨⟨g, hg, hs⟩, ht⟩ := h
  refine ⟨⟨g, hg, h2 g hs⟩, ?_⟩
  unfold Lib.TabIs at ht ⊢
  rw [← ht]
  unfold World.var?
  rw [hg]
  show (match w'.heap[g]? with | some (.cells cs _ _) => some cs | _ => none) = (match w.heap[g]? with | some (.cells cs _ _) => some cs | _ => none)
  rw [h1 g hs]
theorem KnowMax.mono {g : Nat} {w w' : World} {S S' : Nat → Prop} (h1 : ∀ b, S b → w'.heap[b]? = w.heap[b]?) (h2 : ∀ b, S b → S' b) (h : KnowMax g w S) : KnowMax g w' S' := by
  obtain ⟨hs, m, hm⟩ := h
  refine ⟨h2 g hs, m, ?_⟩
  rw [← hm]
  unfold World.cell?
  show (match w'.heap[g]? with | some (.cells c _ _) => _ | _ => none) = (match w.heap[g]? with | some (.cells c _ _) => _ | _ => none)
  rw [h1 g hs]
theorem below_grown' (w : World) (q : Nat) (os : Array Obj) : Below w.heap.size w (Go.Sort.grow (w.drewN q) os) := by
  refine ⟨rfl, rfl, rfl, ?_, fun k hk => ?_⟩
  · simp [Go.Sort.grow, World.drewN]
  · simp [Go.Sort.grow, World.drewN, Array.getElem?_append, hk]
def gCmp : ByteArray × ByteArray → Option Int := fun (a, b) => some (Lib.compareBytes a.data.toList b.data.toList)
def gIdx : ByteArray × Int → Option Int := fun (a, b) => some (Lib.indexByte a.data.toList b.toNat.toUInt8)
def gItoa : Int → Option ByteArray := fun a => cond (decide (-9223372036854775808 ≤ a) && decide (a ≤ 9223372036854775807)) (some ⟨(Lib.itoa a).toArray⟩) none
def gRepeat : ByteArray × Int → Option ByteArray := fun (a, b) => cond (decide (0 ≤ b) && decide (b ≤ 9223372036854775807) && decide (a.size * b.toNat ≤ 140737488355328)) (some ⟨(Lib.repeatL a.data.toList b.toNat).toArray⟩) none
def gTrim : ByteArray × ByteArray → Option ByteArray := fun (a, b) => cond (decide (a.size ≤ 9223372036854775807) && decide (b.size < 4294967281) && b.data.toList.all fun x => decide (x.toNat < 128)) (some ⟨(Lib.trimS a.data.toList b.data.toList).toArray⟩) none
def gReplace : ByteArray × ByteArray × ByteArray → Option ByteArray := fun (a, b, c) => cond (decide (a.size < 4294967281) && decide (1 ≤ b.size) && decide (a.size + Lib.countB a b * c.size ≤ 140737488355328)) (some ⟨(Lib.replaceAll a.data.toList b.data.toList c.data.toList).toArray⟩) none
def gAtoi : ByteArray → Option (Int × Bool) := fun a => (Lib.atoi a.data.toList).bind fun n => cond (decide (a.size ≤ 18)) (some (n, true)) none
section
variable [Known] {P : Program} {ρ : Ren} {c : Nat → Option (List (Nat × CM))} {kp : Nat → Nat → Bool} {cl : Nat → Nat → Option Nat} {al : Nat → List (Nat × Nat)}

theorem sound_cmp (L : Lays.n213 P ρ) : Sound P ⟨ρ.f 213, [.byv .str, .byv .str], [.byv (.int .i64)], c, kp, cl, al, 0⟩ gCmp := by
  refine snd2 (e1 := .str) (e2 := .str) (er := .int .i64) rfl rfl rfl fun x y z hz w S hS => ?_
  cases hz
  refine (Any.bytealg_CompareString L x y w).mono ?_
  rintro e w' ⟨rfl, rfl⟩
  exact ⟨rfl, Below.refl _ _⟩
theorem sound_idx (L : Lays.n217 P ρ) : Sound P ⟨ρ.f 217, [.byv .str, .byv (.int .u8)], [.byv (.int .i64)], c, kp, cl, al, 0⟩ gIdx := by
  refine snd2 (e1 := .str) (e2 := .int .u8) (er := .int .i64) rfl rfl rfl fun x y z hz w S hS => ?_
  cases hz
  refine (Any.stringslite_IndexByte L x y w).mono ?_
  rintro e w' ⟨rfl, rfl⟩
  exact ⟨rfl, Below.refl _ _⟩
theorem sound_itoa (L : LaysM.n171 P ρ) (hK : ∀ w S, Known.K w S → KnowTab P w S) : Sound P ⟨ρ.f 171, [.byv (.int .i64)], [.byv .str], c, kp, cl, al, 0⟩ gItoa := by
  refine snd1 (e1 := .int .i64) (er := .str) rfl rfl fun (x : Int) y hy w S hS => ?_
  have hy' : cond (decide (-9223372036854775808 ≤ x) && decide (x ≤ 9223372036854775807)) (some (⟨(Lib.itoa x).toArray⟩ : ByteArray)) none = some y := hy
  by_cases h : -9223372036854775808 ≤ x ∧ x ≤ 9223372036854775807
  · rw [decide_eq_true h.1, decide_eq_true h.2] at hy'
    cases hy'
    refine (Any.strconv_Itoa L x h.1 h.2 w (hK w S hS).2).mono ?_
    rintro e w' ⟨rfl, k, os, rfl⟩
    exact ⟨rfl, below_grown' _ _ _⟩
  · have : (decide (-9223372036854775808 ≤ x) && decide (x ≤ 9223372036854775807)) = false := by simpa using h
    rw [this] at hy'
    cases hy'
theorem sound_repeat (L : Lays.n105 P ρ) (X : Builder.Extra P ρ) : Sound P ⟨ρ.f 105, [.byv .str, .byv (.int .i64)], [.byv .str], c, kp, cl, al, 0⟩ gRepeat := by
  refine snd2 (e1 := .str) (e2 := .int .i64) (er := .str) rfl rfl rfl fun (x : ByteArray) (y : Int) z hz w S hS => ?_
  have hz' : cond (decide (0 ≤ y) && decide (y ≤ 9223372036854775807) && decide (x.size * y.toNat ≤ 140737488355328)) (some (⟨(Lib.repeatL x.data.toList y.toNat).toArray⟩ : ByteArray)) none = some z := hz
  by_cases h : 0 ≤ y ∧ y ≤ 9223372036854775807 ∧ x.size * y.toNat ≤ 140737488355328
  · rw [decide_eq_true h.1, decide_eq_true h.2.1, decide_eq_true h.2.2] at hz'
    cases hz'
    have := Any.strings_Repeat L X x y.toNat w (by omega) h.2.2
    rw [Int.toNat_of_nonneg h.1] at this
    exact this
  · have : (decide (0 ≤ y) && decide (y ≤ 9223372036854775807) && decide (x.size * y.toNat ≤ 140737488355328)) = false := by
      simp only [Bool.and_eq_false_iff, decide_eq_false_iff_not]
      by_cases a : 0 ≤ y <;> by_cases b : y ≤ 9223372036854775807 <;> simp_all
    rw [this] at hz'
    cases hz'
theorem sound_trim (L : Lays.n160 P ρ) (z : ∀ w, (zeroValue (ρ.t 116)).run P w = .ok (.agg (Array.replicate 256 (.bool false))) w) (n : (P.info? (ρ.t 116)).map (·.size) = some 256) : Sound P ⟨ρ.f 160, [.byv .str, .byv .str], [.byv .str], c, kp, cl, al, 0⟩ gTrim := by
  refine snd2 (e1 := .str) (e2 := .str) (er := .str) rfl rfl rfl fun (x : ByteArray) (y : ByteArray) u hu w S hS => ?_
  have hu' : cond (decide (x.size ≤ 9223372036854775807) && decide (y.size < 4294967281) && y.data.toList.all fun b => decide (b.toNat < 128)) (some (⟨(Lib.trimS x.data.toList y.data.toList).toArray⟩ : ByteArray)) none = some u := hu
  cases hc : (decide (x.size ≤ 9223372036854775807) && decide (y.size < 4294967281) && y.data.toList.all fun b => decide (b.toNat < 128)) with
  | false => rw [hc] at hu'; cases hu'
  | true =>
    rw [hc] at hu'
    cases hu'
    simp only [Bool.and_eq_true, decide_eq_true_eq] at hc
    obtain ⟨⟨h1, h2⟩, h3⟩ := hc
    have low : ∀ (j : Nat) b, y.data.toList[j]? = some b → b.toNat < 128 := fun j b hb => by
      simpa using List.all_eq_true.1 h3 b (List.mem_of_getElem? hb)
    by_cases he : x.size = 0 ∨ y.size = 0
    · refine (Ra.trim_empty L x y w he).mono ?_
      rintro e w' ⟨rfl, rfl⟩
      refine ⟨?_, Below.refl _ _⟩
      have : Lib.trimS x.data.toList y.data.toList = x.data.toList := by
        rcases he with q | q
        · have : x.data.toList = [] := List.eq_nil_of_length_eq_zero (by rw [← Lib.size_eq]; exact q)
          rw [this]
          simp [Lib.trimS, Lib.trimLeftS, Lib.trimRightS]
        · have : y.data.toList = [] := List.eq_nil_of_length_eq_zero (by rw [← Lib.size_eq]; exact q)
          rw [this]
          have dwn : ∀ l : List UInt8, l.dropWhile (fun _ => false) = l := fun l => by cases l <;> rfl
          simp [Lib.trimS, Lib.trimLeftS, Lib.trimRightS, dwn]
      have fvs : fv .str (⟨(Lib.trimS x.data.toList y.data.toList).toArray⟩ : ByteArray) = .string ⟨(Lib.trimS x.data.toList y.data.toList).toArray⟩ := rfl
      rw [fvs, this]
    · by_cases ho : y.size = 1
      · obtain ⟨b, rfl⟩ : ∃ b : UInt8, y = ⟨#[b]⟩ := Lib.one_byte y ho
        refine (Any.strings_Trim_one L x b (low 0 b rfl) w h1).mono ?_
        rintro e w' ⟨rfl, hw⟩
        refine ⟨?_, ?_⟩
        · have fvs : fv .str (⟨(Lib.trimS x.data.toList [b]).toArray⟩ : ByteArray) = .string ⟨(Lib.trimS x.data.toList [b]).toArray⟩ := rfl
          rw [fvs, Lib.trimS_one]
        · rcases hw with rfl | rfl
          · exact Below.refl _ _
          · exact ⟨rfl, rfl, rfl, Nat.le_refl _, fun _ _ => rfl⟩
      · exact Ra.trim_many L z n x y w (by omega) (by omega) h1 h2 low
theorem sound_replace {g : Nat} (L : Lays.n155 P ρ) (X : Builder.Extra P ρ) (hg : ρ.g 1 = g) (hK : ∀ w S, Known.K w S → KnowMax g w S) : Sound P ⟨ρ.f 155, [.byv .str, .byv .str, .byv .str], [.byv .str], c, kp, cl, al, 0⟩ gReplace := by
  refine snd3 (e1 := .str) (e2 := .str) (e3 := .str) (er := .str) rfl rfl rfl rfl fun (x : ByteArray) (y : ByteArray) (t : ByteArray) u hu w S hS => ?_
  have hu' : cond (decide (x.size < 4294967281) && decide (1 ≤ y.size) && decide (x.size + Lib.countB x y * t.size ≤ 140737488355328)) (some (⟨(Lib.replaceAll x.data.toList y.data.toList t.data.toList).toArray⟩ : ByteArray)) none = some u := hu
  cases hc : (decide (x.size < 4294967281) && decide (1 ≤ y.size) && decide (x.size + Lib.countB x y * t.size ≤ 140737488355328)) with
  | false => rw [hc] at hu'; cases hu'
  | true =>
    rw [hc] at hu'
    cases hu'
    simp only [Bool.and_eq_true, decide_eq_true_eq] at hc
    obtain ⟨⟨h1, h2⟩, h3⟩ := hc
    obtain ⟨_, m, hm⟩ := hK w S hS
    exact Any.strings_ReplaceAll L X x y t m w h1 (by rw [hg]; exact hm) h2 h3
theorem sound_atoi (L : Lays.n172 P ρ) : Sound P ⟨ρ.f 172, [.byv .str], [.byv (.int .i64), .byv .err], c, kp, cl, al, 0⟩ gAtoi := by
  intro x y hy w T I args hH
  have hok := hH.ok
  rcases args with ⟨l⟩
  match l, hok with
  | [v1], ⟨⟨x1, q1, r1⟩, _⟩ =>
    cases q1
    cases fv_of (e := .str) rfl r1
    have hy' : (Lib.atoi (x : ByteArray).data.toList).bind (fun n => cond (decide ((x : ByteArray).size ≤ 18)) (some (n, true)) none) = some y := hy
    cases ha : Lib.atoi (x : ByteArray).data.toList with
    | none => rw [ha] at hy'; cases hy'
    | some n =>
      rw [ha] at hy'
      by_cases h : (x : ByteArray).size ≤ 18
      · simp only [Option.bind_some, decide_eq_true h, cond_true] at hy'
        cases hy'
        refine (Any.strconv_Atoi L x n h ha w).mono ?_
        rintro e w' ⟨rfl, t, rfl⟩
        refine ⟨[.int .i64 n, .nilIface], T, rfl, ⟨⟨rfl, rfl, rfl, by rw [Lib.bytesWorld_size]; omega, fun k hk _ => Lib.bytesWorld_at_old w _ t k hk⟩, fun _ z => z, fun b z => ⟨.inl z, by rw [Lib.bytesWorld_size]; have := hH.tb b z; omega⟩, ⟨⟨n, rfl, by simp only [RU, RC]⟩, ⟨true, rfl, by simp only [RU, RC]; simp⟩, trivial⟩, trivial, ?_, ?_⟩⟩
        · exact List.nodup_nil
        · intro b hb
          simp [resH, backH] at hb
      · simp only [Option.bind_some, decide_eq_false h, cond_false] at hy'
        cases hy'
end

theorem law_shaped [Known] {C : Checked} {A : An} {u n : Nat} {fn : Func} {s : ChangeSpec} {conds : List PathCond} {es : ES} {rt : TypeId} {os : Os} {H : Type} {enc : TypeId × Value → H} (laid : List (String × DataW Unit))
    (hmix : C.prog.follows .mixedOrders = true) (hgv : ∀ u g, A.gv u = some g → Sound C.prog (A.var u) g) (hpr : ∀ f p, A.pr f = some p → PrimOk C.prog f p)
    (own : ownKnob C.prog.godebug = none) (started : os.Started) (noInit : C.prog.inits.idxOf? (A.var u).f = none) (hfn : C.prog.funcs[(A.var u).f]? = some fn)
    (hl : laidOutB C.prog = true) (hes : esL C.prog n (A.var u).par fn.params.toList = some es) (hrd : rdL C.prog fn.params.toList = true)
    (hret : (A.var u).ret = [.byv .bool]) (hrt : fn.resultTypes = #[rt]) (hb : C.prog.underlying rt = some .bool)
    (hvars : s.vars = []) (hvt : s.plain.varTypes C.prog = []) (hspec : ∀ ds : List (DataW H), ds.length = fn.params.size → (s.fn H (ds ++ [])).results = [.lit (.bool true)] ∧ (s.fn H (ds ++ [])).args = ds ∧ (s.fn H (ds ++ [])).vars = [])
    (hpure : ∀ x, wfE es _ x → ∃ k y, callA C.prog A k u x = some y ∧ unT (A.var u).retEs y = [⟨.bool, true⟩]) (hkn : ∀ W : World, W.ShapedOpen C.prog → laidMetH C.prog laid W → Known.K W (fun b => Inside W b ∧ ¬ False))
    (witness : ∃ (w : World) (tape : Tape) (i : Input), w.os = os ∧ (w.forCall tape i).Shaped C.prog ∧ i.vars = [] ∧ Input.okWide C.prog (w.forCall tape i) .any w.heap.size (A.var u).f i ∧
      ((s.pre enc C.prog fn conds false (w.forCall tape i).memory i.args ∧ laidMetH C.prog laid (w.forCall tape i).memory) ∧ sizedMet enc C.prog fn (OpenSpec.ofChange s) false (w.forCall tape i).memory i.args) ∧ Assume.holds {} C.prog (lone (Frame.enter C.prog (A.var u).f i.args .normal) [] (w.forCall tape i))) :
    ReturnsInHanded {} C os (A.var u).f .any (fun w args => (s.pre enc C.prog fn conds false w args ∧ laidMetH C.prog laid w) ∧ sizedMet enc C.prog fn (OpenSpec.ofChange s) false w args) (s.post enc C.prog fn false true false false) := by
  refine returnsInHanded_of_calls own started noInit witness ?_
  intro w tape i _ hsh _ hok hpre hholds
  obtain ⟨_, _, _, fn', hfn', _, _, _, _, hval⟩ := hok
  have e : fn' = fn := Option.some.inj (hfn'.symm.trans hfn)
  subst e
  obtain ⟨⟨⟨ds, gs, before, hw, hc⟩, hx⟩, hz⟩ := hpre
  have hw' := DataW.Whole.of_heap (w' := w.forCall tape i) (by rfl) hw
  have hx' : laidMetH C.prog laid (w.forCall tape i) := hx.of_heap (by rfl)
  refine (law_contract (W := w.forCall tape i) (base := w.heap.size) (args := i.args) (ds := ds) (gs := gs) (before := before) hmix hgv hpr hl hes hrd hret hrt hb hvars hvt hspec hpure hval hw' (hz.weights hw) (hkn _ hsh hx')).mono fun e W' ⟨v, he, hp⟩ => ?_
  subst he
  exact ChangeSpec.post_blind hp
theorem know_tab {P : Program} {laid : List (String × DataW Unit)} {W : World} {g t e : Nat} (keep : String × DataW Unit → Bool)
    (hl : laid.filter keep = [("internal/strconv.uint64pow10", Lib.tabData .u64 Lib.pow10Tab)])
    (hp : ((laid.filter keep).filter fun x => x.2.handleName?.isSome) = [])
    (hg : P.globalNamed "internal/strconv.uint64pow10" = some g) (hty : (P.globals[g]?).map (·.type) = some t) (ht : P.underlying t = some (.array 20 e)) (he : P.underlying e = some (.int .u64)) (hce : P.cellsOf e = 1) (hct : P.cellsOf t = 20)
    (h : laidMetH P laid W) : KnowTab P W (fun b => Inside W b ∧ ¬ False) := by
  have h2 := h.filter keep
  have h3 : laidMet P (laid.filter keep) W := by
    unfold laidMetH at h2
    rw [hp] at h2
    exact h2
  rw [hl] at h3
  have ht2 := Lib.tabIs_of_head (n := 20) hg hty ht he hce hct h3
  refine ⟨⟨g, hg, ?_, fun z => z⟩, ht2⟩
  unfold Lib.TabIs World.var? at ht2
  rw [hg] at ht2
  show g < W.heap.size
  refine Classical.byContradiction fun hn => ?_
  have : W.heap[g]? = none := Array.getElem?_eq_none (by omega)
  simp only [Option.bind_some, this] at ht2
  cases ht2
end Go.Ra

namespace Go.Ra
open Go.Lib
set_option linter.unusedSectionVars false

theorem bcells_eq (s : ByteArray) : bcells s = strCells s := rfl
theorem bcells_append (s t : ByteArray) : bcells (s ++ t) = bcells s ++ strCells t := by
  simp [bcells, strCells, ByteArray.data_append]

theorem run_append_place {P : Program} (w : World) (t u ty e : TypeId) (i : TypeInfo) (ht : P.underlying t = some (.slice e)) (hu : P.underlying u = some .string) (hi : P.info? e = some i) (hz : i.zero = some (.int .u8 0))
    (hsize : i.size = 1) (hby : i.bytes = 1) (v : Value) (n : Nat) (xs : List Value) (hown : w.ownsRow 0 e 1 v n xs) (s : ByteArray) (h63 : n + s.size ≤ maxLen) (hbytes : n + s.size ≤ 140737488355328) :
    ∃ v' w', (Builtin.append_ #[t, u] ty #[v, .string s]).run P w = .ok v' w' ∧ w'.ownsRow 0 e 1 v' (n + s.size) (xs ++ strCells s) ∧ w.grownBy w' v.ownBlock ∧ ∀ k, v'.ownBlock = some k → v.ownBlock = some k ∨ w.heap.size ≤ k := by
  obtain ⟨v', w', hr, h2, h3, h4⟩ := run_append_own_string (P := P) w 0 t u ty e i ht hu hi hz hsize hby v n xs hown s h63 hbytes (Nat.zero_le _)
  refine ⟨v', w', hr, h2, h3, fun k hk => ?_⟩
  have hxl : xs.length = n := by simpa using hown.1
  have hsmall : n + s.size ≤ 9223372036854775807 := by simp only [maxLen] at h63; omega
  rcases hown.2 with ⟨rfl, rfl⟩ | ⟨g, cap, cur, rfl, hbg, hg, hnc, hcm, hcs, htake⟩
  · have hx : xs = [] := List.eq_nil_of_length_eq_zero hxl
    subst hx
    obtain ⟨v2, w2, hr2, k2, _, _⟩ := run_append_own_string (P := P) w w.heap.size t u ty e i ht hu hi hz hsize hby (.slice none 0 0) 0 [] (World.ownsRow_nil w _ e 1) s h63 hbytes (Nat.le_refl _)
    rw [hr] at hr2
    injection hr2 with e1 e2
    subst e1
    subst e2
    exact .inr (k2.lt k hk).1
  · by_cases hroom : n + s.size ≤ cap
    · have hcs' : cur.size = cap := by simpa using hcs
      have hr2 := run_append_room_string (P := P) w t u ty e i ht hu hi hsize g n cap cur hg s hroom (by omega)
      rw [hr] at hr2
      injection hr2 with e1 e2
      subst e1
      exact .inl hk
    · have hr2 := run_append_grow_string (P := P) w t u ty e i (.int .u8 0) ht hu hi hz ⟨g, 0, none⟩ n cap xs (by rw [hsize]; simpa using hxl) (hown.cells (g := g) rfl) s (by omega) (by omega) (by rw [hby]; exact growslice_fits (by omega) (by omega))
      rw [hr] at hr2
      injection hr2 with e1 e2
      subst e1
      simp only [Value.ownBlock, Option.some.injEq] at hk
      exact .inr (by omega)

theorem wpList_append_place {P : Program} {w : World} {ops : Array Oper} {rest : List Oper} {o : Oper} {a : Act} {Q : Exit → Act → World → Prop} (hgd : o.guard = none) (sl x : Operand) (t u : TypeId)
    (ho : o.op = .call { callee := .builtin .append, args := #[sl, x], argTypes := #[t, u] })
    (e : TypeId) (i : TypeInfo) (ht : P.underlying t = some (.slice e)) (hu : P.underlying u = some .string) (hi : P.info? e = some i) (hz : i.zero = some (.int .u8 0)) (hsize : i.size = 1) (hby : i.bytes = 1)
    (v : Value) (n : Nat) (xs : List Value) (hs : a.eval sl = v) (hown : w.ownsRow 0 e 1 v n xs) (s : ByteArray) (hx : a.eval x = .string s) (h63 : n + s.size ≤ maxLen) (hbytes : n + s.size ≤ 140737488355328)
    (h : ∀ v' w', w'.ownsRow 0 e 1 v' (n + s.size) (xs ++ strCells s) → w.grownBy w' v.ownBlock → (∀ k, v'.ownBlock = some k → v.ownBlock = some k ∨ w.heap.size ≤ k) → wpList P ops Q rest (a.put o.dst v') w') : wpList P ops Q (o :: rest) a w := by
  refine wpList_plain hgd fun K hK => ?_
  obtain ⟨v', w', hr, h2, h3, h4⟩ := run_append_place (P := P) w t u o.type e i ht hu hi hz hsize hby v n xs hown s h63 hbytes
  unfold Oper.wp execOp
  simp only [ho, resolve, invoke, builtin, Sem.run_bind, Sem.run_pure, Result.andThen_ok, List.map_toArray, List.map_cons, List.map_nil, hs, hx, hr]
  exact hK _ _ (h v' w' h2 h3 h4)
end Go.Ra

namespace Go.Proofs
open Go.Shelf Go.RowKit Go.Ra
variable {P : Program} {ρ : Ren}

theorem setCell_mod (w : World) (b i : Nat) (u : Value) : Mod (fun k => b = k) w (w.setCell ⟨b, i, none⟩ u) :=
  ⟨rfl, rfl, rfl, by simp [World.setCell], fun k _ hn => Below.heap_setCell _ _ _ _ (fun e => hn e.symm)⟩

theorem Ra.copyCheck (L : Lays.n240 P ρ) (X : Builder.X72 P ρ) (b : Nat) (v : Value) (s0 : ByteArray) (w : World) (h : BldAt w (ρ.t 72) (ρ.t 5) b v s0) :
    Calls P (ρ.f 240) #[.pointer (some ⟨b, 0, none⟩)] w fun e w' => e = .returned (.tuple #[]) ∧ w'.heap[b]? = some (.cells #[.pointer (some ⟨b, 0, none⟩), v] (ρ.t 72) (0, 0)) ∧ w'.ownsRow 0 (ρ.t 5) 1 v s0.size (bcells s0) ∧ Mod (fun k => b = k) w w' ∧ w'.heap.size = w.heap.size := by
  obtain ⟨p, h1, h2, h3, h4⟩ := h
  rcases h2 with rfl | rfl
  · have c0 : w.cell? ⟨b, 0, none⟩ = some (.pointer none) := by rw [Lib.cell_of_heap h1]; rfl
    refine (Any.Builder_copyCheck_fresh L X b w c0 (by simp [World.shape?, h1]) (Lib.frozen_of_heap h1 0)).mono ?_
    rintro e w' ⟨rfl, rfl⟩
    refine ⟨rfl, ?_, ownsRow_same h3 fun k hk => (setCell_mod w b 0 _).block k (h3.lt k hk).2 (fun e => h4 (by rw [hk, e])), setCell_mod w b 0 _, by simp [World.setCell]⟩
    simp [World.setCell, Array.getElem?_modify, h1]
  · have c0 : w.cell? ⟨b, 0, none⟩ = some (.pointer (some ⟨b, 0, none⟩)) := by rw [Lib.cell_of_heap h1]; rfl
    refine (Any.Builder_copyCheck_used L X b w c0).mono ?_
    rintro e w' ⟨rfl, rfl⟩
    exact ⟨rfl, h1, h3, Mod.refl _ _, rfl⟩

set_option maxHeartbeats 1000000 in
set_option maxRecDepth 100000 in
theorem Ra.prim_wStr (L : Lays.n166 P ρ) (X : Builder.Extra P ρ) : PrimOk P (ρ.f 166) (.wStr (ρ.t 72) (ρ.t 5)) := by
  intro b v s s0 w h hlen
  obtain ⟨i0, hi, hz0, hz1, hz2⟩ := info_parts X.infoByte
  obtain ⟨p, q1, q2, q3, q4⟩ := id h
  have mixed := L.mixed
  have t72 := L.t72; have a72 := L.a72; have z72 := L.z72; have v72 := L.v72; have u72 := run_underlying L.t72
  have t70 := L.t70; have a70 := L.a70; have z70 := L.z70; have v70 := L.v70; have u70 := run_underlying L.t70
  have t37 := L.t37; have a37 := L.a37; have z37 := L.z37; have v37 := L.v37; have u37 := run_underlying L.t37
  have t3 := L.t3; have a3 := L.a3; have z3 := L.z3; have v3 := L.v3; have u3 := run_underlying L.t3
  have t9 := L.t9; have a9 := L.a9; have z9 := L.z9; have v9 := L.v9; have u9 := run_underlying L.t9
  have t4 := L.t4; have a4 := L.a4; have z4 := L.z4; have v4 := L.v4; have u4 := run_underlying L.t4
  have t164 := L.t164; have a164 := L.a164; have z164 := L.z164; have v164 := L.v164; have u164 := run_underlying L.t164
  have t5 := X.t5; have a5 := X.a5; have z5 := X.z5; have v5 := X.v5; have u5 := run_underlying X.t5
  have e240 : ∀ args w, (callFunc (ρ.f 240) args).run P w = .ok (.enter (ρ.f 240) args) w := enters_of L.f240 (by kernel_rfl) rfl
  go_enter L.f166, Body.n166_ntmps ρ
  go_wp2_with (go_at_fn (ρ.f 240); refine (Ra.copyCheck { L with } X.toX72 b v s0 _ h).mono ?_)
  rintro e w1 ⟨rfl, hbk, hown, hm1, hsz1⟩
  have c0 : w1.cell? ⟨b, 0, none⟩ = some (.pointer (some ⟨b, 0, none⟩)) := by rw [Lib.cell_of_heap hbk]; rfl
  have c1 : w1.cell? ⟨b, 1, none⟩ = some v := by rw [Lib.cell_of_heap hbk]; rfl
  go_wp2_with (at_builtin; refine wpList_append_place rfl _ _ (ρ.t 37) (ρ.t 9) rfl (ρ.t 5) i0 L.t37 L.t9 hi hz0 hz1 hz2 _ _ _ rfl hown s rfl ?c3 ?c4 ?_)
  case c3 => unfold maxLen; omega
  case c4 => omega
  intro v' w2 hown' hgrow hplace
  have hlt : b < w1.heap.size := (Array.getElem?_eq_some_iff.1 hbk).1
  have hb2 : w2.heap[b]? = some (.cells #[.pointer (some ⟨b, 0, none⟩), v] (ρ.t 72) (0, 0)) := by
    rw [hgrow.block b hlt (fun e => q4 e.symm)]
    exact hbk
  have d0 : w2.cell? ⟨b, 0, none⟩ = some (.pointer (some ⟨b, 0, none⟩)) := by rw [Lib.cell_of_heap hb2]; rfl
  have d1 : w2.cell? ⟨b, 1, none⟩ = some v := by rw [Lib.cell_of_heap hb2]; rfl
  have f1 : w2.frozen? ⟨b, 1, none⟩ = false := Lib.frozen_of_heap hb2 1
  obtain ⟨ao, n', cap, rfl⟩ : ∃ ao n' cap, v' = .slice ao n' cap := by
    rcases hown'.2 with ⟨hv, _⟩ | ⟨g, cap, cur, hv, _⟩
    · exact ⟨_, _, _, hv⟩
    · exact ⟨_, _, _, hv⟩
  go_wp2
  go_ret2
  have hne : (Value.slice ao n' cap).ownBlock ≠ some b := by
    intro he
    rcases hplace b he with k | k
    · exact q4 k
    · omega
  refine ⟨rfl, .slice ao n' cap, ⟨.pointer (some ⟨b, 0, none⟩), ?_, .inr rfl, ?_, hne⟩, ?_, fun k hk => (hplace k hk).imp (fun z => z) (fun z => by omega)⟩
  · simp [World.setCell, Array.getElem?_modify, hb2]
  · have h1 := ownsRow_same hown' (w' := w2.setCell ⟨b, 1, none⟩ (.slice ao n' cap)) fun k hk => (setCell_mod w2 b 1 _).block k (hown'.lt k hk).2 (fun e => hne (by rw [hk, e]))
    rw [bcells_append, ByteArray.size_append]
    exact h1
  · have m2 : Mod (fun k => b = k ∨ v.ownBlock = some k) w1 w2 := ⟨hgrow.os, hgrow.tape, hgrow.output, hgrow.size, fun k hk hn => hgrow.block k hk fun z => hn (.inr z.symm)⟩
    exact ((hm1.weaken fun k _ z => .inl z).trans m2).trans ((setCell_mod w2 b 1 _).weaken fun k _ z => .inl z)

theorem Ra.prim_bLen (L : Lays.n170 P ρ) : PrimOk P (ρ.f 170) (.bLen (ρ.t 72) (ρ.t 5)) := by
  intro b v s0 w h
  obtain ⟨p, q1, q2, q3, q4⟩ := h
  have hl : (bcells s0).length = s0.size := by simp [bcells]
  have hB : Lib.IsBuilder (ρ.t 72) (ρ.t 5) 0 b (bcells s0) w := by
    rcases q2 with rfl | rfl
    · exact .inl ⟨Nat.zero_le _, v, q1, by rw [hl]; exact q3, q4⟩
    · exact .inr ⟨Nat.zero_le _, v, q1, by rw [hl]; exact q3, q4⟩
  refine (Any.Builder_Len L 0 b (bcells s0) w hB).mono ?_
  rintro e w' ⟨rfl, rfl⟩
  exact ⟨by rw [hl], rfl⟩

set_option maxHeartbeats 2000000 in
set_option maxRecDepth 100000 in
theorem Ra.prim_bStr (L : Lays.n169 P ρ) (X : Builder.Extra P ρ) : PrimOk P (ρ.f 169) (.bStr (ρ.t 72) (ρ.t 5)) := by
  intro b v s0 w h
  obtain ⟨p, hbk, q2, hown, hne⟩ := h
  have belowMod : ∀ {w' : World}, Below w.heap.size w w' → Mod (fun k => b = k ∨ v.ownBlock = some k) w w' := fun bel => ⟨bel.os, bel.tape, bel.output, bel.size, fun k hk _ => bel.block k hk⟩
  by_cases h0 : s0.size = 0
  · have hs0 : s0 = ⟨#[]⟩ := by
      cases s0 with | mk d =>
      rw [show d = #[] from Array.eq_empty_of_size_eq_zero h0]
    subst hs0
    rcases hown.2 with ⟨rfl, _⟩ | ⟨g, cap, cur, rfl, hbg, hg, _, _, _, _⟩
    · refine (Any.Builder_String_nil L X w.heap.size b p w hbk).mono ?_
      rintro e w' ⟨rfl, bel⟩
      exact ⟨rfl, belowMod bel⟩
    · by_cases hc0 : cap = 0
      · subst hc0
        refine (Any.Builder_String_noroom L X w.heap.size b g p cur w (Nat.le_refl _) hbk hg).mono ?_
        rintro e w' ⟨rfl, bel⟩
        exact ⟨rfl, belowMod bel⟩
      · refine (Any.Builder_String_room L X w.heap.size b g cap p w hc0 hbk).mono ?_
        rintro e w' ⟨rfl, bel⟩
        exact ⟨rfl, belowMod bel⟩
  · obtain ⟨l, rfl⟩ : ∃ l : List UInt8, s0 = ⟨l.toArray⟩ := ⟨s0.data.toList, by cases s0; simp⟩
    have hsz : (⟨l.toArray⟩ : ByteArray).size = l.length := by simp [ByteArray.size]
    have hbc : bcells ⟨l.toArray⟩ = Lib.byteCells l := by simp [bcells, Lib.byteCells]
    rw [hsz] at h0 hown
    rw [hbc] at hown
    have hl0 : l ≠ [] := by rintro rfl; exact h0 rfl
    obtain ⟨g, cap, cur, rfl, hg, hnc, hcm, hcs⟩ : ∃ g cap cur, v = .slice (some ⟨g, 0, none⟩) l.length cap ∧ w.heap[g]? = some (.cells cur (ρ.t 5) (0, 0)) ∧ l.length ≤ cap ∧ cap ≤ maxLen ∧ cur.size = cap * 1 := by
      rcases hown.2 with ⟨_, hz⟩ | ⟨g, cap, cur, hv, _, r1, r2, r3, r4, _⟩
      · exact absurd hz h0
      · exact ⟨g, cap, cur, hv, r1, r2, r3, r4⟩
    have c1 : w.drew.cell? ⟨b, 1, none⟩ = some (.slice (some ⟨g, 0, none⟩) l.length cap) := by
      have : w.drew.heap[b]? = some (.cells #[p, .slice (some ⟨g, 0, none⟩) l.length cap] (ρ.t 72) (0, 0)) := hbk
      rw [Lib.cell_of_heap this]; rfl
    have hSD : (Builtin.unsafeSliceData_ #[(ρ.t 37)] (ρ.t 127) #[.slice (some ⟨g, 0, none⟩) l.length cap]).run P w.drew = .ok (.pointer (some ⟨g, 0, none⟩)) w.drew :=
      Lib.run_unsafeSliceData_row _ _ _ _ _ _ (by omega)
    have hUS : (Builtin.unsafeString_ #[(ρ.t 127), (ρ.t 3)] (ρ.t 9) #[.pointer (some ⟨g, 0, none⟩), .int .i64 l.length]).run P w.drew = .ok (.string ⟨l.toArray⟩) (w.drew.freeze ⟨g, 0, none⟩ l.length) := by
      refine Lib.run_unsafeString_row w.drew (ρ.t 127) (ρ.t 3) (ρ.t 9) (ρ.t 5) L.t127 X.cellsByte g cur.size (by have hg' : w.drew.heap[g]? = some (.cells cur (ρ.t 5) (0, 0)) := hg; simp [World.shape?, hg']) l hl0 (by omega) (by unfold maxLen at hcm; omega) ?_
      intro j x hx
      exact hown.cells (g := g) rfl j (.int .u8 x.toNat) (by simp [Lib.byteCells, hx])
    have frz : Mod (fun k => b = k ∨ (Value.slice (some ⟨g, 0, none⟩) l.length cap).ownBlock = some k) w (w.drew.freeze ⟨g, 0, none⟩ l.length) := by
      have hd := Lib.below_freeze (Below.drew (Below.refl 0 w)) (p := ⟨g, 0, none⟩) (Nat.zero_le _) l.length
      refine ⟨hd.os, hd.tape, hd.output, hd.size, fun k hk hn => ?_⟩
      have hgk : ¬ g = k := fun e => hn (.inr (by simp [Value.ownBlock, e]))
      simp [World.freeze, World.drew, -World.drew_eq, hl0, Array.getElem?_modify, hgk]
    have mixed := L.mixed
    have t72 := L.t72; have a72 := L.a72; have z72 := L.z72; have v72 := L.v72; have u72 := run_underlying L.t72
    have t70 := L.t70; have a70 := L.a70; have z70 := L.z70; have v70 := L.v70; have u70 := run_underlying L.t70
    have t37 := L.t37; have a37 := L.a37; have z37 := L.z37; have v37 := L.v37; have u37 := run_underlying L.t37
    have t127 := L.t127; have a127 := L.a127; have z127 := L.z127; have v127 := L.v127; have u127 := run_underlying L.t127
    have t3 := L.t3; have a3 := L.a3; have z3 := L.z3; have v3 := L.v3; have u3 := run_underlying L.t3
    have t9 := L.t9; have a9 := L.a9; have z9 := L.z9; have v9 := L.v9; have u9 := run_underlying L.t9
    have t5 := X.t5; have a5 := X.a5; have z5 := X.z5; have v5 := X.v5; have u5 := run_underlying X.t5
    clear hown q2 belowMod hbc
    go_enter L.f169, Body.n169_ntmps ρ
    go_wp2
    go_region_o
    all_goals (go_wp2; go_ret; exact ⟨rfl, frz⟩)
end Go.Proofs
