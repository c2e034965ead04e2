/- What a library function's contract says of its calls, in the interpreter's words. -/
import Derived.Test.YtegiadfbniamkaaDoorK3
import Derived.Shelf.Strings.SlTrimAsciiWalks
import Derived.Shelf.Strings.IndexAnyAll
import Derived.Shelf.Strings.Trim
import Derived.Lib.SlTrimSet
import Derived.Shelf.Strconv.Itoa3
import Derived.Shelf.Strings.Repeat
import Derived.Shelf.Strconv.Atoi
import Derived.Shelf.Strings.SplitShaped
import Derived.Lib.LaidTab
import Derived.LaidSub

namespace Go.Ra
set_option linter.unusedSectionVars false
open Go.ChangeShapes Go.WideShapes Go.RowKit
variable [Known]

/-- A plain value. -/
def fv : (e : EK) → e.T → Value
  | .str, (s : ByteArray) => .string s
  | .int k, (x : Int) => .int k x
  | .bool, (b : Bool) => .bool b
  | _, _ => undef
def EK.flat : EK → Bool
  | .str => true
  | .int _ => true
  | .bool => true
  | _ => false

theorem fv_of {w : World} {T : Nat → Prop} {e : EK} {x : e.T} {v : Value} (hf : e.flat = true) (h : RU w T e x v) : v = fv e x := by
  cases e <;> simp [EK.flat] at hf
  · simp only [RU, RC, List.cons.injEq, and_true] at h
    exact h
  · simp only [RU, RC, List.cons.injEq, and_true] at h
    exact h
  · simp only [RU, RC, List.cons.injEq, and_true] at h
    exact h
theorem of_fv {w : World} {T : Nat → Prop} {e : EK} {x : e.T} (hf : e.flat = true) : RU w T e x (fv e x) := by
  cases e <;> simp [EK.flat] at hf
  · simp only [RU, RC, fv]
  · simp only [RU, RC, fv]
  · simp only [RU, RC, fv]

/-- What a call gives back whose results are plain. -/
theorem given_flat {w w' : World} {T I : Nat → Prop} {ps : List PM} {args : List Value} {e : EK} {y : e.T} (hf : e.flat = true) (hb : ∀ vs, backH ps vs = []) (hbk : BackOk w' T ps args []) (htb : ∀ b, T b → b < w.heap.size) (bel : Below w.heap.size w w') :
    Given w w' T I T ps args [.byv e] [⟨e, y⟩] [] [fv e y] where
  mod := ⟨bel.os, bel.tape, bel.output, bel.size, fun k hk _ => bel.block k hk⟩
  more := fun _ z => z
  tb := fun b z => ⟨.inl z, Nat.lt_of_lt_of_le (htb b z) bel.size⟩
  ret := ⟨⟨y, rfl, of_fv hf⟩, trivial⟩
  back := hbk
  nodup := by rw [hb]; exact List.nodup_nil
  free := by rw [hb]; intro b h; simp [resH] at h

section
variable {P : Program} {f : FuncId} {e1 e2 e3 er : EK} {c : Nat → Option (List (Nat × CM))} {kp : Nat → Nat → Bool} {cl : Nat → Nat → Option Nat} {al : Nat → List (Nat × Nat)}

theorem snd1 {g : e1.T → Option er.T} (h1 : e1.flat = true) (hr : er.flat = true)
    (h : ∀ x y, g x = some y → ∀ w S, Known.K w S → Calls P f #[fv e1 x] w fun e w' => e = .returned (fv er y) ∧ Below w.heap.size w w') :
    Sound P ⟨f, [.byv e1], [.byv er], c, kp, cl, al⟩ g := by
  intro x y hy w T I args hH
  have hok := hH.ok
  rcases args with ⟨l⟩
  match l, hok with
  | [v1], ⟨⟨x1, q1, r1⟩, _⟩ =>
    cases q1
    cases fv_of h1 r1
    refine (h x y hy w _ hH.kn).mono ?_
    rintro e w' ⟨rfl, bel⟩
    exact ⟨[fv er y], T, rfl, given_flat hr (fun vs => by cases vs <;> rfl) trivial hH.tb bel⟩
theorem snd2 {g : e1.T × e2.T → Option er.T} (h1 : e1.flat = true) (h2 : e2.flat = true) (hr : er.flat = true)
    (h : ∀ x y z, g (x, y) = some z → ∀ w S, Known.K w S → Calls P f #[fv e1 x, fv e2 y] w fun e w' => e = .returned (fv er z) ∧ Below w.heap.size w w') :
    Sound P ⟨f, [.byv e1, .byv e2], [.byv er], c, kp, cl, al⟩ g := by
  intro x y hy w T I args hH
  obtain ⟨x1, x2⟩ := x
  have hok := hH.ok
  rcases args with ⟨l⟩
  match l, hok with
  | [v1, v2], ⟨⟨z1, q1, r1⟩, ⟨z2, q2, r2⟩, _⟩ =>
    cases q1
    cases q2
    cases fv_of h1 r1
    cases fv_of h2 r2
    refine (h x1 x2 y hy w _ hH.kn).mono ?_
    rintro e w' ⟨rfl, bel⟩
    exact ⟨[fv er y], T, rfl, given_flat hr (fun vs => by rcases vs with _ | ⟨_, _ | _⟩ <;> rfl) trivial hH.tb bel⟩
theorem snd3 {g : e1.T × e2.T × e3.T → Option er.T} (h1 : e1.flat = true) (h2 : e2.flat = true) (h3 : e3.flat = true) (hr : er.flat = true)
    (h : ∀ x y z u, g (x, y, z) = some u → ∀ w S, Known.K w S → Calls P f #[fv e1 x, fv e2 y, fv e3 z] w fun e w' => e = .returned (fv er u) ∧ Below w.heap.size w w') :
    Sound P ⟨f, [.byv e1, .byv e2, .byv e3], [.byv er], c, kp, cl, al⟩ g := by
  intro x y hy w T I args hH
  obtain ⟨x1, x2, x3⟩ := x
  have hok := hH.ok
  rcases args with ⟨l⟩
  match l, hok with
  | [v1, v2, v3], ⟨⟨z1, q1, r1⟩, ⟨z2, q2, r2⟩, ⟨z3, q3, r3⟩, _⟩ =>
    cases q1
    cases q2
    cases q3
    cases fv_of h1 r1
    cases fv_of h2 r2
    cases fv_of h3 r3
    refine (h x1 x2 x3 y hy w _ hH.kn).mono ?_
    rintro e w' ⟨rfl, bel⟩
    exact ⟨[fv er y], T, rfl, given_flat hr (fun vs => by rcases vs with _ | ⟨_, _ | ⟨_, _ | _⟩⟩ <;> rfl) trivial hH.tb bel⟩
end
end Go.Ra

namespace Go.Proofs
open Go.Shelf Go.RowKit Go.Ra
section
variable {P : Program} {ρ : Ren}

/-- The steps of strings.Trim where neither string is empty and the second one has two bytes or more, all of them below 128. -/
theorem Ra.trim_many (L : Lays.n160 P ρ) (z : ∀ w, (zeroValue (ρ.t 116)).run P w = .ok (.agg (Array.replicate 256 (.bool false))) w) (n : (P.info? (ρ.t 116)).map (·.size) = some 256) (a b : ByteArray) (w : World) (hb : 2 ≤ b.size) (ha : 0 < a.size) (hal : a.size ≤ 9223372036854775807) (hbl : b.size < 4294967281)
    (low : ∀ (j : Nat) x, b.data.toList[j]? = some x → x.toNat < 128) :
    Calls P (ρ.f 160) #[.string a, .string b] w fun e w' => e = .returned (.string ⟨(Lib.trimS a.data.toList b.data.toList).toArray⟩) ∧ Below w.heap.size w w' := by
  have set := Any.strings_makeASCIISet { L with } z n b w hbl low
  have full : ∀ t : ByteArray, 0 < t.size → t.toList.isEmpty = false := fun t ht => by
    rw [Lib.toList_data]
    cases h : t.data.toList with
    | nil => rw [Lib.size_eq, h] at ht; exact absurd ht (by simp)
    | cons _ _ => rfl
  have fullA := full a ha
  have fullB := full b (by omega)
  have many : ((b.size : Int) == 1) = false := beq_eq_false_iff_ne.2 (by omega)
  clear low full
  generalize hw1 : w.alloc (.cells (Lib.setCells b.data.toList) (ρ.t 116)) = w1 at set
  have store : (storeCells ⟨w.heap.size + 1, 0, none⟩ (Lib.setCells b.data.toList).toList 0).run P (w1.alloc (.cells (Array.replicate 256 (.bool false)) (ρ.t 116))) = .ok () (w1.alloc (.cells (Lib.setCells b.data.toList) (ρ.t 116))) := by
    have := run_storeCells_new (P := P) w1 (ρ.t 116) (Array.replicate 256 (.bool false)) (Lib.setCells b.data.toList) (by rw [Lib.setCells_size]; exact n) (by rw [Lib.setCells_size, Array.size_replicate]) (Lib.setCells_one _)
    rw [← hw1] at this ⊢
    simpa using this
  have cell : Aside (∀ (x : UInt8), (w1.alloc (.cells (Lib.setCells b.data.toList) (ρ.t 116))).cell? ⟨w.heap.size + 1, x.toNat, none⟩ = some (.bool (b.data.toList.contains x))) := fun x => by
    rw [← hw1, World.cell?_alloc_at _ _ _ _ (by simp), Lib.setCells_at]
  have bel : Below w.heap.size w (w1.alloc (.cells (Lib.setCells b.data.toList) (ρ.t 116))) := by
    rw [← hw1]
    exact ((Below.refl _ _).alloc (Nat.le_refl _) _).alloc (by simp) _
  have cells := Lib.setCells_size b.data.toList
  have size1 : w1.heap.size = w.heap.size + 1 := by rw [← hw1]; simp
  have mixed := L.mixed; have t0 := L.t0; have a0 := L.a0; have z0 := L.z0; have v0 := L.v0; have t3 := L.t3; have a3 := L.a3; have z3 := L.z3; have v3 := L.v3; have t4 := L.t4; have a4 := L.a4; have z4 := L.z4; have v4 := L.v4; have t5 := L.t5; have a5 := L.a5; have z5 := L.z5; have v5 := L.v5; have t9 := L.t9; have a9 := L.a9; have z9 := L.z9; have v9 := L.v9
  have t21 := L.t21; have a21 := L.a21; have z21 := L.z21; have v21 := L.v21; have t46 := L.t46; have a46 := L.a46; have z46 := L.z46; have v46 := L.v46; have t105 := L.t105; have a105 := L.a105; have z105 := L.z105; have v105 := L.v105; have t116 := L.t116; have t124 := L.t124; have a124 := L.a124; have z124 := L.z124; have v124 := L.v124
  have g1 : ∀ args w, (callFunc (ρ.f 227) args).run P w = .ok (.enter (ρ.f 227) args) w := enters_of L.f227 (by kernel_rfl) rfl
  have g2 : ∀ args w, (callFunc (ρ.f 233) args).run P w = .ok (.enter (ρ.f 233) args) w := enters_of L.f233 (by kernel_rfl) rfl
  have g3 : ∀ args w, (callFunc (ρ.f 234) args).run P w = .ok (.enter (ρ.f 234) args) w := enters_of L.f234 (by kernel_rfl) rfl
  go_enter L.f160, Body.n160_ntmps ρ
  go_wp2_with (go_at_fn (ρ.f 227); refine set.mono ?_; rintro e w' ⟨rfl, hw⟩; rw [hw])
  simp only [L.z116, Result.andThen, ↓reduceIte, store]
  rw [Oper.upon_skip]
  clear set store
  go_wp2_with (first
    | (go_at_fn (ρ.f 234); refine (Any.strings_trimRightASCII { L with } a (w.heap.size + 1) b.data.toList _ hal cell.out).mono ?_; rintro e w' ⟨rfl, hw⟩; rw [hw])
    | (go_at_fn (ρ.f 233); refine (Any.strings_trimLeftASCII { L with } _ (w.heap.size + 1) b.data.toList _ cell.out).mono ?_; rintro e w' ⟨rfl, hw⟩; rw [hw]))
  go_ret
  exact ⟨rfl, bel⟩
end
end Go.Proofs

namespace Go.Proofs
open Go.Shelf Go.RowKit Go.Ra
section
variable {P : Program} {ρ : Ren}
/-- strings.Trim where one of the two is empty. -/
theorem Ra.trim_empty (L : Lays.n160 P ρ) (a b : ByteArray) (w : World) (h : a.size = 0 ∨ b.size = 0) :
    Calls P (ρ.f 160) #[.string a, .string b] w fun e w' => e = .returned (.string a) ∧ w' = w := by
  have nil : ∀ t : ByteArray, t.size = 0 → t.toList.isEmpty = true := fun t ht => by
    rw [Lib.toList_data]
    cases h : t.data.toList with
    | nil => rfl
    | cons _ _ => rw [Lib.size_eq, h] at ht; simp at ht
  have full : ∀ t : ByteArray, ¬ t.size = 0 → t.toList.isEmpty = false := fun t ht => by
    rw [Lib.toList_data]
    cases h : t.data.toList with
    | nil => rw [Lib.size_eq, h] at ht; exact absurd rfl ht
    | cons _ _ => rfl
  have mixed := L.mixed; have t0 := L.t0; have a0 := L.a0; have z0 := L.z0; have v0 := L.v0; have t3 := L.t3; have a3 := L.a3; have z3 := L.z3; have v3 := L.v3; have t4 := L.t4; have a4 := L.a4; have z4 := L.z4; have v4 := L.v4; have t5 := L.t5; have a5 := L.a5; have z5 := L.z5; have v5 := L.v5; have t9 := L.t9; have a9 := L.a9; have z9 := L.z9; have v9 := L.v9
  by_cases ha : a.size = 0
  · have h1 := nil a ha
    go_enter L.f160, Body.n160_ntmps ρ
    go_wp2
    all_goals (go_ret; exact ⟨rfl, rfl⟩)
  · have h1 := full a ha
    have h2 := nil b (by omega)
    go_enter L.f160, Body.n160_ntmps ρ
    go_wp2
    all_goals (go_ret; exact ⟨rfl, rfl⟩)
end
end Go.Proofs

namespace Go.Ra
set_option linter.unusedSectionVars false
set_option linter.unusedVariables false
open Go.Shelf Go.RowKit Go.Proofs
/-- Known: the library's table of the powers of 10. -/
def KnowTab (P : Program) (w : World) (S : Nat → Prop) : Prop := (∃ g, P.globalNamed "internal/strconv.uint64pow10" = some g ∧ S g) ∧ Lib.TabIs P w "internal/strconv.uint64pow10" .u64 Lib.pow10Tab
/-- Known: a variable is a number. -/
def KnowMax (g : Nat) (w : World) (S : Nat → Prop) : Prop := S g ∧ ∃ m, w.cell? ⟨g, 0, none⟩ = some (.int .i64 m)
theorem KnowTab.mono {P : Program} {w w' : World} {S S' : Nat → Prop} (h1 : ∀ b, S b → w'.heap[b]? = w.heap[b]?) (h2 : ∀ b, S b → S' b) (h : KnowTab P w S) : KnowTab P w' S' := by
  obtain ⟨⟨g, hg, hs⟩, ht⟩ := h
  refine ⟨⟨g, hg, h2 g hs⟩, ?_⟩
  unfold Lib.TabIs at ht ⊢
  rw [← ht]
  unfold World.var?
  rw [hg]
  show (match w'.heap[g]? with | some (.cells cs _ _) => some cs | _ => none) = (match w.heap[g]? with | some (.cells cs _ _) => some cs | _ => none)
  rw [h1 g hs]
theorem KnowMax.mono {g : Nat} {w w' : World} {S S' : Nat → Prop} (h1 : ∀ b, S b → w'.heap[b]? = w.heap[b]?) (h2 : ∀ b, S b → S' b) (h : KnowMax g w S) : KnowMax g w' S' := by
  obtain ⟨hs, m, hm⟩ := h
  refine ⟨h2 g hs, m, ?_⟩
  rw [← hm]
  unfold World.cell?
  show (match w'.heap[g]? with | some (.cells c _ _) => _ | _ => none) = (match w.heap[g]? with | some (.cells c _ _) => _ | _ => none)
  rw [h1 g hs]
theorem below_grown' (w : World) (q : Nat) (os : Array Obj) : Below w.heap.size w (Go.Sort.grow (w.drewN q) os) := by
  refine ⟨rfl, rfl, rfl, ?_, fun k hk => ?_⟩
  · simp [Go.Sort.grow, World.drewN]
  · simp [Go.Sort.grow, World.drewN, Array.getElem?_append, hk]
def gCmp : ByteArray × ByteArray → Option Int := fun (a, b) => some (Lib.compareBytes a.data.toList b.data.toList)
def gIdx : ByteArray × Int → Option Int := fun (a, b) => some (Lib.indexByte a.data.toList b.toNat.toUInt8)
def gItoa : Int → Option ByteArray := fun a => cond (decide (-9223372036854775808 ≤ a) && decide (a ≤ 9223372036854775807)) (some ⟨(Lib.itoa a).toArray⟩) none
def gRepeat : ByteArray × Int → Option ByteArray := fun (a, b) => cond (decide (0 ≤ b) && decide (b ≤ 9223372036854775807) && decide (a.size * b.toNat ≤ 140737488355328)) (some ⟨(Lib.repeatL a.data.toList b.toNat).toArray⟩) none
def gTrim : ByteArray × ByteArray → Option ByteArray := fun (a, b) => cond (decide (a.size ≤ 9223372036854775807) && decide (b.size < 4294967281) && b.data.toList.all fun x => decide (x.toNat < 128)) (some ⟨(Lib.trimS a.data.toList b.data.toList).toArray⟩) none
def gReplace : ByteArray × ByteArray × ByteArray → Option ByteArray := fun (a, b, c) => cond (decide (a.size < 4294967281) && decide (1 ≤ b.size) && decide (a.size + Lib.countB a b * c.size ≤ 140737488355328)) (some ⟨(Lib.replaceAll a.data.toList b.data.toList c.data.toList).toArray⟩) none
def gAtoi : ByteArray → Option (Int × Bool) := fun a => (Lib.atoi a.data.toList).bind fun n => cond (decide (a.size ≤ 18)) (some (n, true)) none
section
variable [Known] {P : Program} {ρ : Ren} {c : Nat → Option (List (Nat × CM))} {kp : Nat → Nat → Bool} {cl : Nat → Nat → Option Nat} {al : Nat → List (Nat × Nat)}

theorem sound_cmp (L : Lays.n213 P ρ) : Sound P ⟨ρ.f 213, [.byv .str, .byv .str], [.byv (.int .i64)], c, kp, cl, al⟩ gCmp := by
  refine snd2 (e1 := .str) (e2 := .str) (er := .int .i64) rfl rfl rfl fun x y z hz w S hS => ?_
  cases hz
  refine (Any.bytealg_CompareString L x y w).mono ?_
  rintro e w' ⟨rfl, rfl⟩
  exact ⟨rfl, Below.refl _ _⟩
theorem sound_idx (L : Lays.n217 P ρ) : Sound P ⟨ρ.f 217, [.byv .str, .byv (.int .u8)], [.byv (.int .i64)], c, kp, cl, al⟩ gIdx := by
  refine snd2 (e1 := .str) (e2 := .int .u8) (er := .int .i64) rfl rfl rfl fun x y z hz w S hS => ?_
  cases hz
  refine (Any.stringslite_IndexByte L x y w).mono ?_
  rintro e w' ⟨rfl, rfl⟩
  exact ⟨rfl, Below.refl _ _⟩
theorem sound_itoa (L : LaysM.n171 P ρ) (hK : ∀ w S, Known.K w S → KnowTab P w S) : Sound P ⟨ρ.f 171, [.byv (.int .i64)], [.byv .str], c, kp, cl, al⟩ gItoa := by
  refine snd1 (e1 := .int .i64) (er := .str) rfl rfl fun (x : Int) y hy w S hS => ?_
  have hy' : cond (decide (-9223372036854775808 ≤ x) && decide (x ≤ 9223372036854775807)) (some (⟨(Lib.itoa x).toArray⟩ : ByteArray)) none = some y := hy
  by_cases h : -9223372036854775808 ≤ x ∧ x ≤ 9223372036854775807
  · rw [decide_eq_true h.1, decide_eq_true h.2] at hy'
    cases hy'
    refine (Any.strconv_Itoa L x h.1 h.2 w (hK w S hS).2).mono ?_
    rintro e w' ⟨rfl, k, os, rfl⟩
    exact ⟨rfl, below_grown' _ _ _⟩
  · have : (decide (-9223372036854775808 ≤ x) && decide (x ≤ 9223372036854775807)) = false := by simpa using h
    rw [this] at hy'
    cases hy'
theorem sound_repeat (L : Lays.n105 P ρ) (X : Builder.Extra P ρ) : Sound P ⟨ρ.f 105, [.byv .str, .byv (.int .i64)], [.byv .str], c, kp, cl, al⟩ gRepeat := by
  refine snd2 (e1 := .str) (e2 := .int .i64) (er := .str) rfl rfl rfl fun (x : ByteArray) (y : Int) z hz w S hS => ?_
  have hz' : cond (decide (0 ≤ y) && decide (y ≤ 9223372036854775807) && decide (x.size * y.toNat ≤ 140737488355328)) (some (⟨(Lib.repeatL x.data.toList y.toNat).toArray⟩ : ByteArray)) none = some z := hz
  by_cases h : 0 ≤ y ∧ y ≤ 9223372036854775807 ∧ x.size * y.toNat ≤ 140737488355328
  · rw [decide_eq_true h.1, decide_eq_true h.2.1, decide_eq_true h.2.2] at hz'
    cases hz'
    have := Any.strings_Repeat L X x y.toNat w (by omega) h.2.2
    rw [Int.toNat_of_nonneg h.1] at this
    exact this
  · have : (decide (0 ≤ y) && decide (y ≤ 9223372036854775807) && decide (x.size * y.toNat ≤ 140737488355328)) = false := by
      simp only [Bool.and_eq_false_iff, decide_eq_false_iff_not]
      by_cases a : 0 ≤ y <;> by_cases b : y ≤ 9223372036854775807 <;> simp_all
    rw [this] at hz'
    cases hz'
theorem sound_trim (L : Lays.n160 P ρ) (z : ∀ w, (zeroValue (ρ.t 116)).run P w = .ok (.agg (Array.replicate 256 (.bool false))) w) (n : (P.info? (ρ.t 116)).map (·.size) = some 256) : Sound P ⟨ρ.f 160, [.byv .str, .byv .str], [.byv .str], c, kp, cl, al⟩ gTrim := by
  refine snd2 (e1 := .str) (e2 := .str) (er := .str) rfl rfl rfl fun (x : ByteArray) (y : ByteArray) u hu w S hS => ?_
  have hu' : cond (decide (x.size ≤ 9223372036854775807) && decide (y.size < 4294967281) && y.data.toList.all fun b => decide (b.toNat < 128)) (some (⟨(Lib.trimS x.data.toList y.data.toList).toArray⟩ : ByteArray)) none = some u := hu
  cases hc : (decide (x.size ≤ 9223372036854775807) && decide (y.size < 4294967281) && y.data.toList.all fun b => decide (b.toNat < 128)) with
  | false => rw [hc] at hu'; cases hu'
  | true =>
    rw [hc] at hu'
    cases hu'
    simp only [Bool.and_eq_true, decide_eq_true_eq] at hc
    obtain ⟨⟨h1, h2⟩, h3⟩ := hc
    have low : ∀ (j : Nat) b, y.data.toList[j]? = some b → b.toNat < 128 := fun j b hb => by
      simpa using List.all_eq_true.1 h3 b (List.mem_of_getElem? hb)
    by_cases he : x.size = 0 ∨ y.size = 0
    · refine (Ra.trim_empty L x y w he).mono ?_
      rintro e w' ⟨rfl, rfl⟩
      refine ⟨?_, Below.refl _ _⟩
      have : Lib.trimS x.data.toList y.data.toList = x.data.toList := by
        rcases he with q | q
        · have : x.data.toList = [] := List.eq_nil_of_length_eq_zero (by rw [← Lib.size_eq]; exact q)
          rw [this]
          simp [Lib.trimS, Lib.trimLeftS, Lib.trimRightS]
        · have : y.data.toList = [] := List.eq_nil_of_length_eq_zero (by rw [← Lib.size_eq]; exact q)
          rw [this]
          have dwn : ∀ l : List UInt8, l.dropWhile (fun _ => false) = l := fun l => by cases l <;> rfl
          simp [Lib.trimS, Lib.trimLeftS, Lib.trimRightS, dwn]
      have fvs : fv .str (⟨(Lib.trimS x.data.toList y.data.toList).toArray⟩ : ByteArray) = .string ⟨(Lib.trimS x.data.toList y.data.toList).toArray⟩ := rfl
      rw [fvs, this]
    · by_cases ho : y.size = 1
      · obtain ⟨b, rfl⟩ : ∃ b : UInt8, y = ⟨#[b]⟩ := Lib.one_byte y ho
        refine (Any.strings_Trim_one L x b (low 0 b rfl) w h1).mono ?_
        rintro e w' ⟨rfl, hw⟩
        refine ⟨?_, ?_⟩
        · have fvs : fv .str (⟨(Lib.trimS x.data.toList [b]).toArray⟩ : ByteArray) = .string ⟨(Lib.trimS x.data.toList [b]).toArray⟩ := rfl
          rw [fvs, Lib.trimS_one]
        · rcases hw with rfl | rfl
          · exact Below.refl _ _
          · exact ⟨rfl, rfl, rfl, Nat.le_refl _, fun _ _ => rfl⟩
      · exact Ra.trim_many L z n x y w (by omega) (by omega) h1 h2 low
theorem sound_replace {g : Nat} (L : Lays.n155 P ρ) (X : Builder.Extra P ρ) (hg : ρ.g 1 = g) (hK : ∀ w S, Known.K w S → KnowMax g w S) : Sound P ⟨ρ.f 155, [.byv .str, .byv .str, .byv .str], [.byv .str], c, kp, cl, al⟩ gReplace := by
  refine snd3 (e1 := .str) (e2 := .str) (e3 := .str) (er := .str) rfl rfl rfl rfl fun (x : ByteArray) (y : ByteArray) (t : ByteArray) u hu w S hS => ?_
  have hu' : cond (decide (x.size < 4294967281) && decide (1 ≤ y.size) && decide (x.size + Lib.countB x y * t.size ≤ 140737488355328)) (some (⟨(Lib.replaceAll x.data.toList y.data.toList t.data.toList).toArray⟩ : ByteArray)) none = some u := hu
  cases hc : (decide (x.size < 4294967281) && decide (1 ≤ y.size) && decide (x.size + Lib.countB x y * t.size ≤ 140737488355328)) with
  | false => rw [hc] at hu'; cases hu'
  | true =>
    rw [hc] at hu'
    cases hu'
    simp only [Bool.and_eq_true, decide_eq_true_eq] at hc
    obtain ⟨⟨h1, h2⟩, h3⟩ := hc
    obtain ⟨_, m, hm⟩ := hK w S hS
    exact Any.strings_ReplaceAll L X x y t m w h1 (by rw [hg]; exact hm) h2 h3
theorem sound_atoi (L : Lays.n172 P ρ) : Sound P ⟨ρ.f 172, [.byv .str], [.byv (.int .i64), .byv .err], c, kp, cl, al⟩ gAtoi := by
  intro x y hy w T I args hH
  have hok := hH.ok
  rcases args with ⟨l⟩
  match l, hok with
  | [v1], ⟨⟨x1, q1, r1⟩, _⟩ =>
    cases q1
    cases fv_of (e := .str) rfl r1
    have hy' : (Lib.atoi (x : ByteArray).data.toList).bind (fun n => cond (decide ((x : ByteArray).size ≤ 18)) (some (n, true)) none) = some y := hy
    cases ha : Lib.atoi (x : ByteArray).data.toList with
    | none => rw [ha] at hy'; cases hy'
    | some n =>
      rw [ha] at hy'
      by_cases h : (x : ByteArray).size ≤ 18
      · simp only [Option.bind_some, decide_eq_true h, cond_true] at hy'
        cases hy'
        refine (Any.strconv_Atoi L x n h ha w).mono ?_
        rintro e w' ⟨rfl, t, rfl⟩
        refine ⟨[.int .i64 n, .nilIface], T, rfl, ⟨⟨rfl, rfl, rfl, by rw [Lib.bytesWorld_size]; omega, fun k hk _ => Lib.bytesWorld_at_old w _ t k hk⟩, fun _ z => z, fun b z => ⟨.inl z, by rw [Lib.bytesWorld_size]; have := hH.tb b z; omega⟩, ⟨⟨n, rfl, by simp only [RU, RC]⟩, ⟨true, rfl, by simp only [RU, RC]; simp⟩, trivial⟩, trivial, ?_, ?_⟩⟩
        · exact List.nodup_nil
        · intro b hb
          simp [resH, backH] at hb
      · simp only [Option.bind_some, decide_eq_false h, cond_false] at hy'
        cases hy'
end

/-- A law's row that lists variables; of the world at the start it is known, too, that the program's own variables have their shapes. -/
theorem law_shaped [Known] {C : Checked} {A : An} {u n : Nat} {fn : Func} {s : ChangeSpec} {conds : List PathCond} {es : ES} {rt : TypeId} {os : Os} {H : Type} {enc : TypeId × Value → H} (laid : List (String × DataW Unit))
    (hmix : C.prog.follows .mixedOrders = true) (hgv : ∀ u g, A.gv u = some g → Sound C.prog (A.var u) g)
    (own : ownKnob C.prog.godebug = none) (started : os.Started) (noInit : C.prog.inits.idxOf? (A.var u).f = none) (hfn : C.prog.funcs[(A.var u).f]? = some fn)
    (hl : laidOutB C.prog = true) (hes : esL C.prog n (A.var u).par fn.params.toList = some es) (hrd : rdL C.prog fn.params.toList = true)
    (hret : (A.var u).ret = [.byv .bool]) (hrt : fn.resultTypes = #[rt]) (hb : C.prog.underlying rt = some .bool)
    (hvars : s.vars = []) (hvt : s.plain.varTypes C.prog = []) (hspec : ∀ ds : List (DataW H), ds.length = fn.params.size → (s.fn H (ds ++ [])).results = [.lit (.bool true)] ∧ (s.fn H (ds ++ [])).args = ds ∧ (s.fn H (ds ++ [])).vars = [])
    (hpure : ∀ x, wfE es _ x → ∃ k y, callA C.prog A k u x = some y ∧ unT (A.var u).retEs y = [⟨.bool, true⟩]) (hkn : ∀ W : World, W.ShapedOpen C.prog → laidMetH C.prog laid W → Known.K W (fun b => Inside W b ∧ ¬ False))
    (witness : ∃ (w : World) (tape : Tape) (i : Input), w.os = os ∧ (w.forCall tape i).Shaped C.prog ∧ i.vars = [] ∧ Input.okWide C.prog (w.forCall tape i) .any w.heap.size (A.var u).f i ∧
      ((s.pre enc C.prog fn conds false (w.forCall tape i).memory i.args ∧ laidMetH C.prog laid (w.forCall tape i).memory) ∧ sizedMet enc C.prog fn (OpenSpec.ofChange s) false (w.forCall tape i).memory i.args) ∧ Assume.holds {} C.prog (lone (Frame.enter C.prog (A.var u).f i.args .normal) [] (w.forCall tape i))) :
    ReturnsInHanded {} C os (A.var u).f .any (fun w args => (s.pre enc C.prog fn conds false w args ∧ laidMetH C.prog laid w) ∧ sizedMet enc C.prog fn (OpenSpec.ofChange s) false w args) (s.post enc C.prog fn false true false false) := by
  refine returnsInHanded_of_calls own started noInit witness ?_
  intro w tape i _ hsh _ hok hpre hholds
  obtain ⟨_, _, _, fn', hfn', _, _, _, _, hval⟩ := hok
  have e : fn' = fn := Option.some.inj (hfn'.symm.trans hfn)
  subst e
  obtain ⟨⟨⟨ds, gs, before, hw, hc⟩, hx⟩, hz⟩ := hpre
  have hw' := DataW.Whole.of_heap (w' := w.forCall tape i) (by rfl) hw
  have hx' : laidMetH C.prog laid (w.forCall tape i) := hx.of_heap (by rfl)
  refine (law_contract (W := w.forCall tape i) (base := w.heap.size) (args := i.args) (ds := ds) (gs := gs) (before := before) hmix hgv hl hes hrd hret hrt hb hvars hvt hspec hpure hval hw' (hz.weights hw) (hkn _ hsh hx')).mono fun e W' ⟨v, he, hp⟩ => ?_
  subst he
  exact ChangeSpec.post_blind hp
/-- What a list of variables tells of the table of powers. -/
theorem know_tab {P : Program} {laid : List (String × DataW Unit)} {W : World} {g t e : Nat} (keep : String × DataW Unit → Bool)
    (hl : laid.filter keep = [("internal/strconv.uint64pow10", Lib.tabData .u64 Lib.pow10Tab)])
    (hp : ((laid.filter keep).filter fun x => x.2.handleName?.isSome) = [])
    (hg : P.globalNamed "internal/strconv.uint64pow10" = some g) (hty : (P.globals[g]?).map (·.type) = some t) (ht : P.underlying t = some (.array 20 e)) (he : P.underlying e = some (.int .u64)) (hce : P.cellsOf e = 1) (hct : P.cellsOf t = 20)
    (h : laidMetH P laid W) : KnowTab P W (fun b => Inside W b ∧ ¬ False) := by
  have h2 := h.filter keep
  have h3 : laidMet P (laid.filter keep) W := by
    unfold laidMetH at h2
    rw [hp] at h2
    exact h2
  rw [hl] at h3
  have ht2 := Lib.tabIs_of_head (n := 20) hg hty ht he hce hct h3
  refine ⟨⟨g, hg, ?_, fun z => z⟩, ht2⟩
  unfold Lib.TabIs World.var? at ht2
  rw [hg] at ht2
  show g < W.heap.size
  refine Classical.byContradiction fun hn => ?_
  have : W.heap[g]? = none := Array.getElem?_eq_none (by omega)
  simp only [Option.bind_some, this] at ht2
  cases ht2
end Go.Ra
