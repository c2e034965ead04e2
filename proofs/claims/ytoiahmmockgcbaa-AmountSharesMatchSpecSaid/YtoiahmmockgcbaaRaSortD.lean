import Derived.Test.YtoiahmmockgcbaaRaSortC
/- Sorting a list in place, equal ones in their order. -/
namespace Go.Ra
section
variable {α : Type}

theorem mrg_assoc {le : α → α → Bool} (h : TP le) : ∀ (n : Nat) (A B C : List α), A.length + B.length + C.length = n → mrg le (mrg le A B) C = mrg le A (mrg le B C) := by
  intro n
  induction n with
  | zero =>
    intro A B C hn
    have h1 : A = [] := List.length_eq_zero_iff.1 (by omega)
    have h2 : B = [] := List.length_eq_zero_iff.1 (by omega)
    subst h1 h2
    simp [mrg_nil_left]
  | succ n ih =>
    intro A B C hn
    match A, B, C with
    | [], B, C => rw [mrg_nil_left, mrg_nil_left]
    | x :: A, [], C => rw [mrg_nil_right, mrg_nil_left]
    | x :: A, y :: B, [] => rw [mrg_nil_right, mrg_nil_right]
    | x :: A, y :: B, z :: C =>
      simp only [List.length_cons] at hn
      have i1 := ih A (y :: B) (z :: C) (by simp; omega)
      have i2 := ih (x :: A) B (z :: C) (by simp; omega)
      have i3 := ih (x :: A) (y :: B) C (by simp; omega)
      by_cases hxy : le x y = true
      · rw [mrg_cons (le := le) x y, if_pos hxy, mrg_cons]
        by_cases hyz : le y z = true
        · have hxz := h.trans _ _ _ hxy hyz
          rw [if_pos hxz, mrg_cons (le := le) y z, if_pos hyz, mrg_cons, if_pos hxy, i1, mrg_cons (le := le) y z, if_pos hyz]
        · rw [mrg_cons (le := le) y z, if_neg hyz, mrg_cons (le := le) x z]
          by_cases hxz : le x z = true
          · rw [if_pos hxz, if_pos hxz, i1, mrg_cons (le := le) y z, if_neg hyz]
          · rw [if_neg hxz, if_neg hxz, ← i3, mrg_cons (le := le) x y, if_pos hxy]
      · rw [mrg_cons (le := le) x y, if_neg hxy, mrg_cons]
        by_cases hyz : le y z = true
        · rw [if_pos hyz, mrg_cons (le := le) y z, if_pos hyz, mrg_cons, if_neg hxy, i2]
        · have hxz : ¬ le x z = true := by
            intro hz
            rcases h.total x y with q | q
            · exact hxy q
            · exact hyz (h.trans _ _ _ q hz)
          rw [if_neg hyz, mrg_cons (le := le) y z, if_neg hyz, mrg_cons (le := le) x z, if_neg hxz, ← i3, mrg_cons (le := le) x y, if_neg hxy]

/-- The stable sorting of a list. -/
def isort (le : α → α → Bool) (l : List α) : List α := l.foldl (fun acc x => mrg le acc [x]) []
theorem isort_fold {le : α → α → Bool} (h : TP le) : ∀ (m acc : List α), m.foldl (fun acc x => mrg le acc [x]) acc = mrg le acc (isort le m)
  | [], acc => by simp [isort, mrg_nil_right]
  | x :: m, acc => by
    have e : isort le (x :: m) = mrg le [x] (isort le m) := by
      show List.foldl _ (mrg le [] [x]) m = _
      rw [mrg_nil_left, isort_fold h m]
    rw [List.foldl_cons, isort_fold h m, mrg_assoc h _ _ _ _ rfl, e]
theorem isort_append {le : α → α → Bool} (h : TP le) (l m : List α) : isort le (l ++ m) = mrg le (isort le l) (isort le m) := by
  show (l ++ m).foldl _ [] = _
  rw [List.foldl_append, isort_fold h m]
  rfl
theorem isort_nil (le : α → α → Bool) : isort le ([] : List α) = [] := rfl
theorem isort_one (le : α → α → Bool) (x : α) : isort le [x] = [x] := by
  unfold isort
  rw [List.foldl_cons, mrg_nil_left]
  rfl
theorem isort_perm {le : α → α → Bool} (h : TP le) : ∀ l : List α, (isort le l).Perm l
  | [] => .refl _
  | x :: l => by
    have := isort_append h [x] l
    rw [List.singleton_append] at this
    rw [this, isort_one]
    exact (mrg_perm le [x] (isort le l)).trans ((isort_perm h l).cons x)
theorem isort_srt {le : α → α → Bool} (h : TP le) : ∀ l : List α, Srt le (isort le l)
  | [] => List.Pairwise.nil
  | x :: l => by
    have := isort_append h [x] l
    rw [List.singleton_append] at this
    rw [this, isort_one]
    exact mrg_srt h (List.pairwise_singleton _ _) (isort_srt h l)
theorem seg_all (l : List α) : seg l 0 l.length = l := by simp [seg]
end
end Go.Ra

namespace Go.Proofs.Ytoiahmmockgcbaa.Eq
open Go Go.Ra
set_option linter.unusedVariables false

section
variable {le : Sh → Sh → Bool} {Dm : Sh → Prop} (hle : TP le) (hc : CmpOk le Dm)

theorem bor {p q : Prop} [Decidable p] [Decidable q] (h : p → q) : ((!(decide p)) || decide q) = true := by
  by_cases hp : p
  · simp [h hp]
  · simp [hp]

include hc in
theorem ev_ins_c4 (u : Nat) (hu : u < 1125899906842624) (a b i : Nat) (hi : i < u) : ∀ (n j : Nat) (l : List Sh), j - a = n → a ≤ j → j < u → l.length = u → (∀ x ∈ l, Dm x) →
    ∃ (e : Nat) (r : List Sh), a ≤ e ∧ e ≤ j ∧ (a < e → le (l.getD (e - 1) sh0) (l.getD j sh0) = true) ∧ (∀ q, e ≤ q → q < j → le (l.getD q sh0) (l.getD j sh0) = false) ∧ r.length = u ∧
      (∀ p, r[p]? = if p = e then l[j]? else if e < p ∧ p ≤ j then l[p - 1]? else l[p]?) ∧
      ∀ y, Ev (fun k => slices_insertionSortCmpFunc_1_c1 k r (a : Int) (b : Int) () ((i + 1 : Nat) : Int)) y → Ev (fun k => slices_insertionSortCmpFunc_1_c4 k l (a : Int) (b : Int) () (i : Int) (j : Int)) y := by
  intro n
  induction n with
  | zero =>
    intro j l hn haj hju hl hd
    have hj : j = a := by omega
    subst hj
    refine ⟨j, l, by omega, by omega, fun z => by omega, fun q z1 z2 => by omega, hl, fun p => ?_, fun y hy => ?_⟩
    · split
      · rename_i h; rw [h]
      · rw [if_neg (by omega)]
    · refine .step (fun k => slices_insertionSortCmpFunc_1_c4_eq k _ _ _ _ _ _) (.tt (bor fun z => by omega) (.tt (bor fun z => by omega) (.tt (bor fun z => by omega) (.tt (bor fun z => by omega) ?_))))
      rw [swi (by omega)]
      exact .bind (.nk (by omega) (.pure 0)) (.ff (cbn (by omega)) hy)
  | succ n ih =>
    intro j l hn haj hju hl hd
    have h1 : j < l.length := by omega
    have h2 : j - 1 < l.length := by omega
    obtain ⟨v, v1, v2⟩ := hc (l.getD j sh0) (l.getD (j - 1) sh0) (dm_at hd h1) (dm_at hd h2)
    by_cases hv : v < 0
    · have hf : le (l.getD (j - 1) sh0) (l.getD j sh0) = false := by simpa [hv] using v2
      have hd' : ∀ x ∈ (l.set j (l.getD (j - 1) sh0)).set (j - 1) (l.getD j sh0), Dm x := by
        intro x hx
        rcases List.mem_or_eq_of_mem_set hx with hx | rfl
        · rcases List.mem_or_eq_of_mem_set hx with hx | rfl
          · exact hd x hx
          · exact dm_at hd h2
        · exact dm_at hd h1
      have hset : ∀ q, q < j - 1 → ((l.set j (l.getD (j - 1) sh0)).set (j - 1) (l.getD j sh0)).getD q sh0 = l.getD q sh0 := by
        intro q hq
        simp only [List.getD_eq_getElem?_getD]
        rw [List.getElem?_set_ne (by omega), List.getElem?_set_ne (by omega)]
      have hsj : ((l.set j (l.getD (j - 1) sh0)).set (j - 1) (l.getD j sh0)).getD (j - 1) sh0 = l.getD j sh0 := by
        rw [List.getD_eq_getElem?_getD, List.getElem?_set_self (by simpa using h2)]
        rfl
      obtain ⟨e, r, g1, g2, g3, g4, g5, g6, g7⟩ := ih (j - 1) ((l.set j (l.getD (j - 1) sh0)).set (j - 1) (l.getD j sh0)) (by omega) (by omega) (by omega) (by simpa using hl) hd'
      rw [hsj] at g3 g4
      refine ⟨e, r, g1, by omega, fun z => ?_, fun q z1 z2 => ?_, g5, fun p => ?_, fun y hy => ?_⟩
      · have := g3 z
        rwa [hset _ (by omega)] at this
      · by_cases hq : q = j - 1
        · rw [hq]; exact hf
        · have := g4 q z1 (by omega)
          rwa [hset _ (by omega)] at this
      · rw [g6 p]
        by_cases c1 : p = e
        · rw [if_pos c1, if_pos c1, List.getElem?_set_self (by simpa using h2), sh_get h1]
        · rw [if_neg c1, if_neg c1]
          by_cases c2 : p = j
          · subst c2
            have n1 : ¬ (e < p ∧ p ≤ p - 1) := by omega
            have n2 : e < p ∧ p ≤ p := by omega
            rw [if_neg n1, if_pos n2, List.getElem?_set_ne (by omega), List.getElem?_set_self h1, sh_get h2]
          · by_cases c3 : e < p ∧ p ≤ j - 1
            · have n2 : e < p ∧ p ≤ j := by omega
              rw [if_pos c3, if_pos n2, List.getElem?_set_ne (by omega), List.getElem?_set_ne (by omega)]
            · have n2 : ¬ (e < p ∧ p ≤ j) := by omega
              rw [if_neg c3, if_neg n2, List.getElem?_set_ne (by omega), List.getElem?_set_ne (by omega)]
      · have hnext := g7 y hy
        refine .step (fun k => slices_insertionSortCmpFunc_1_c4_eq k _ _ _ _ _ _) ?_
        simp only [sw1 (i := j) (by omega) (by omega), Int.toNat_natCast, sh_eta, List.length_set]
        refine .tt (bor fun z => by omega) (.tt (bor fun z => by omega) (.tt (bor fun z => by omega) (.tt (bor fun z => by omega) (.bind (.ck (by omega) v1) (.tt (cb (by omega)) ?_)))))
        exact .ck (by omega) (.ck (by omega) (.ck (by omega) (.ck (by omega) (.ck (by omega) (.ck (by omega) (.ck (by omega) (.ck (by omega) hnext)))))))
    · have hf : le (l.getD (j - 1) sh0) (l.getD j sh0) = true := by simpa [hv] using v2
      refine ⟨j, l, haj, by omega, fun _ => hf, fun q z1 z2 => by omega, hl, fun p => ?_, fun y hy => ?_⟩
      · split
        · rename_i h; rw [h]
        · rw [if_neg (by omega)]
      · refine .step (fun k => slices_insertionSortCmpFunc_1_c4_eq k _ _ _ _ _ _) ?_
        simp only [sw1 (i := j) (by omega) (by omega), Int.toNat_natCast, sh_eta, List.length_set]
        refine .tt (bor fun z => by omega) (.tt (bor fun z => by omega) (.tt (bor fun z => by omega) (.tt (bor fun z => by omega) (.bind (.ck (by omega) v1) (.ff (cbn (by omega)) ?_)))))
        rw [swi (by omega)]
        exact hy

/-- A part that is sorted; the rest as it was. -/
def Srd (le : Sh → Sh → Bool) (l : List Sh) (a b : Nat) (r : List Sh) : Prop :=
  r.length = l.length ∧ (∀ p, p < a ∨ b ≤ p → r[p]? = l[p]?) ∧ seg r a b = isort le (seg l a b)

theorem srd_dm (hle : TP le) {l r : List Sh} {a b : Nat} (hd : ∀ x ∈ l, Dm x) (h : Srd le l a b r) : ∀ x ∈ r, Dm x := by
  intro x hx
  obtain ⟨p, hp⟩ := List.mem_iff_getElem?.1 hx
  by_cases hpo : p < a ∨ b ≤ p
  · rw [h.2.1 p hpo] at hp
    exact hd x (List.mem_of_getElem? hp)
  · have hm : x ∈ seg r a b := seg_of (by omega) (by omega) hp
    rw [h.2.2] at hm
    obtain ⟨q, _, _, hq⟩ := seg_mem ((isort_perm hle _).mem_iff.1 hm)
    exact hd x (List.mem_of_getElem? hq)

include hle hc in
theorem ev_ins_c1 (a b : Nat) (l0 : List Sh) (hu : l0.length < 1125899906842624) (hb : b ≤ l0.length) (hd0 : ∀ x ∈ l0, Dm x) : ∀ (n i : Nat) (l : List Sh), b - i = n → a < i → Srd le l0 a i l → i ≤ b →
    ∃ r, Ev (fun k => slices_insertionSortCmpFunc_1_c1 k l (a : Int) (b : Int) () (i : Int)) r ∧ Srd le l0 a b r := by
  intro n
  induction n with
  | zero =>
    intro i l hn hai hl hib
    have hi : i = b := by omega
    subst hi
    exact ⟨l, .step (fun k => slices_insertionSortCmpFunc_1_c1_eq k _ _ _ _ _) (.nk (by omega) (.pure _)), hl⟩
  | succ n ih =>
    intro i l hn hai hl hib
    have hd := srd_dm hle hd0 hl
    obtain ⟨l1, l2, l3⟩ := hl
    obtain ⟨e, r, g1, g2, g3, g4, g5, g6, g7⟩ := ev_ins_c4 hc l.length (by omega) a b i (by omega) _ i l rfl (by omega) (by omega) rfl hd
    have hsr : Srt le (seg l a i) := by rw [l3]; exact isort_srt hle _
    have hnew : Srd le l0 a (i + 1) r := by
      refine ⟨by omega, fun p hp => ?_, ?_⟩
      · rw [g6, if_neg (by omega), if_neg (by omega)]
        exact l2 p (by omega)
      · have hi : l0[i]? = some (l.getD i sh0) := by
          rw [← l2 i (by omega)]
          exact sh_get (by omega)
        have hx : l[i]? = some (l.getD i sh0) := sh_get (by omega)
        rw [seg_split (l := l0) (a := a) (m := i) (b := i + 1) (by omega) (by omega), seg_one hi, isort_append hle, isort_one, ← l3]
        rw [seg_split (l := l) (a := a) (m := e) (b := i) g1 g2]
        have key := mrg_split le _ (seg l a e) (seg l e i) [] [l.getD i sh0] rfl (fun x hx y hy => by
          obtain ⟨q, z1, z2, z3⟩ := seg_mem hx
          have hy' : y = l.getD i sh0 := by simpa using hy
          rw [hy']
          have h3 := g3 (by omega)
          by_cases hq : q = e - 1
          · rw [hq, sh_get (by omega)] at z3
            injection z3 with z3
            rw [← z3]
            exact h3
          · exact hle.trans _ _ _ (hsr.seg (p := q) (q := e - 1) z1 (by omega) (by omega) z3 (sh_get (by omega))) h3) (by simp)
        rw [List.nil_append, mrg_nil_right] at key
        rw [key]
        have key2 := mrg_split le _ [] (seg l e i) [l.getD i sh0] [] rfl (by simp) (fun y hy x hx => by
          obtain ⟨q, z1, z2, z3⟩ := seg_mem hx
          rw [sh_get (by omega)] at z3
          injection z3 with z3
          have hy' : y = l.getD i sh0 := by simpa using hy
          rw [hy', ← z3]
          exact g4 q z1 z2)
        rw [List.append_nil, List.nil_append, mrg_nil_left, mrg_nil_right] at key2
        rw [key2, seg_split (l := r) (a := a) (m := e) (b := i + 1) (by omega) (by omega), seg_split (l := r) (a := e) (m := e + 1) (b := i + 1) (by omega) (by omega)]
        have e1 : seg r a e = seg l a e := seg_congr fun p z1 z2 => by rw [g6, if_neg (by omega), if_neg (by omega)]
        have e2 : seg r e (e + 1) = [l.getD i sh0] := seg_one (by rw [g6, if_pos rfl]; exact hx)
        have e3 : seg r (e + 1) (i + 1) = seg l e i := by
          apply List.ext_getElem?
          intro q
          rw [seg_get, seg_get]
          by_cases h : q < i - e
          · rw [if_pos (by omega), if_pos h, g6, if_neg (by omega), if_pos (by omega)]
            congr 1
            omega
          · rw [if_neg (by omega), if_neg h]
        rw [e1, e2, e3]
    obtain ⟨y, q1, q2⟩ := ih (i + 1) r (by omega) (by omega) hnew (by omega)
    exact ⟨y, .step (fun k => slices_insertionSortCmpFunc_1_c1_eq k _ _ _ _ _) (.ck (by omega) (g7 y q1)), q2⟩

include hle hc in
theorem ev_ins (a b : Nat) (l : List Sh) (hu : l.length < 1125899906842624) (hab : a ≤ b) (hb : b ≤ l.length) (hd : ∀ x ∈ l, Dm x) :
    ∃ r, Ev (fun k => slices_insertionSortCmpFunc_1 k l (a : Int) (b : Int) ()) r ∧ Srd le l a b r := by
  by_cases h : a < b
  · have h1 : l[a]? = some (l.getD a sh0) := sh_get (by omega)
    obtain ⟨r, q1, q2⟩ := ev_ins_c1 hle hc a b l hu hb hd _ (a + 1) l rfl (by omega) ⟨rfl, fun _ _ => rfl, by rw [seg_one h1, isort_one]⟩ (by omega)
    refine ⟨r, .step (fun k => slices_insertionSortCmpFunc_1_eq k _ _ _ _) ?_, q2⟩
    rw [swi (by omega)]
    exact q1
  · have h2 : a = b := by omega
    subst h2
    refine ⟨l, .step (fun k => slices_insertionSortCmpFunc_1_eq k _ _ _ _) ?_, rfl, fun _ _ => rfl, by rw [seg_self]; rfl⟩
    rw [swi (by omega)]
    exact .step (fun k => slices_insertionSortCmpFunc_1_c1_eq k _ _ _ _ _) (.nk (by omega) (.pure _))

def Done (le : Sh → Sh → Bool) (l0 l : List Sh) (a b : Nat) : Prop := seg l a b = isort le (seg l0 a b)
theorem Done.same {l0 l r : List Sh} {a b c d : Nat} (h : Done le l0 l c d) (hf : ∀ p, p < a ∨ b ≤ p → r[p]? = l[p]?) (ho : d ≤ a ∨ b ≤ c) : Done le l0 r c d := by
  have : seg r c d = seg l c d := seg_congr fun p z1 z2 => hf p (by omega)
  exact this.trans h

/-- Blocks of w sorted, from a on. -/
def Blk (le : Sh → Sh → Bool) (l0 l : List Sh) (w a : Nat) : Prop := ∀ s, a ≤ s → s * w < l0.length → Done le l0 l (s * w) (min (s * w + w) l0.length)

theorem done_merge (hle : TP le) {l0 l r : List Sh} {a m b : Nat} (h1 : a ≤ m) (h2 : m ≤ b) (d1 : Done le l0 l a m) (d2 : Done le l0 l m b) (h : Mgd le l a m b r) : Done le l0 r a b := by
  unfold Done at *
  rw [h.2.2, d1, d2, ← isort_append hle, ← seg_split h1 h2]

include hle hc in
theorem ev_stable_c9 (l0 : List Sh) (hu : l0.length < 562949953421312) (w : Nat) (hw : 0 < w) (hwn : w < l0.length) : ∀ (n t : Nat) (l : List Sh), l0.length - t * (2 * w) = n → t * (2 * w) ≤ l0.length → l.length = l0.length → (∀ x ∈ l, Dm x) →
    (∀ s, s < t → Done le l0 l (s * (2 * w)) (s * (2 * w) + 2 * w)) → Blk le l0 l w (2 * t) →
    ∃ r, r.length = l0.length ∧ (∀ x ∈ r, Dm x) ∧ Blk le l0 r (2 * w) 0 ∧ ∀ y, Ev (fun k => slices_stableCmpFunc_1_c7 k r (l0.length : Int) () ((2 * w : Nat) : Int)) y → Ev (fun k => slices_stableCmpFunc_1_c9 k l (l0.length : Int) () (w : Int) ((t * (2 * w) : Nat) : Int) ((t * (2 * w) + 2 * w : Nat) : Int)) y := by
  intro n
  induction n using Nat.strongRecOn with
  | ind n ih =>
    intro t l hn ht hl hd hlo hhi
    have e1 : 2 * t * w = t * (2 * w) := by rw [Nat.mul_comm 2 t, Nat.mul_assoc]
    have e2 : (2 * t + 1) * w = t * (2 * w) + w := by rw [Nat.add_mul, e1, Nat.one_mul]
    have e3 : (t + 1) * (2 * w) = t * (2 * w) + 2 * w := by rw [Nat.add_mul, Nat.one_mul]
    have wt : wi64 (2 * (w : Int)) = ((2 * w : Nat) : Int) := by rw [wi64_id (by omega) (by omega)]; omega
    have wt2 : wi64 ((w : Int) * 2) = ((2 * w : Nat) : Int) := by rw [wi64_id (by omega) (by omega)]; omega
    by_cases hfull : t * (2 * w) + 2 * w ≤ l0.length
    · have d1 : Done le l0 l (t * (2 * w)) (t * (2 * w) + w) := by
        have := hhi (2 * t) (by omega) (by rw [e1]; omega)
        rwa [e1, Nat.min_eq_left (by omega)] at this
      have d2 : Done le l0 l (t * (2 * w) + w) (t * (2 * w) + 2 * w) := by
        have := hhi (2 * t + 1) (by omega) (by rw [e2]; omega)
        rwa [e2, Nat.min_eq_left (by omega), show t * (2 * w) + w + w = t * (2 * w) + 2 * w by omega] at this
      obtain ⟨r, q1, q2⟩ := ev_symMerge hle hc _ l (t * (2 * w)) (t * (2 * w) + w) (t * (2 * w) + 2 * w) rfl (by omega) (by omega) (by omega) (by omega) hd (by rw [d1]; exact isort_srt hle _) (by rw [d2]; exact isort_srt hle _)
      obtain ⟨y, y1, y2, y3, y4⟩ := ih (l0.length - (t + 1) * (2 * w)) (by rw [e3]; omega) (t + 1) r rfl (by rw [e3]; exact hfull) (by rw [q2.1]; exact hl) (dm_of hd q2.2.1 q2.2.2) (fun s hs => by
        by_cases hst : s = t
        · subst hst
          exact done_merge hle (by omega) (by omega) d1 d2 q2
        · refine (hlo s (by omega)).same q2.2.1 (.inl ?_)
          have : (s + 1) * (2 * w) ≤ t * (2 * w) := Nat.mul_le_mul_right _ (by omega)
          rw [Nat.add_mul, Nat.one_mul] at this
          exact this) (fun s hs hsn => by
        refine (hhi s (by omega) hsn).same q2.2.1 (.inr ?_)
        have : (2 * (t + 1)) * w ≤ s * w := Nat.mul_le_mul_right _ hs
        have e4 : (2 * (t + 1)) * w = t * (2 * w) + 2 * w := by rw [Nat.mul_comm 2 (t + 1), Nat.mul_assoc, e3]
        omega)
      refine ⟨y, y1, y2, y3, fun z hz => .step (fun k => slices_stableCmpFunc_1_c9_eq k _ _ _ _ _ _) (.ck (by omega) ?_)⟩
      rw [swa (by omega) (by omega), wt, swa (i := t * (2 * w) + 2 * w) (j := 2 * w) (by omega) (by omega)]
      refine .bind q1 ?_
      have := y4 z hz
      rw [e3] at this
      exact this
    · by_cases hpart : t * (2 * w) + w < l0.length
      · have d1 : Done le l0 l (t * (2 * w)) (t * (2 * w) + w) := by
          have := hhi (2 * t) (by omega) (by rw [e1]; omega)
          rwa [e1, Nat.min_eq_left (by omega)] at this
        have d2 : Done le l0 l (t * (2 * w) + w) l0.length := by
          have := hhi (2 * t + 1) (by omega) (by rw [e2]; omega)
          rwa [e2, Nat.min_eq_right (by omega)] at this
        obtain ⟨r, q1, q2⟩ := ev_symMerge hle hc _ l (t * (2 * w)) (t * (2 * w) + w) l0.length rfl (by omega) (by omega) (by omega) (by omega) hd (by rw [d1]; exact isort_srt hle _) (by rw [d2]; exact isort_srt hle _)
        refine ⟨r, by rw [q2.1]; exact hl, dm_of hd q2.2.1 q2.2.2, fun s _ hs => ?_, fun z hz => .step (fun k => slices_stableCmpFunc_1_c9_eq k _ _ _ _ _ _) (.nk (by omega) ?_)⟩
        · by_cases hst : s = t
          · subst hst
            rw [Nat.min_eq_right (by omega)]
            exact done_merge hle (by omega) (by omega) d1 d2 q2
          · have hlt : s < t := by
              rcases Nat.lt_or_ge s t with q | q
              · exact q
              · exfalso
                have : (t + 1) * (2 * w) ≤ s * (2 * w) := Nat.mul_le_mul_right _ (by omega)
                omega
            have h3 : (s + 1) * (2 * w) ≤ t * (2 * w) := Nat.mul_le_mul_right _ (by omega)
            rw [Nat.add_mul, Nat.one_mul] at h3
            rw [Nat.min_eq_left (by omega)]
            exact (hlo s hlt).same q2.2.1 (.inl h3)
        · rw [swa (by omega) (by omega), wt2]
          exact .ck (by omega) (.bind q1 hz)
      · refine ⟨l, hl, hd, fun s _ hs => ?_, fun z hz => .step (fun k => slices_stableCmpFunc_1_c9_eq k _ _ _ _ _ _) (.nk (by omega) ?_)⟩
        · by_cases hst : s = t
          · subst hst
            have := hhi (2 * s) (by omega) (by rw [e1]; omega)
            rw [e1, Nat.min_eq_right (by omega)] at this
            rw [Nat.min_eq_right (by omega)]
            exact this
          · have hlt : s < t := by
              rcases Nat.lt_or_ge s t with q | q
              · exact q
              · exfalso
                have : (t + 1) * (2 * w) ≤ s * (2 * w) := Nat.mul_le_mul_right _ (by omega)
                omega
            have h3 : (s + 1) * (2 * w) ≤ t * (2 * w) := Nat.mul_le_mul_right _ (by omega)
            rw [Nat.add_mul, Nat.one_mul] at h3
            rw [Nat.min_eq_left (by omega)]
            exact hlo s hlt
        · rw [swa (by omega) (by omega), wt2]
          exact .nk (by omega) hz

include hle hc in
theorem ev_stable_c7 (l0 : List Sh) (hu : l0.length < 562949953421312) : ∀ (n w : Nat) (l : List Sh), l0.length - w = n → 0 < w → l.length = l0.length → (∀ x ∈ l, Dm x) → Blk le l0 l w 0 →
    Ev (fun k => slices_stableCmpFunc_1_c7 k l (l0.length : Int) () (w : Int)) (isort le l0) := by
  intro n
  induction n using Nat.strongRecOn with
  | ind n ih =>
    intro w l hn hw hl hd hb
    by_cases h : w < l0.length
    · obtain ⟨r, q1, q2, q3, q4⟩ := ev_stable_c9 hle hc l0 hu w hw h _ 0 l rfl (by omega) hl hd (fun s hs => by omega) hb
      have := ih (l0.length - 2 * w) (by omega) (2 * w) r rfl (by omega) q1 q2 q3
      have := q4 _ this
      have wt : wi64 (2 * (w : Int)) = ((2 * w : Nat) : Int) := by rw [wi64_id (by omega) (by omega)]; omega
      refine .step (fun k => slices_stableCmpFunc_1_c7_eq k _ _ _ _) (.ck (by omega) ?_)
      rw [wt]
      rw [Nat.zero_mul, Nat.zero_add] at this
      exact this
    · refine .step (fun k => slices_stableCmpFunc_1_c7_eq k _ _ _ _) (.nk (by omega) (.to (.pure _) ?_))
      by_cases h0 : l0.length = 0
      · have e1 : l0 = [] := List.length_eq_zero_iff.1 h0
        have e2 : l = [] := List.length_eq_zero_iff.1 (by omega)
        rw [e1, e2]
        rfl
      · have := hb 0 (by omega) (by omega)
        rw [Nat.zero_mul, Nat.zero_add, Nat.min_eq_right (by omega)] at this
        unfold Done at this
        have s1 := seg_all l
        rw [hl] at s1
        rw [s1, seg_all] at this
        exact this

include hle hc in
theorem ev_stable_c2 (l0 : List Sh) (hu : l0.length < 562949953421312) : ∀ (n t : Nat) (l : List Sh), l0.length - t * 20 = n → t * 20 ≤ l0.length → l.length = l0.length → (∀ x ∈ l, Dm x) →
    (∀ s, s < t → Done le l0 l (s * 20) (s * 20 + 20)) → (∀ p, t * 20 ≤ p → l[p]? = l0[p]?) →
    Ev (fun k => slices_stableCmpFunc_1_c2 k l (l0.length : Int) () ((20 : Nat) : Int) ((t * 20 : Nat) : Int) ((t * 20 + 20 : Nat) : Int)) (isort le l0) := by
  intro n
  induction n using Nat.strongRecOn with
  | ind n ih =>
    intro t l hn ht hl hd hlo hhi
    by_cases hfull : t * 20 + 20 ≤ l0.length
    · obtain ⟨r, q1, q2, q3, q4⟩ := ev_ins hle hc (t * 20) (t * 20 + 20) l (by omega) (by omega) (by omega) hd
      have hrec := ih (l0.length - (t + 1) * 20) (by omega) (t + 1) r rfl (by omega) (by omega) (srd_dm hle hd ⟨q2, q3, q4⟩) (fun s hs => by
        by_cases hst : s = t
        · subst hst
          unfold Done
          rw [q4]
          congr 1
          exact seg_congr fun p z1 z2 => hhi p z1
        · exact (hlo s (by omega)).same q3 (.inl (by omega))) (fun p hp => by rw [q3 p (by omega)]; exact hhi p (by omega))
      refine .step (fun k => slices_stableCmpFunc_1_c2_eq k _ _ _ _ _ _) (.ck (by omega) (.bind q1 ?_))
      rw [swa (i := t * 20 + 20) (j := 20) (by omega) (by omega)]
      have e1 : (t + 1) * 20 = t * 20 + 20 := by omega
      rw [e1] at hrec
      exact hrec
    · obtain ⟨r, q1, q2, q3, q4⟩ := ev_ins hle hc (t * 20) l0.length l (by omega) (by omega) (by omega) hd
      refine .step (fun k => slices_stableCmpFunc_1_c2_eq k _ _ _ _ _ _) (.nk (by omega) (.bind q1 ?_))
      refine ev_stable_c7 hle hc l0 hu _ 20 r rfl (by omega) (by omega) (srd_dm hle hd ⟨q2, q3, q4⟩) (fun s _ hs => ?_)
      by_cases hst : s = t
      · subst hst
        rw [Nat.min_eq_right (by omega)]
        unfold Done
        rw [q4]
        congr 1
        exact seg_congr fun p z1 z2 => hhi p z1
      · rw [Nat.min_eq_left (by omega)]
        exact (hlo s (by omega)).same q3 (.inl (by omega))

include hle hc in
/-- The stable sort. -/
theorem ev_sort (l : List Sh) (hu : l.length < 562949953421312) (hd : ∀ x ∈ l, Dm x) : Ev (fun k => slices_SortStableFunc_1 k l ()) (isort le l) := by
  refine .step (fun k => slices_SortStableFunc_1_eq k _ _) (.ret ?_ rfl)
  refine .step (fun k => slices_stableCmpFunc_1_eq k _ _ _) ?_
  have := ev_stable_c2 hle hc l hu _ 0 l rfl (by omega) rfl hd (fun s hs => by omega) (fun _ _ => rfl)
  exact this
end
end Go.Proofs.Ytoiahmmockgcbaa.Eq
