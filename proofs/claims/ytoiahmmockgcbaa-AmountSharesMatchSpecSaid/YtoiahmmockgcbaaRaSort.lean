import Derived.Test.YtoiahmmockgcbaaRaEq
/- Sorting in place, the equal ones in their order: what the functions compute. -/
namespace Go.Proofs.Ytoiahmmockgcbaa.Eq
open Go Go.Ra
set_option linter.unusedVariables false

abbrev Sh : Type := Int × Int × Bool × List Int
abbrev sh0 : Sh := (0, (0, (false, [])))
theorem sh_eta (l : List Sh) (i : Nat) : ((l.getD i sh0).1, ((l.getD i sh0).2.1, ((l.getD i sh0).2.2.1, (l.getD i sh0).2.2.2))) = l.getD i sh0 := rfl
theorem sh_get {l : List Sh} {i : Nat} (h : i < l.length) : l[i]? = some (l.getD i sh0) := by
  rw [List.getD_eq_getElem?_getD, List.getElem?_eq_getElem h]
  rfl
theorem swi {i : Nat} (h : i < 1125899906842624) : wi64 ((i : Int) + 1) = ((i + 1 : Nat) : Int) := by
  rw [wi64_id (by omega) (by omega)]
  rfl
theorem swa {i j : Nat} (h : i < 1125899906842624) (h2 : j < 1125899906842624) : wi64 ((i : Int) + (j : Int)) = ((i + j : Nat) : Int) := by
  rw [wi64_id (by omega) (by omega)]
  rfl
theorem sws {i j : Nat} (h : i < 1125899906842624) (h2 : j ≤ i) : wi64 ((i : Int) - (j : Int)) = ((i - j : Nat) : Int) := by
  rw [wi64_id (by omega) (by omega)]
  omega
theorem sw1 {i : Nat} (h : i < 1125899906842624) (h2 : 1 ≤ i) : wi64 ((i : Int) - 1) = ((i - 1 : Nat) : Int) := by
  rw [wi64_id (by omega) (by omega)]
  omega
theorem swm {i j : Nat} (h : i < 1125899906842624) (h2 : j < 1125899906842624) : wi64 (shrI .u64 (wu64 (wi64 ((i : Int) + (j : Int)))) 1) = (((i + j) / 2 : Nat) : Int) := by
  rw [swa h h2, wu64_id (by omega) (by omega)]
  have : shrI .u64 ((i + j : Nat) : Int) 1 = ((i + j : Nat) : Int) / 2 := by
    show ((i + j : Nat) : Int) / 2 ^ (min ((1 : Int)).toNat 64) = _
    rfl
  rw [this, wi64_id (by omega) (by omega)]
  omega

theorem ev_swapRange_c1 (a b n : Nat) (h : a + n ≤ b) (u : Nat) (hu : u < 1125899906842624) (hb : b + n ≤ u) : ∀ (m i : Nat) (l : List Sh), n - i = m → i ≤ n → l.length = u →
    ∃ r, Ev (fun k => slices_swapRangeCmpFunc_1_c1 k l (a : Int) (b : Int) (n : Int) (i : Int)) r ∧ r.length = u ∧ ∀ p, r[p]? = if a + i ≤ p ∧ p < a + n then l[p + (b - a)]? else if b + i ≤ p ∧ p < b + n then l[p - (b - a)]? else l[p]? := by
  intro m
  induction m with
  | zero =>
    intro i l hm hi hl
    refine ⟨l, .step (fun k => slices_swapRangeCmpFunc_1_c1_eq k _ _ _ _ _) (.nk (by omega) (.pure _)), hl, fun p => ?_⟩
    rw [if_neg (by omega), if_neg (by omega)]
  | succ m ih =>
    intro i l hm hi hl
    have h1 : a + i < l.length := by omega
    have h2 : b + i < l.length := by omega
    obtain ⟨r, q1, q2, q3⟩ := ih (i + 1) ((l.set (a + i) (l.getD (b + i) sh0)).set (b + i) (l.getD (a + i) sh0)) (by omega) (by omega) (by simpa using hl)
    refine ⟨r, ?_, q2, fun p => ?_⟩
    · refine .step (fun k => slices_swapRangeCmpFunc_1_c1_eq k _ _ _ _ _) (.ck (by omega) ?_)
      simp only [swa (i := a) (j := i) (by omega) (by omega), swa (i := b) (j := i) (by omega) (by omega), swi (i := i) (by omega), Int.toNat_natCast, sh_eta, List.length_set]
      exact .ck (by omega) (.ck (by omega) (.ck (by omega) (.ck (by omega) (.ck (by omega) (.ck (by omega) (.ck (by omega) (.ck (by omega) q1)))))))
    · rw [q3 p]
      by_cases c1 : p = a + i
      · subst c1
        rw [if_neg (by omega), if_neg (by omega), if_pos (by omega), List.getElem?_set_ne (by omega), List.getElem?_set_self h1, show a + i + (b - a) = b + i by omega, sh_get h2]
      · by_cases c2 : p = b + i
        · subst c2
          rw [if_neg (by omega), if_neg (by omega), if_neg (by omega), if_pos (by omega), List.getElem?_set_self (by simpa using h2), show b + i - (b - a) = a + i by omega, sh_get h1]
        · by_cases c3 : a + (i + 1) ≤ p ∧ p < a + n
          · rw [if_pos c3, if_pos (by omega), List.getElem?_set_ne (by omega), List.getElem?_set_ne (by omega)]
          · have c5 : ¬ (a + i ≤ p ∧ p < a + n) := by omega
            rw [if_neg c3, if_neg c5]
            by_cases c4 : b + (i + 1) ≤ p ∧ p < b + n
            · have c6 : b + i ≤ p ∧ p < b + n := by omega
              rw [if_pos c4, if_pos c6, List.getElem?_set_ne (by omega), List.getElem?_set_ne (by omega)]
            · have c6 : ¬ (b + i ≤ p ∧ p < b + n) := by omega
              rw [if_neg c4, if_neg c6, List.getElem?_set_ne (by omega), List.getElem?_set_ne (by omega)]

theorem ev_swapRange (l : List Sh) (a b n : Nat) (h : a + n ≤ b) (hu : l.length < 1125899906842624) (hb : b + n ≤ l.length) :
    ∃ r, Ev (fun k => slices_swapRangeCmpFunc_1 k l (a : Int) (b : Int) (n : Int) ()) r ∧ r.length = l.length ∧ ∀ p, r[p]? = if a ≤ p ∧ p < a + n then l[p + (b - a)]? else if b ≤ p ∧ p < b + n then l[p - (b - a)]? else l[p]? := by
  obtain ⟨r, q1, q2, q3⟩ := ev_swapRange_c1 a b n h l.length hu hb _ 0 l rfl (by omega) rfl
  exact ⟨r, .step (fun k => slices_swapRangeCmpFunc_1_eq k _ _ _ _ _) q1, q2, q3⟩

theorem ev_rotate_c2 (u : Nat) (hu : u < 1125899906842624) (m : Nat) : ∀ (s i j : Nat) (l : List Sh), i + j = s → 0 < i → 0 < j → i ≤ m → m + j ≤ u → l.length = u →
    ∃ r, Ev (fun k => slices_rotateCmpFunc_1_c2 k l (m : Int) () (i : Int) (j : Int)) r ∧ r.length = u ∧ ∀ p, r[p]? = if m - i ≤ p ∧ p < m - i + j then l[p + i]? else if m - i + j ≤ p ∧ p < m + j then l[p - j]? else l[p]? := by
  intro s
  induction s using Nat.strongRecOn with
  | ind s ih =>
    intro i j l hs hi hj him hmj hl
    by_cases hij : i = j
    · subst hij
      obtain ⟨r, q1, q2, q3⟩ := ev_swapRange l (m - i) m i (by omega) (by omega) (by omega)
      refine ⟨r, .step (fun k => slices_rotateCmpFunc_1_c2_eq k _ _ _ _ _) (.ff (by simp) ?_), by omega, fun p => ?_⟩
      · rw [sws (by omega) him]
        exact .ret q1 rfl
      · rw [q3 p, show m - (m - i) = i by omega, show m - i + i = m by omega]
    · by_cases hgt : i > j
      · obtain ⟨r, q1, q2, q3⟩ := ev_swapRange l (m - i) m j (by omega) (by omega) (by omega)
        obtain ⟨t, p1, p2, p3⟩ := ih (i - j + j) (by omega) (i - j) j r rfl (by omega) hj (by omega) hmj (by omega)
        refine ⟨t, .step (fun k => slices_rotateCmpFunc_1_c2_eq k _ _ _ _ _) (.tt (by simp; omega) (.ck (by omega) ?_)), p2, fun p => ?_⟩
        · rw [sws (by omega) him, sws (by omega) (by omega)]
          exact .bind q1 p1
        · rw [p3 p]
          by_cases c1 : m - (i - j) ≤ p ∧ p < m - (i - j) + j
          · rw [if_pos c1, q3, if_neg (by omega)]
            by_cases c2 : m ≤ p + (i - j) ∧ p + (i - j) < m + j
            · rw [if_pos c2, if_neg (by omega), if_pos (by omega)]
              congr 1
              omega
            · exfalso; omega
          · rw [if_neg c1]
            by_cases c2 : m - (i - j) + j ≤ p ∧ p < m + j
            · rw [if_pos c2, q3, if_neg (by omega), if_neg (by omega), if_neg (by omega), if_pos (by omega)]
            · rw [if_neg c2, q3]
              by_cases c3 : m - i ≤ p ∧ p < m - i + j
              · rw [if_pos c3, if_pos c3]
                congr 1
                omega
              · rw [if_neg c3, if_neg c3, if_neg (by omega), if_neg (by omega)]
      · obtain ⟨r, q1, q2, q3⟩ := ev_swapRange l (m - i) (m + j - i) i (by omega) (by omega) (by omega)
        obtain ⟨t, p1, p2, p3⟩ := ih (i + (j - i)) (by omega) i (j - i) r rfl hi (by omega) him (by omega) (by omega)
        refine ⟨t, .step (fun k => slices_rotateCmpFunc_1_c2_eq k _ _ _ _ _) (.tt (by simp; omega) (.nk (by omega) ?_)), p2, fun p => ?_⟩
        · rw [sws (by omega) him, swa (by omega) (by omega), sws (by omega) (by omega), sws (by omega) (by omega)]
          exact .bind q1 p1
        · rw [p3 p]
          by_cases c1 : m - i ≤ p ∧ p < m - i + (j - i)
          · rw [if_pos c1, if_pos (by omega), q3, if_neg (by omega), if_neg (by omega)]
          · rw [if_neg c1]
            by_cases c2 : m - i + (j - i) ≤ p ∧ p < m + (j - i)
            · rw [if_pos c2, q3]
              by_cases c3 : p < m - i + j
              · rw [if_pos (by omega), if_pos (by omega)]
                congr 1
                omega
              · exfalso; omega
            · rw [if_neg c2, q3, if_neg (by omega)]
              by_cases c3 : m + j - i ≤ p ∧ p < m + j - i + i
              · rw [if_pos c3, if_neg (by omega), if_pos (by omega)]
                congr 1
                omega
              · rw [if_neg c3, if_neg (by omega), if_neg (by omega)]

theorem ev_rotate (l : List Sh) (a m b : Nat) (hu : l.length < 1125899906842624) (h1 : a < m) (h2 : m < b) (hb : b ≤ l.length) :
    ∃ r, Ev (fun k => slices_rotateCmpFunc_1 k l (a : Int) (m : Int) (b : Int) ()) r ∧ r.length = l.length ∧ seg r a (a + (b - m)) = seg l m b ∧ seg r (a + (b - m)) b = seg l a m ∧ ∀ p, p < a ∨ b ≤ p → r[p]? = l[p]? := by
  obtain ⟨r, q1, q2, q3⟩ := ev_rotate_c2 l.length hu m _ (m - a) (b - m) l rfl (by omega) (by omega) (by omega) (by omega) rfl
  refine ⟨r, .step (fun k => slices_rotateCmpFunc_1_eq k _ _ _ _ _) ?_, q2, ?_, ?_, fun p hp => ?_⟩
  · rw [sws (by omega) (by omega), sws (by omega) (by omega)]
    exact q1
  · apply List.ext_getElem?
    intro q
    rw [seg_get, seg_get]
    by_cases h : q < b - m
    · rw [if_pos (by omega), if_pos h, q3, if_pos (by omega)]
      congr 1
      omega
    · rw [if_neg (by omega), if_neg h]
  · apply List.ext_getElem?
    intro q
    rw [seg_get, seg_get]
    by_cases h : q < m - a
    · rw [if_pos (by omega), if_pos h, q3, if_neg (by omega), if_pos (by omega)]
      congr 1
      omega
    · rw [if_neg (by omega), if_neg h]
  · rw [q3, if_neg (by omega), if_neg (by omega)]
end Go.Proofs.Ytoiahmmockgcbaa.Eq
