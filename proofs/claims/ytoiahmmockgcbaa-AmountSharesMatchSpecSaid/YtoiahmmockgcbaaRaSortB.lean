import Derived.Test.YtoiahmmockgcbaaRaSort
/- Merging in place. -/
namespace Go.Proofs.Ytoiahmmockgcbaa.Eq
open Go Go.Ra
set_option linter.unusedVariables false

/-- The comparing function tells a total preorder. -/
def CmpOk (le : Sh → Sh → Bool) (Dm : Sh → Prop) : Prop := ∀ x y, Dm x → Dm y → ∃ v, Ev (fun k => amount_Shares_1 k x y) v ∧ decide (v < 0) = !le y x

theorem dm_at {Dm : Sh → Prop} {l : List Sh} (h : ∀ x ∈ l, Dm x) {i : Nat} (hi : i < l.length) : Dm (l.getD i sh0) := by
  refine h _ ?_
  rw [List.getD_eq_getElem?_getD, List.getElem?_eq_getElem hi]
  exact List.getElem_mem hi

/-- What is in a list that is another one outside, and its merged parts inside. -/
theorem dm_of {le : Sh → Sh → Bool} {Dm : Sh → Prop} {l r : List Sh} {a m b : Nat} (h : ∀ x ∈ l, Dm x) (hf : ∀ p, p < a ∨ b ≤ p → r[p]? = l[p]?) (hs : seg r a b = mrg le (seg l a m) (seg l m b)) : ∀ x ∈ r, Dm x := by
  intro x hx
  obtain ⟨p, hp⟩ := List.mem_iff_getElem?.1 hx
  by_cases hpo : p < a ∨ b ≤ p
  · rw [hf p hpo] at hp
    exact h x (List.mem_of_getElem? hp)
  · have hm : x ∈ seg r a b := seg_of (by omega) (by omega) hp
    rw [hs] at hm
    have := (mrg_perm le (seg l a m) (seg l m b)).mem_iff.1 hm
    rcases List.mem_append.1 this with z | z
    · obtain ⟨q, _, _, hq⟩ := seg_mem z
      exact h x (List.mem_of_getElem? hq)
    · obtain ⟨q, _, _, hq⟩ := seg_mem z
      exact h x (List.mem_of_getElem? hq)

theorem ev_sm_c9 (u : Nat) (hu : u < 1125899906842624) (e : Nat) (he1 : 1 ≤ e) (he : e ≤ u) : ∀ (n k0 : Nat) (l : List Sh), e - 1 - k0 = n → k0 ≤ e - 1 → l.length = u →
    ∃ r, Ev (fun k => slices_symMergeCmpFunc_1_c9 k l (e : Int) (k0 : Int)) r ∧ r.length = u ∧ ∀ p, r[p]? = if k0 ≤ p ∧ p < e - 1 then l[p + 1]? else if p = e - 1 then l[k0]? else l[p]? := by
  intro n
  induction n with
  | zero =>
    intro k0 l hn hk hl
    have hk' : k0 = e - 1 := by omega
    subst hk'
    refine ⟨l, .step (fun k => slices_symMergeCmpFunc_1_c9_eq k _ _ _) ?_, hl, fun p => ?_⟩
    · rw [sw1 (by omega) he1]
      exact .nk (by omega) (.pure _)
    · rw [if_neg (by omega)]
      split
      · rename_i h; rw [h]
      · rfl
  | succ n ih =>
    intro k0 l hn hk hl
    have h1 : k0 < l.length := by omega
    have h2 : k0 + 1 < l.length := by omega
    obtain ⟨r, q1, q2, q3⟩ := ih (k0 + 1) ((l.set k0 (l.getD (k0 + 1) sh0)).set (k0 + 1) (l.getD k0 sh0)) (by omega) (by omega) (by simpa using hl)
    refine ⟨r, ?_, q2, fun p => ?_⟩
    · refine .step (fun k => slices_symMergeCmpFunc_1_c9_eq k _ _ _) ?_
      rw [sw1 (by omega) he1]
      refine .ck (by omega) ?_
      simp only [swi (i := k0) (by omega), Int.toNat_natCast, sh_eta, List.length_set]
      exact .ck (by omega) (.ck (by omega) (.ck (by omega) (.ck (by omega) (.ck (by omega) (.ck (by omega) (.ck (by omega) (.ck (by omega) q1)))))))
    · rw [q3 p]
      by_cases c1 : p = k0
      · subst c1
        have n1 : ¬ (p + 1 ≤ p ∧ p < e - 1) := by omega
        have n2 : ¬ p = e - 1 := by omega
        have n3 : p ≤ p ∧ p < e - 1 := by omega
        rw [if_neg n1, if_neg n2, if_pos n3, List.getElem?_set_ne (by omega), List.getElem?_set_self h1, sh_get h2]
      · by_cases c2 : p = e - 1
        · have n1 : ¬ (k0 + 1 ≤ p ∧ p < e - 1) := by omega
          have n3 : ¬ (k0 ≤ p ∧ p < e - 1) := by omega
          rw [if_neg n1, if_pos c2, if_neg n3, if_pos c2, List.getElem?_set_self (by simpa using h2), sh_get h1]
        · by_cases c3 : k0 + 1 ≤ p ∧ p < e - 1
          · have n3 : k0 ≤ p ∧ p < e - 1 := by omega
            rw [if_pos c3, if_pos n3, List.getElem?_set_ne (by omega), List.getElem?_set_ne (by omega)]
          · have n3 : ¬ (k0 ≤ p ∧ p < e - 1) := by omega
            rw [if_neg c3, if_neg c2, if_neg n3, if_neg c2, List.getElem?_set_ne (by omega), List.getElem?_set_ne (by omega)]

theorem ev_sm_c21 (u : Nat) (hu : u < 1125899906842624) (e : Nat) : ∀ (n k0 : Nat) (l : List Sh), k0 - e = n → e ≤ k0 → k0 < u → l.length = u →
    ∃ r, Ev (fun k => slices_symMergeCmpFunc_1_c21 k l (e : Int) (k0 : Int)) r ∧ r.length = u ∧ ∀ p, r[p]? = if p = e then l[k0]? else if e < p ∧ p ≤ k0 then l[p - 1]? else l[p]? := by
  intro n
  induction n with
  | zero =>
    intro k0 l hn hk hku hl
    have hk' : k0 = e := by omega
    subst hk'
    refine ⟨l, .step (fun k => slices_symMergeCmpFunc_1_c21_eq k _ _ _) (.nk (by omega) (.pure _)), hl, fun p => ?_⟩
    split
    · rename_i h; rw [h]
    · rw [if_neg (by omega)]
  | succ n ih =>
    intro k0 l hn hk hku hl
    have h1 : k0 < l.length := by omega
    have h2 : k0 - 1 < l.length := by omega
    obtain ⟨r, q1, q2, q3⟩ := ih (k0 - 1) ((l.set k0 (l.getD (k0 - 1) sh0)).set (k0 - 1) (l.getD k0 sh0)) (by omega) (by omega) (by omega) (by simpa using hl)
    refine ⟨r, ?_, q2, fun p => ?_⟩
    · refine .step (fun k => slices_symMergeCmpFunc_1_c21_eq k _ _ _) (.ck (by omega) ?_)
      simp only [sw1 (i := k0) (by omega) (by omega), Int.toNat_natCast, sh_eta, List.length_set]
      exact .ck (by omega) (.ck (by omega) (.ck (by omega) (.ck (by omega) (.ck (by omega) (.ck (by omega) (.ck (by omega) (.ck (by omega) q1)))))))
    · rw [q3 p]
      by_cases c1 : p = e
      · have hset : ((l.set k0 (l.getD (k0 - 1) sh0)).set (k0 - 1) (l.getD k0 sh0))[k0 - 1]? = l[k0]? := by
          rw [List.getElem?_set_self (by simpa using h2), sh_get h1]
        rw [if_pos c1, if_pos c1, hset]
      · by_cases c2 : p = k0
        · subst c2
          have n1 : ¬ (e < p ∧ p ≤ p - 1) := by omega
          have n2 : e < p ∧ p ≤ p := by omega
          rw [if_neg c1, if_neg n1, if_neg c1, if_pos n2, List.getElem?_set_ne (by omega), List.getElem?_set_self h1, sh_get h2]
        · by_cases c3 : e < p ∧ p ≤ k0 - 1
          · have n2 : e < p ∧ p ≤ k0 := by omega
            rw [if_neg c1, if_pos c3, if_neg c1, if_pos n2, List.getElem?_set_ne (by omega), List.getElem?_set_ne (by omega)]
          · have n2 : ¬ (e < p ∧ p ≤ k0) := by omega
            rw [if_neg c1, if_neg c3, if_neg c1, if_neg n2, List.getElem?_set_ne (by omega), List.getElem?_set_ne (by omega)]

section
variable {le : Sh → Sh → Bool} {Dm : Sh → Prop} (hle : TP le) (hc : CmpOk le Dm)
include hle hc

omit hc in
theorem le_refl' (x : Sh) : le x x = true := by
  rcases hle.total x x with h | h <;> exact h

/-- Where a single left one goes. -/
theorem ev_sm_c3 (l : List Sh) (hu : l.length < 1125899906842624) (hd : ∀ x ∈ l, Dm x) (a m b : Nat) (ham : a < m) (hb : b ≤ l.length) (hs : Srt le (seg l m b)) : ∀ (n i j : Nat), j - i = n → m ≤ i → i ≤ j → j ≤ b → (∀ q, m ≤ q → q < i → le (l.getD a sh0) (l.getD q sh0) = false) → (∀ q, j ≤ q → q < b → le (l.getD a sh0) (l.getD q sh0) = true) →
    ∃ e, m ≤ e ∧ e ≤ b ∧ (∀ q, m ≤ q → q < e → le (l.getD a sh0) (l.getD q sh0) = false) ∧ (∀ q, e ≤ q → q < b → le (l.getD a sh0) (l.getD q sh0) = true) ∧
      ∀ y, Ev (fun k => slices_symMergeCmpFunc_1_c9 k l (e : Int) (a : Int)) y → Ev (fun k => slices_symMergeCmpFunc_1_c3 k l (a : Int) () (i : Int) (j : Int)) y := by
  intro n
  induction n using Nat.strongRecOn with
  | ind n ih =>
    intro i j hn hmi hij hjb hlo hhi
    by_cases hlt : i < j
    · have hh : (i + j) / 2 < l.length := by omega
      obtain ⟨v, v1, v2⟩ := hc (l.getD ((i + j) / 2) sh0) (l.getD a sh0) (dm_at hd hh) (dm_at hd (by omega))
      have pre : ∀ y, (v < 0 → Ev (fun k => slices_symMergeCmpFunc_1_c3 k l (a : Int) () (((i + j) / 2 + 1 : Nat) : Int) (j : Int)) y) → (¬ v < 0 → Ev (fun k => slices_symMergeCmpFunc_1_c3 k l (a : Int) () (i : Int) (((i + j) / 2 : Nat) : Int)) y) → Ev (fun k => slices_symMergeCmpFunc_1_c3 k l (a : Int) () (i : Int) (j : Int)) y := by
        intro y h1 h2
        refine .step (fun k => slices_symMergeCmpFunc_1_c3_eq k _ _ _ _ _) (.ck (by omega) ?_)
        simp only [swm (i := i) (j := j) (by omega) (by omega), Int.toNat_natCast, sh_eta]
        refine .ck (by omega) (.ck (by omega) (.ck (by omega) (.ck (by omega) (.bind v1 (.dec (fun h => ?_) (fun h => h2 h))))))
        rw [swi (by omega)]
        exact h1 h
      by_cases hv : v < 0
      · have hf : le (l.getD a sh0) (l.getD ((i + j) / 2) sh0) = false := by simpa [hv] using v2
        obtain ⟨e, g1, g2, g3, g4, g5⟩ := ih (j - ((i + j) / 2 + 1)) (by omega) ((i + j) / 2 + 1) j rfl (by omega) (by omega) hjb (fun q h1 h2 => by
          by_cases hq : q = (i + j) / 2
          · rw [hq]; exact hf
          · cases hq2 : le (l.getD a sh0) (l.getD q sh0) with
            | false => rfl
            | true =>
              have := hs.seg (p := q) (q := (i + j) / 2) h1 (by omega) (by omega) (sh_get (by omega)) (sh_get hh)
              have := hle.trans _ _ _ hq2 this
              rw [hf] at this
              exact absurd this (by simp)) hhi
        exact ⟨e, g1, g2, g3, g4, fun y hy => pre y (fun _ => g5 y hy) (fun z => absurd hv z)⟩
      · have hf : le (l.getD a sh0) (l.getD ((i + j) / 2) sh0) = true := by simpa [hv] using v2
        obtain ⟨e, g1, g2, g3, g4, g5⟩ := ih ((i + j) / 2 - i) (by omega) i ((i + j) / 2) rfl hmi (by omega) (by omega) hlo (fun q h1 h2 => by
          by_cases hq : q = (i + j) / 2
          · rw [hq]; exact hf
          · exact hle.trans _ _ _ hf (hs.seg (p := (i + j) / 2) (q := q) (by omega) (by omega) h2 (sh_get hh) (sh_get (by omega))))
        exact ⟨e, g1, g2, g3, g4, fun y hy => pre y (fun z => absurd z hv) (fun _ => g5 y hy)⟩
    · have hij' : i = j := by omega
      subst hij'
      exact ⟨i, hmi, hjb, hlo, hhi, fun y hy => .step (fun k => slices_symMergeCmpFunc_1_c3_eq k _ _ _ _ _) (.nk (by omega) hy)⟩

/-- Where a single right one goes. -/
theorem ev_sm_c15 (l : List Sh) (hu : l.length < 1125899906842624) (hd : ∀ x ∈ l, Dm x) (a m : Nat) (hm : m < l.length) (hs : Srt le (seg l a m)) : ∀ (n i j : Nat), j - i = n → a ≤ i → i ≤ j → j ≤ m → (∀ q, a ≤ q → q < i → le (l.getD q sh0) (l.getD m sh0) = true) → (∀ q, j ≤ q → q < m → le (l.getD q sh0) (l.getD m sh0) = false) →
    ∃ e, a ≤ e ∧ e ≤ m ∧ (∀ q, a ≤ q → q < e → le (l.getD q sh0) (l.getD m sh0) = true) ∧ (∀ q, e ≤ q → q < m → le (l.getD q sh0) (l.getD m sh0) = false) ∧
      ∀ y, Ev (fun k => slices_symMergeCmpFunc_1_c21 k l (e : Int) (m : Int)) y → Ev (fun k => slices_symMergeCmpFunc_1_c15 k l (m : Int) () (i : Int) (j : Int)) y := by
  intro n
  induction n using Nat.strongRecOn with
  | ind n ih =>
    intro i j hn hmi hij hjb hlo hhi
    by_cases hlt : i < j
    · have hh : (i + j) / 2 < l.length := by omega
      obtain ⟨v, v1, v2⟩ := hc (l.getD m sh0) (l.getD ((i + j) / 2) sh0) (dm_at hd hm) (dm_at hd hh)
      have pre : ∀ y, (¬ v < 0 → Ev (fun k => slices_symMergeCmpFunc_1_c15 k l (m : Int) () (((i + j) / 2 + 1 : Nat) : Int) (j : Int)) y) → (v < 0 → Ev (fun k => slices_symMergeCmpFunc_1_c15 k l (m : Int) () (i : Int) (((i + j) / 2 : Nat) : Int)) y) → Ev (fun k => slices_symMergeCmpFunc_1_c15 k l (m : Int) () (i : Int) (j : Int)) y := by
        intro y h1 h2
        refine .step (fun k => slices_symMergeCmpFunc_1_c15_eq k _ _ _ _ _) (.ck (by omega) ?_)
        simp only [swm (i := i) (j := j) (by omega) (by omega), Int.toNat_natCast, sh_eta]
        refine .ck (by omega) (.ck (by omega) (.ck (by omega) (.ck (by omega) (.bind v1 (.cond (fun h => ?_) (fun h => h2 (by simpa using h)))))))
        rw [swi (by omega)]
        exact h1 (by simpa using h)
      by_cases hv : v < 0
      · have hf : le (l.getD ((i + j) / 2) sh0) (l.getD m sh0) = false := by simpa [hv] using v2
        obtain ⟨e, g1, g2, g3, g4, g5⟩ := ih ((i + j) / 2 - i) (by omega) i ((i + j) / 2) rfl hmi (by omega) (by omega) hlo (fun q h1 h2 => by
          by_cases hq : q = (i + j) / 2
          · rw [hq]; exact hf
          · cases hq2 : le (l.getD q sh0) (l.getD m sh0) with
            | false => rfl
            | true =>
              have := hs.seg (p := (i + j) / 2) (q := q) (by omega) (by omega) h2 (sh_get hh) (sh_get (by omega))
              have := hle.trans _ _ _ this hq2
              rw [hf] at this
              exact absurd this (by simp))
        exact ⟨e, g1, g2, g3, g4, fun y hy => pre y (fun z => absurd hv z) (fun _ => g5 y hy)⟩
      · have hf : le (l.getD ((i + j) / 2) sh0) (l.getD m sh0) = true := by simpa [hv] using v2
        obtain ⟨e, g1, g2, g3, g4, g5⟩ := ih (j - ((i + j) / 2 + 1)) (by omega) ((i + j) / 2 + 1) j rfl (by omega) (by omega) hjb (fun q h1 h2 => by
          by_cases hq : q = (i + j) / 2
          · rw [hq]; exact hf
          · exact hle.trans _ _ _ (hs.seg (p := q) (q := (i + j) / 2) h1 (by omega) (by omega) (sh_get (by omega)) (sh_get hh)) hf) hhi
        exact ⟨e, g1, g2, g3, g4, fun y hy => pre y (fun _ => g5 y hy) (fun z => absurd z hv)⟩
    · have hij' : i = j := by omega
      subst hij'
      exact ⟨i, hmi, hjb, hlo, hhi, fun y hy => .step (fun k => slices_symMergeCmpFunc_1_c15_eq k _ _ _ _ _) (.nk (by omega) hy)⟩
end
end Go.Proofs.Ytoiahmmockgcbaa.Eq
