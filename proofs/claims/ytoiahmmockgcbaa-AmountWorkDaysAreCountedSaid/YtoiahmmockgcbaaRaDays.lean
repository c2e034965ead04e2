import Derived.Test.YtoiahmmockgcbaaRaRefC
import Derived.Test.YtoiahmmockgcbaaRaAwake
/- Working days: what the functions of both sides compute. -/
namespace Go.Proofs.Ytoiahmmockgcbaa.Eq
open Go Go.Ra
set_option linter.unusedVariables false

theorem and1_i64 {x : Int} (h : 0 ≤ x) (h2 : x < 9223372036854775808) : bitsI .and .i64 x 1 = x % 2 := by
  show IntKind.i64.wrap (((BitVec.ofInt 64 x) &&& (BitVec.ofInt 64 1)).toNat : Int) = _
  have e1 : (BitVec.ofInt 64 x).toNat = x.toNat := bv_of h (by omega)
  have e2 : (BitVec.ofInt 64 1).toNat = 1 := rfl
  rw [BitVec.toNat_and, e1, e2, Nat.and_one_is_mod]
  have := wi64_id (x := ((x.toNat % 2 : Nat) : Int)) (by omega) (by omega)
  unfold wi64 at this
  rw [this]
  omega

/-- The day of the week. -/
def wd (d : Int) : Nat := ((d - 1) % 7).toNat
theorem wd_lt (d : Int) : wd d < 7 := by unfold wd; omega
/-- Does nobody work on a day of the week. -/
def rb (r : Int) (w : Nat) : Bool := decide (r / 2 ^ w % 2 = 1)

theorem shr_i64 {x s : Int} {n : Nat} (hs : s = n) (hn : n ≤ 64) : shrI .i64 x s = x / 2 ^ n := by
  subst hs
  show x / 2 ^ (min ((n : Int)).toNat 64) = _
  rw [Int.toNat_natCast, Nat.min_eq_left hn]

theorem div_two_pow {r : Int} (h : 0 ≤ r) (n : Nat) : 0 ≤ r / 2 ^ n ∧ r / 2 ^ n ≤ r := by
  have hp : (0 : Int) < 2 ^ n := Int.pow_pos (by omega)
  exact ⟨Int.ediv_nonneg h (by omega), Int.ediv_le_self _ h⟩

theorem ev_WeekDay (d : Int) (h : 1 ≤ d) (h2 : d < 4611686018427387904) : Ev (fun k => amount_WeekDay k d) ((wd d : Nat) : Int) := by
  refine .step (fun k => amount_WeekDay_eq k d) ?_
  rw [wi64_id (by omega) (by omega), Int.tmod_eq_emod_of_nonneg (by omega)]
  refine .to (.pure _) ?_
  unfold wd
  omega

theorem ev_rests (c : Int × List Int) (d : Int) (h : 1 ≤ d) (h2 : d < 4611686018427387904) (hr : 0 ≤ c.1) (hr2 : c.1 ≤ 126) : Ev (fun k => amount_rests k c d) (rb c.1 (wd d)) := by
  have hw := wd_lt d
  have hd := div_two_pow hr (wd d)
  refine .step (fun k => amount_rests_eq k c d) (.bind (ev_WeekDay d h h2) (.ck (by omega) (.to (.pure _) ?_)))
  rw [shr_i64 rfl (by omega), and1_i64 hd.1 (by omega)]
  unfold rb
  by_cases z : c.1 / 2 ^ wd d % 2 = 1 <;> simp [z]

theorem ev_isDay (d : Int) : Ev (fun k => kit_IsDay k d) (decide (1 ≤ d ∧ d ≤ 3652059)) := by
  refine .step (fun k => kit_IsDay_eq k d) (.bind (ev_Outside d 1 3652059) (.to (.pure _) ?_))
  rw [← decide_not]
  exact decide_eq_decide.2 (by omega)
theorem ev_risDay (d : Int) : Ev (fun k => interchangeref1_isDay k d) (decide (1 ≤ d ∧ d ≤ 3652059)) :=
  .step (fun k => interchangeref1_isDay_eq k d) (.ret (ev_within d 1 3652059) rfl)

/-- What is wrong with holidays behind one. -/
def holF (p : Int) : List Int → Int
  | [] => 0
  | d :: l => if 1 ≤ d ∧ d ≤ 3652059 then if d ≤ p then 8 else holF d l else 1
def calF (c : Int × List Int) : Int := if 0 ≤ c.1 ∧ c.1 ≤ 126 then if c.2.length > 1000 then 2 else holF 0 c.2 else 1

theorem prev_of (l : List Int) (i : Nat) (p : Int) (h0 : i = 0 → p = 0) (hp : 0 < i → l.getD (i - 1) 0 = p) (hi : i < 1125899906842624) (d : Int) (h1 : 1 ≤ d) : (cond (decide ((i : Int) > 0)) (decide (d ≤ l.getD (wi64 ((i : Int) - 1)).toNat 0)) false) = decide (d ≤ p) := by
  rcases Nat.eq_zero_or_pos i with h | h
  · subst h
    rw [h0 rfl]
    have : ¬ d ≤ 0 := by omega
    simp [this]
  · have e : (wi64 ((i : Int) - 1)).toNat = i - 1 := by
      rw [wi64_id (by omega) (by omega)]
      omega
    rw [e, hp h]
    simp [h]

theorem ev_cal_c6 (c : Int × List Int) (hl : c.2.length ≤ 1000) : ∀ (m i : Nat) (p : Int), c.2.length - i = m → i ≤ c.2.length → (i = 0 → p = 0) → (0 < i → c.2.getD (i - 1) 0 = p) →
    Ev (fun k => amount_CheckCalendar_c6 k c c.2 (c.2.length : Int) (i : Int)) (holF p (c.2.drop i)) := by
  intro m
  induction m with
  | zero =>
    intro i p hm hi h0 hp
    rw [List.drop_of_length_le (by omega)]
    exact .step (fun k => amount_CheckCalendar_c6_eq k _ _ _ _) (.nk (by omega) (.pure _))
  | succ m ih =>
    intro i p hm hi h0 hp
    have hlt : i < c.2.length := by omega
    have hti : ((i : Int)).toNat = i := Int.toNat_natCast i
    rw [drop_consI hlt]
    have hpv := prev_of c.2 i p h0 hp (by omega)
    have hih := ih (i + 1) (c.2.getD i 0) (by omega) (by omega) (by omega) (fun _ => by simp)
    refine .step (fun k => amount_CheckCalendar_c6_eq k _ _ _ _) (.ck (by omega) (.ck (by omega) (.ck (by omega) (.bind (ev_isDay _) ?_))))
    rw [hti, rwi_succ (by omega)]
    unfold holF
    generalize c.2.getD i 0 = d at *
    by_cases hd : 1 ≤ d ∧ d ≤ 3652059
    · rw [if_pos hd]
      rw [hpv d hd.1]
      have t : ∀ P : Prop, [Decidable P] → (0 < i → P) → ((!(decide ((i : Int) > 0))) || decide P) = true := by
        intro P _ h
        rcases Nat.eq_zero_or_pos i with z | z
        · subst z; simp
        · simp [h z]
      refine .ff (by simp [hd]) (.tt (t _ (fun z => by rw [wi64_id (by omega) (by omega)]; omega)) (.tt (t _ (fun z => by rw [wi64_id (by omega) (by omega)]; omega)) (.dec (fun h => ?_) (fun h => ?_))))
      · rw [if_pos h]
        exact .pure _
      · rw [if_neg h]
        exact hih
    · rw [if_neg hd]
      exact .tt (by simp [hd]) (.pure _)

theorem ev_rcal_c6 (c : Int × List Int) (hl : c.2.length ≤ 1000) : ∀ (m i : Nat) (p : Int), c.2.length - i = m → i ≤ c.2.length → (i = 0 → p = 0) → (0 < i → c.2.getD (i - 1) 0 = p) →
    Ev (fun k => interchangeref1_CheckCalendar_c6 k c c.2 (c.2.length : Int) (i : Int)) (holF p (c.2.drop i)) := by
  intro m
  induction m with
  | zero =>
    intro i p hm hi h0 hp
    rw [List.drop_of_length_le (by omega)]
    exact .step (fun k => interchangeref1_CheckCalendar_c6_eq k _ _ _ _) (.nk (by omega) (.pure _))
  | succ m ih =>
    intro i p hm hi h0 hp
    have hlt : i < c.2.length := by omega
    have hti : ((i : Int)).toNat = i := Int.toNat_natCast i
    rw [drop_consI hlt]
    have hpv := prev_of c.2 i p h0 hp (by omega)
    have hih := ih (i + 1) (c.2.getD i 0) (by omega) (by omega) (by omega) (fun _ => by simp)
    refine .step (fun k => interchangeref1_CheckCalendar_c6_eq k _ _ _ _) (.ck (by omega) (.ck (by omega) (.ck (by omega) (.bind (ev_risDay _) ?_))))
    rw [hti, rwi_succ (by omega)]
    unfold holF
    generalize c.2.getD i 0 = d at *
    by_cases hd : 1 ≤ d ∧ d ≤ 3652059
    · rw [if_pos hd]
      rw [hpv d hd.1]
      have t : ∀ P : Prop, [Decidable P] → (0 < i → P) → ((!(decide ((i : Int) > 0))) || decide P) = true := by
        intro P _ h
        rcases Nat.eq_zero_or_pos i with z | z
        · subst z; simp
        · simp [h z]
      refine .ff (by simp [hd]) (.tt (t _ (fun z => by rw [wi64_id (by omega) (by omega)]; omega)) (.tt (t _ (fun z => by rw [wi64_id (by omega) (by omega)]; omega)) (.dec (fun h => ?_) (fun h => ?_))))
      · rw [if_pos h]
        exact .pure _
      · rw [if_neg h]
        exact hih
    · rw [if_neg hd]
      exact .tt (by simp [hd]) (.pure _)

theorem ev_cal (c : Int × List Int) : Ev (fun k => amount_CheckCalendar k c) (calF c) := by
  unfold calF
  refine .step (fun k => amount_CheckCalendar_eq k c) (.bind (ev_Outside _ _ _) ?_)
  by_cases h : 0 ≤ c.1 ∧ c.1 ≤ 126
  · rw [if_pos h]
    refine .nk (by omega) (.dec (fun h2 => ?_) (fun h2 => ?_))
    · rw [if_pos (by omega)]
      exact .pure _
    · rw [if_neg (by omega)]
      exact ev_cal_c6 c (by omega) _ 0 0 rfl (by omega) (fun _ => rfl) (by omega)
  · rw [if_neg h]
    exact .ck (by omega) (.pure _)
theorem ev_rcal (c : Int × List Int) : Ev (fun k => interchangeref1_CheckCalendar k c) (calF c) := by
  unfold calF
  refine .step (fun k => interchangeref1_CheckCalendar_eq k c) (.bind (ev_within _ _ _) ?_)
  by_cases h : 0 ≤ c.1 ∧ c.1 ≤ 126
  · rw [if_pos h]
    refine .ff (by simp [h]) (.dec (fun h2 => ?_) (fun h2 => ?_))
    · rw [if_pos (by omega)]
      exact .pure _
    · rw [if_neg (by omega)]
      exact ev_rcal_c6 c (by omega) _ 0 0 rfl (by omega) (fun _ => rfl) (by omega)
  · rw [if_neg h]
    exact .tt (by simp [h]) (.pure _)

/-- Strictly rising behind p, and days. -/
def Ris (p : Int) : List Int → Prop
  | [] => True
  | d :: l => p < d ∧ d ≤ 3652059 ∧ Ris d l
theorem holF_ris : ∀ {l : List Int} {p : Int}, 0 ≤ p → holF p l = 0 → Ris p l
  | [], _, _, _ => trivial
  | d :: l, p, h0, h => by
    unfold holF at h
    split at h
    · rename_i h1
      split at h
      · simp at h
      · exact ⟨by omega, by omega, holF_ris (by omega) h⟩
    · simp at h
theorem calF_ok {c : Int × List Int} (h : calF c = 0) : 0 ≤ c.1 ∧ c.1 ≤ 126 ∧ c.2.length ≤ 1000 ∧ Ris 0 c.2 := by
  unfold calF at h
  split at h
  · rename_i h1
    split at h
    · simp at h
    · exact ⟨h1.1, h1.2, by omega, holF_ris (by omega) h⟩
  · simp at h
theorem Ris.gt : ∀ {l : List Int} {p : Int}, Ris p l → ∀ d ∈ l, p < d ∧ d ≤ 3652059
  | x :: l, p, h, d, hd => by
    rcases List.mem_cons.1 hd with rfl | hd
    · exact ⟨h.1, h.2.1⟩
    · have := Ris.gt h.2.2 d hd
      have := h.1
      omega
theorem Ris.at : ∀ {l : List Int} {p : Int}, Ris p l → ∀ (i j : Nat), i < j → j < l.length → l.getD i 0 < l.getD j 0
  | x :: l, p, h, 0, j + 1, _, hj => by
    have hj' : j < l.length := by simpa using hj
    have := Ris.gt h.2.2 (l.getD j 0) (by
      rw [List.getD_eq_getElem?_getD, List.getElem?_eq_getElem hj']
      exact List.getElem_mem hj')
    simpa using this.1
  | x :: l, p, h, i + 1, j + 1, hij, hj => by
    have := Ris.at h.2.2 i j (by omega) (by simpa using hj)
    simpa using this
theorem Ris.nodup : ∀ {l : List Int} {p : Int}, Ris p l → l.Nodup
  | [], _, _ => List.nodup_nil
  | x :: l, p, h => List.nodup_cons.2 ⟨fun z => by have := Ris.gt h.2.2 x z; omega, Ris.nodup h.2.2⟩

/-- Is a day a working day. -/
def work (c : Int × List Int) (d : Int) : Bool := !rb c.1 (wd d) && !decide (d ∈ c.2)

theorem ev_cmpLess (a b : Int) : Ev (fun k => cmp_Less k a b) (decide (a < b)) := by
  refine .step (fun k => cmp_Less_eq k a b) (.bind (.step (fun k => cmp_isNaN_eq k a) (.pure _)) (.bind (x := false) (.ff (by simp) (.pure _)) (.to (.pure _) ?_)))
  simp

theorem ev_search_c3 (l : List Int) (x p : Int) (h : Ris p l) (hl : l.length ≤ 1000) : ∀ (m i j : Nat), j - i = m → i ≤ j → j ≤ l.length → (∀ q, q < i → l.getD q 0 < x) → (∀ q, j ≤ q → q < l.length → x ≤ l.getD q 0) →
    ∃ r, Ev (fun k => slices_BinarySearch_c3 k l x (l.length : Int) (i : Int) (j : Int)) (r, decide (x ∈ l)) := by
  intro m
  induction m using Nat.strongRecOn with
  | ind m ih =>
    intro i j hm hij hj hlo hhi
    by_cases hlt : i < j
    · have e1 : wi64 ((i : Int) + (j : Int)) = ((i + j : Nat) : Int) := by rw [wi64_id (by omega) (by omega)]; rfl
      have e2 : wi64 (shrI .u64 (wu64 ((i + j : Nat) : Int)) 1) = (((i + j) / 2 : Nat) : Int) := by
        rw [wu64_id (by omega) (by omega)]
        have : shrI .u64 ((i + j : Nat) : Int) 1 = ((i + j : Nat) : Int) / 2 := by
          show ((i + j : Nat) : Int) / 2 ^ (min ((1 : Int)).toNat 64) = _
          rfl
        rw [this, wi64_id (by omega) (by omega)]
        omega
      have hmid : (i + j) / 2 < l.length := by omega
      have e3 : wi64 ((((i + j) / 2 : Nat) : Int) + 1) = (((i + j) / 2 + 1 : Nat) : Int) := rwi_succ (by omega)
      by_cases hc : l.getD ((i + j) / 2) 0 < x
      · obtain ⟨r, hr⟩ := ih (j - ((i + j) / 2 + 1)) (by omega) ((i + j) / 2 + 1) j rfl (by omega) hj (fun q hq => by
          rcases Nat.lt_or_ge q ((i + j) / 2) with z | z
          · have := Ris.at h q ((i + j) / 2) z hmid
            omega
          · have : q = (i + j) / 2 := by omega
            rw [this]; exact hc) hhi
        refine ⟨r, .step (fun k => slices_BinarySearch_c3_eq k _ _ _ _ _) (.ck (by omega) ?_)⟩
        simp only [e1, e2, Int.toNat_natCast, e3]
        exact .ck (by omega) (.ck (by omega) (.bind (ev_cmpLess _ _) (.ck hc hr)))
      · obtain ⟨r, hr⟩ := ih ((i + j) / 2 - i) (by omega) i ((i + j) / 2) rfl (by omega) (by omega) hlo (fun q hq hq2 => by
          rcases Nat.lt_or_ge ((i + j) / 2) q with z | z
          · have := Ris.at h ((i + j) / 2) q z hq2
            omega
          · have : q = (i + j) / 2 := by omega
            rw [this]; omega)
        refine ⟨r, .step (fun k => slices_BinarySearch_c3_eq k _ _ _ _ _) (.ck (by omega) ?_)⟩
        simp only [e1, e2, Int.toNat_natCast, e3]
        exact .ck (by omega) (.ck (by omega) (.bind (ev_cmpLess _ _) (.nk hc hr)))
    · have hij' : i = j := by omega
      subst hij'
      have hmem : x ∈ l ↔ i < l.length ∧ l.getD i 0 = x := by
        constructor
        · intro hx
          obtain ⟨q, hq, rfl⟩ := List.mem_iff_getElem.1 hx
          have hg : l.getD q 0 = l[q] := by rw [List.getD_eq_getElem?_getD, List.getElem?_eq_getElem hq]; rfl
          rcases Nat.lt_trichotomy q i with z | z | z
          · have := hlo q z
            omega
          · subst z
            exact ⟨hq, hg⟩
          · have h1 := hhi i (Nat.le_refl _) (by omega)
            have h2 := Ris.at h i q z hq
            omega
        · rintro ⟨h1, h2⟩
          rw [List.getD_eq_getElem?_getD, List.getElem?_eq_getElem h1] at h2
          simp at h2
          rw [← h2]
          exact List.getElem_mem h1
      refine ⟨(i : Int), .step (fun k => slices_BinarySearch_c3_eq k _ _ _ _ _) (.nk (by omega) ?_)⟩
      have hti : ((i : Int)).toNat = i := Int.toNat_natCast i
      rw [hti]
      have nan : ∀ (b : Bool) (z : Int), Ev (fun k => cond b (slices_isNaN k z) (some false)) false := by
        intro b z
        exact .cond (fun _ => .step (fun k => slices_isNaN_eq k z) (.to (.pure _) (by simp))) (fun _ => .pure _)
      have o1 : ∀ (b : Bool) (P : Prop) [Decidable P], (b = true → P) → ((!b) || decide P) = true := by
        intro b P _ hb
        cases b with
        | false => rfl
        | true => simp [hb rfl]
      refine .tt (o1 _ _ (fun z => by omega)) (.tt (o1 _ _ (fun z => by simpa using z)) (.tt (o1 _ _ (fun z => by omega)) (.tt (o1 _ _ (fun z => by simp at z; omega)) (.bind (nan _ _) (.bind (nan _ _) (.to (.pure _) ?_))))))
      congr 1
      by_cases h1 : i < l.length
      · by_cases h2 : l.getD i 0 = x
        · have : x ∈ l := hmem.2 ⟨h1, h2⟩
          have h1' : (i : Int) < (l.length : Int) := by omega
          simp only [h1', this, decide_true, cond_true, h2, beq_self_eq_true]
        · have : ¬ x ∈ l := fun z => h2 (hmem.1 z).2
          have h1' : (i : Int) < (l.length : Int) := by omega
          have h3 : (l.getD i 0 == x) = false := by simpa using h2
          simp only [h1', this, decide_true, decide_false, cond_true, h3, cond_false]
      · have : ¬ x ∈ l := fun z => h1 (hmem.1 z).1
        have h1' : ¬ (i : Int) < (l.length : Int) := by omega
        simp only [h1', this, decide_false, cond_false]

theorem ev_aWork (c : Int × List Int) (d : Int) (hc : calF c = 0) (h : 1 ≤ d) (h2 : d ≤ 3652059) : Ev (fun k => amount_isWork k c d) (work c d) := by
  obtain ⟨r0, r1, r2, r3⟩ := calF_ok hc
  obtain ⟨r, hr⟩ := ev_search_c3 c.2 d 0 r3 r2 _ 0 c.2.length rfl (by omega) (Nat.le_refl _) (by omega) (by omega)
  refine .step (fun k => amount_isWork_eq k c d) (.bind (.step (fun k => slices_BinarySearch_eq k c.2 d) hr) ?_)
  unfold work
  by_cases hm : d ∈ c.2
  · simp only [hm, decide_true, Bool.not_true, cond_false]
    exact .bind (.pure _) (.to (.pure _) (by simp))
  · simp only [hm, decide_false, Bool.not_false, cond_true]
    exact .bind (ev_rests c d h (by omega) r0 r1) (.to (.pure _) (by simp))

theorem ev_rWork (c : Int × List Int) (d : Int) (hc : calF c = 0) (h : 1 ≤ d) (h2 : d ≤ 3652059) : Ev (fun k => interchangeref1_isWork k c d) (work c d) := by
  obtain ⟨r0, r1, r2, r3⟩ := calF_ok hc
  have hw := wd_lt d
  have hdv := div_two_pow r0 (wd d)
  have e1 : (wi64 (d - 1)).tmod 7 = ((wd d : Nat) : Int) := by
    rw [wi64_id (by omega) (by omega), Int.tmod_eq_emod_of_nonneg (by omega)]
    unfold wd
    omega
  refine .step (fun k => interchangeref1_isWork_eq k c d) ?_
  rw [e1, shr_i64 rfl (by omega), Int.tmod_eq_emod_of_nonneg hdv.1]
  refine .ck (by omega) ?_
  unfold work
  have loop : ∀ (m i : Nat), c.2.length - i = m → i ≤ c.2.length → Ev (fun k => interchangeref1_isWork_c4 k d c.2 (c.2.length : Int) (i : Int)) (!decide (d ∈ c.2.drop i)) := by
    intro m
    induction m with
    | zero =>
      intro i hm hi
      rw [List.drop_of_length_le (by omega)]
      exact .step (fun k => interchangeref1_isWork_c4_eq k _ _ _ _) (.nk (by omega) (.to (.pure _) (by simp)))
    | succ m ih =>
      intro i hm hi
      have hlt : i < c.2.length := by omega
      have hti : ((i : Int)).toNat = i := Int.toNat_natCast i
      rw [drop_consI hlt]
      refine .step (fun k => interchangeref1_isWork_c4_eq k _ _ _ _) (.ck (by omega) (.ck (by omega) (.ck (by omega) ?_)))
      have hih := ih (i + 1) (by omega) (by omega)
      rw [hti, rwi_succ (by omega)]
      generalize c.2.getD i 0 = z at *
      generalize c.2.drop (i + 1) = t at *
      by_cases he : z = d
      · exact .tt (by simpa using he) (.to (.pure _) (by simp [he]))
      · refine .ff (by simpa using he) (.to hih ?_)
        have : ¬ d = z := fun y => he y.symm
        simp [this]
  unfold rb
  by_cases hb : c.1 / 2 ^ wd d % 2 = 1
  · exact .tt (by simpa using hb) (.to (.pure _) (by simp [hb]))
  · refine .ff (by simpa using hb) (.to (loop _ 0 rfl (by omega)) ?_)
    simp [hb]

/-- The search for a working day. -/
def wdF (c : Int × List Int) (s : Int) : Nat → Int → Int → Int × Int
  | 0, _, _ => (0, 9)
  | f + 1, d, n => if n > 0 then if 1 ≤ d + s ∧ d + s ≤ 3652059 then if work c (d + s) = true then wdF c s f (d + s) (n - 1) else wdF c s f (d + s) n else (0, 9) else (d, 0)
def steps (s d : Int) : Int := if s = 1 then 3652059 - d else d

theorem ev_aWorkDay_c11 (c : Int × List Int) (hc : calF c = 0) (s : Int) (hs : s = 1 ∨ s = -1) : ∀ (f : Nat) (d n : Int), steps s d + 1 < f → -1 ≤ d → d ≤ 3652060 → 0 ≤ n → n ≤ 10000 →
    Ev (fun k => amount_WorkDay_c11 k d c s n) (wdF c s f d n) := by
  intro f
  induction f with
  | zero =>
    intro d n hf h1 h2 hn hn2
    unfold steps at hf
    split at hf <;> omega
  | succ f ih =>
    intro d n hf h1 h2 hn hn2
    unfold wdF
    refine .step (fun k => amount_WorkDay_c11_eq k _ _ _ _) (.dec (fun hp => ?_) (fun hp => ?_))
    · rw [if_pos hp]
      have e : wi64 (d + s) = d + s := wi64_id (by omega) (by omega)
      rw [e]
      refine .bind (ev_isDay _) ?_
      by_cases hd : 1 ≤ d + s ∧ d + s ≤ 3652059
      · rw [if_pos hd]
        have hst : steps s (d + s) + 1 < f := by
          unfold steps at hf ⊢
          rcases hs with rfl | rfl
          · simp at hf ⊢; omega
          · simp at hf ⊢; omega
        refine .ff (by simp [hd]) (.bind (ev_aWork c _ hc hd.1 hd.2) ?_)
        by_cases hw : work c (d + s) = true
        · rw [if_pos hw, wi64_id (by omega) (by omega)]
          exact .tt hw (ih _ _ hst (by omega) (by omega) (by omega) (by omega))
        · rw [if_neg hw]
          exact .ff (by simpa using hw) (ih _ _ hst (by omega) (by omega) (by omega) (by omega))
      · rw [if_neg hd]
        exact .tt (by simp [hd]) (.pure _)
    · rw [if_neg hp]
      exact .pure _

theorem ev_rWorkDay_c11 (c : Int × List Int) (hc : calF c = 0) (s : Int) (hs : s = 1 ∨ s = -1) : ∀ (f : Nat) (d n : Int), steps s d + 1 < f → -1 ≤ d → d ≤ 3652060 → 0 ≤ n → n ≤ 10000 →
    Ev (fun k => interchangeref1_WorkDay_c11 k d n c s) (wdF c s f d n) := by
  intro f
  induction f with
  | zero =>
    intro d n hf h1 h2 hn hn2
    unfold steps at hf
    split at hf <;> omega
  | succ f ih =>
    intro d n hf h1 h2 hn hn2
    unfold wdF
    refine .step (fun k => interchangeref1_WorkDay_c11_eq k _ _ _ _) (.dec (fun hp => ?_) (fun hp => ?_))
    · rw [if_pos hp]
      have e : wi64 (d + s) = d + s := wi64_id (by omega) (by omega)
      rw [e]
      refine .bind (ev_risDay _) ?_
      by_cases hd : 1 ≤ d + s ∧ d + s ≤ 3652059
      · rw [if_pos hd]
        have hst : steps s (d + s) + 1 < f := by
          unfold steps at hf ⊢
          rcases hs with rfl | rfl
          · simp at hf ⊢; omega
          · simp at hf ⊢; omega
        refine .ff (by simp [hd]) (.bind (ev_rWork c _ hc hd.1 hd.2) ?_)
        by_cases hw : work c (d + s) = true
        · rw [if_pos hw, wi64_id (by omega) (by omega)]
          exact .tt hw (ih _ _ hst (by omega) (by omega) (by omega) (by omega))
        · rw [if_neg hw]
          exact .ff (by simpa using hw) (ih _ _ hst (by omega) (by omega) (by omega) (by omega))
      · rw [if_neg hd]
        exact .tt (by simp [hd]) (.pure _)
    · rw [if_neg hp]
      exact .pure _

/-- A working day before or behind a day. -/
def wdR (c : Int × List Int) (d n : Int) : Int × Int :=
  if calF c ≠ 0 then (0, calF c) else if (1 ≤ d ∧ d ≤ 3652059) ∧ -10000 ≤ n ∧ n ≤ 10000 then
    if n < 0 then wdF c (-1) 4000000 d (-n) else if n = 0 then wdF c 1 4000000 (d - 1) 1 else wdF c 1 4000000 d n
  else (0, 1)

theorem ev_aWorkDay (c : Int × List Int) (d n : Int) : Ev (fun k => amount_WorkDay k c d n) (wdR c d n) := by
  unfold wdR
  refine .step (fun k => amount_WorkDay_eq k c d n) (.bind (ev_cal c) ?_)
  by_cases hc : calF c = 0
  · rw [if_neg (by simpa using hc), hc]
    refine .ff rfl (.bind (ev_isDay d) ?_)
    by_cases hd : 1 ≤ d ∧ d ≤ 3652059
    · refine .bind (.tt (by simp [hd]) (ev_Outside n _ _)) ?_
      by_cases hn : -10000 ≤ n ∧ n ≤ 10000
      · have hcc : (1 ≤ d ∧ d ≤ 3652059) ∧ -10000 ≤ n ∧ n ≤ 10000 := ⟨hd, hn⟩
        rw [if_pos hcc]
        have hno : ¬ (n < -10000 ∨ n > 10000) := by omega
        refine .ff (by simp only [hd, hno]; rfl) (.dec (fun h0 => ?_) (fun h0 => ?_))
        · rw [if_pos h0, wi64_id (by omega) (by omega), show (0 - n : Int) = -n by omega]
          exact ev_aWorkDay_c11 c hc (-1) (.inr rfl) 4000000 d (-n) (by unfold steps; simp; omega) (by omega) (by omega) (by omega) (by omega)
        · rw [if_neg h0]
          by_cases hz : n = 0
          · subst hz
            rw [if_pos rfl]
            rw [wi64_id (by omega) (by omega)]
            exact .tt rfl (ev_aWorkDay_c11 c hc 1 (.inl rfl) 4000000 (d - 1) 1 (by unfold steps; simp; omega) (by omega) (by omega) (by omega) (by omega))
          · rw [if_neg hz]
            exact .ff (by simpa using hz) (ev_aWorkDay_c11 c hc 1 (.inl rfl) 4000000 d n (by unfold steps; simp; omega) (by omega) (by omega) (by omega) (by omega))
      · have hcc : ¬ ((1 ≤ d ∧ d ≤ 3652059) ∧ -10000 ≤ n ∧ n ≤ 10000) := fun z => hn z.2
        rw [if_neg hcc]
        have hno : n < -10000 ∨ n > 10000 := by omega
        exact .tt (by simp only [hd, hno]; rfl) (.pure _)
    · have hcc : ¬ ((1 ≤ d ∧ d ≤ 3652059) ∧ -10000 ≤ n ∧ n ≤ 10000) := fun z => hd z.1
      rw [if_neg hcc]
      exact .bind (x := false) (.ff (by simp [hd]) (.pure _)) (.tt (by simp [hd]) (.pure _))
  · rw [if_pos hc]
    exact .tt (by simpa using hc) (.pure _)

theorem ev_rWorkDay (c : Int × List Int) (d n : Int) : Ev (fun k => interchangeref1_WorkDay k c d n) (wdR c d n) := by
  unfold wdR
  refine .step (fun k => interchangeref1_WorkDay_eq k c d n) (.bind (ev_rcal c) ?_)
  by_cases hc : calF c = 0
  · rw [if_neg (by simpa using hc), hc]
    refine .ff rfl (.bind (ev_risDay d) ?_)
    by_cases hd : 1 ≤ d ∧ d ≤ 3652059
    · refine .bind (.tt (by simp [hd]) (ev_within n _ _)) ?_
      by_cases hn : -10000 ≤ n ∧ n ≤ 10000
      · have hcc : (1 ≤ d ∧ d ≤ 3652059) ∧ -10000 ≤ n ∧ n ≤ 10000 := ⟨hd, hn⟩
        rw [if_pos hcc]
        refine .ff (by simp only [hd, hn]; rfl) (.dec (fun h0 => ?_) (fun h0 => ?_))
        · rw [if_pos h0, wi64_id (by omega) (by omega), show (0 - n : Int) = -n by omega]
          exact .ff (by simp; omega) (ev_rWorkDay_c11 c hc (-1) (.inr rfl) 4000000 d (-n) (by unfold steps; simp; omega) (by omega) (by omega) (by omega) (by omega))
        · rw [if_neg h0]
          by_cases hz : n = 0
          · subst hz
            rw [if_pos rfl]
            rw [wi64_id (by omega) (by omega)]
            exact .tt rfl (ev_rWorkDay_c11 c hc 1 (.inl rfl) 4000000 (d - 1) 1 (by unfold steps; simp; omega) (by omega) (by omega) (by omega) (by omega))
          · rw [if_neg hz]
            exact .ff (by simpa using hz) (ev_rWorkDay_c11 c hc 1 (.inl rfl) 4000000 d n (by unfold steps; simp; omega) (by omega) (by omega) (by omega) (by omega))
      · have hcc : ¬ ((1 ≤ d ∧ d ≤ 3652059) ∧ -10000 ≤ n ∧ n ≤ 10000) := fun z => hn z.2
        rw [if_neg hcc]
        exact .tt (by simp only [hd, hn]; rfl) (.pure _)
    · have hcc : ¬ ((1 ≤ d ∧ d ≤ 3652059) ∧ -10000 ≤ n ∧ n ≤ 10000) := fun z => hd z.1
      rw [if_neg hcc]
      exact .bind (x := false) (.ff (by simp [hd]) (.pure _)) (.tt (by simp [hd]) (.pure _))
  · rw [if_pos hc]
    exact .tt (by simpa using hc) (.pure _)

/- how many -/
def cnt (p : Int → Bool) (a : Int) : Nat → Int
  | 0 => 0
  | n + 1 => cnt p a n + (if p (a + n) = true then 1 else 0)
/-- Holidays that are no days of rest, from one day up to another one. -/
def hol (r a b : Int) : List Int → Int
  | [] => 0
  | d :: l => (if a ≤ d ∧ d < b ∧ rb r (wd d) = false then 1 else 0) + hol r a b l
def free (r : Int) (d : Int) : Bool := !rb r (wd d)

theorem hol_bound (r a b : Int) : ∀ l, 0 ≤ hol r a b l ∧ hol r a b l ≤ l.length
  | [] => ⟨Int.le_refl _, Int.le_refl _⟩
  | d :: l => by
    have := hol_bound r a b l
    simp only [hol, List.length_cons]
    split <;> omega
theorem cnt_bound (p : Int → Bool) (a : Int) : ∀ n, 0 ≤ cnt p a n ∧ cnt p a n ≤ n
  | 0 => ⟨Int.le_refl _, Int.le_refl _⟩
  | n + 1 => by
    have := cnt_bound p a n
    simp only [cnt]
    split <;> omega

theorem ev_aWorkDays_c17 (c : Int × List Int) (hc : calF c = 0) (a b : Int) (ha : 1 ≤ a) (hb : b ≤ 3652060) : ∀ (m i : Nat) (s : Int), c.2.length - i = m → i ≤ c.2.length → -4611686018427387904 ≤ s - m → s ≤ 4611686018427387904 →
    Ev (fun k => amount_WorkDays_c17 k a b c s c.2 (c.2.length : Int) (i : Int)) (s - hol c.1 a b (c.2.drop i), 0) := by
  obtain ⟨r0, r1, r2, r3⟩ := calF_ok hc
  intro m
  induction m with
  | zero =>
    intro i s hm hi h1 h2
    rw [List.drop_of_length_le (by omega)]
    exact .step (fun k => amount_WorkDays_c17_eq k _ _ _ _ _ _ _) (.nk (by omega) (.to (.pure _) (by simp [hol])))
  | succ m ih =>
    intro i s hm hi h1 h2
    have hlt : i < c.2.length := by omega
    have hti : ((i : Int)).toNat = i := Int.toNat_natCast i
    have hd := Ris.gt r3 (c.2.getD i 0) (by
      rw [List.getD_eq_getElem?_getD, List.getElem?_eq_getElem hlt]
      exact List.getElem_mem hlt)
    have hih := fun s' h1 h2 => ih (i + 1) s' (by omega) (by omega) h1 h2
    rw [drop_consI hlt]
    refine .step (fun k => amount_WorkDays_c17_eq k _ _ _ _ _ _ _) (.ck (by omega) (.ck (by omega) (.ck (by omega) ?_)))
    rw [hti, rwi_succ (by omega)]
    simp only [hol]
    generalize c.2.getD i 0 = d at *
    have hs1 : wi64 (s - 1) = s - 1 := wi64_id (by omega) (by omega)
    rw [hs1]
    by_cases hab : a ≤ d ∧ d < b
    · have hbb : (cond (decide (a ≤ d)) (decide (d < b)) false) = true := by simp [hab]
      rw [hbb]
      refine .bind (.tt rfl (ev_rests c d (by omega) (by omega) r0 r1)) ?_
      by_cases hr : rb c.1 (wd d) = false
      · rw [if_pos ⟨hab.1, hab.2, hr⟩]
        refine .tt (by simp [hr]) (.to (hih (s - 1) (by omega) (by omega)) ?_)
        congr 1
        omega
      · have : ¬ (a ≤ d ∧ d < b ∧ rb c.1 (wd d) = false) := fun z => hr z.2.2
        rw [if_neg this]
        have hr' : rb c.1 (wd d) = true := by simpa using hr
        refine .ff (by simp [hr']) (.to (hih s (by omega) (by omega)) ?_)
        congr 1
        omega
    · have hbb : (cond (decide (a ≤ d)) (decide (d < b)) false) = false := by
        by_cases h : a ≤ d
        · have : ¬ d < b := fun z => hab ⟨h, z⟩
          simp [h, this]
        · simp [h]
      have : ¬ (a ≤ d ∧ d < b ∧ rb c.1 (wd d) = false) := fun z => hab ⟨z.1, z.2.1⟩
      rw [hbb, if_neg this]
      refine .bind (x := false) (.ff rfl (.pure _)) (.ff rfl (.to (hih s (by omega) (by omega)) ?_))
      congr 1
      omega

theorem ev_rWorkDays_c16 (c : Int × List Int) (hc : calF c = 0) (a b : Int) (ha : 1 ≤ a) (hb : b ≤ 3652060) : ∀ (m i : Nat) (s : Int), c.2.length - i = m → i ≤ c.2.length → -4611686018427387904 ≤ s - m → s ≤ 4611686018427387904 →
    Ev (fun k => interchangeref1_WorkDays_c16 k a b c s c.2 (c.2.length : Int) (i : Int)) (s - hol c.1 a b (c.2.drop i), 0) := by
  obtain ⟨r0, r1, r2, r3⟩ := calF_ok hc
  intro m
  induction m with
  | zero =>
    intro i s hm hi h1 h2
    rw [List.drop_of_length_le (by omega)]
    exact .step (fun k => interchangeref1_WorkDays_c16_eq k _ _ _ _ _ _ _) (.nk (by omega) (.to (.pure _) (by simp [hol])))
  | succ m ih =>
    intro i s hm hi h1 h2
    have hlt : i < c.2.length := by omega
    have hti : ((i : Int)).toNat = i := Int.toNat_natCast i
    have hd := Ris.gt r3 (c.2.getD i 0) (by
      rw [List.getD_eq_getElem?_getD, List.getElem?_eq_getElem hlt]
      exact List.getElem_mem hlt)
    have hih := fun s' h1 h2 => ih (i + 1) s' (by omega) (by omega) h1 h2
    rw [drop_consI hlt]
    refine .step (fun k => interchangeref1_WorkDays_c16_eq k _ _ _ _ _ _ _) (.ck (by omega) (.ck (by omega) (.ck (by omega) ?_)))
    rw [hti, rwi_succ (by omega)]
    simp only [hol]
    generalize c.2.getD i 0 = d at *
    have hs1 : wi64 (s - 1) = s - 1 := wi64_id (by omega) (by omega)
    have hw := wd_lt d
    have hdv := div_two_pow r0 (wd d)
    have e1 : (wi64 (d - 1)).tmod 7 = ((wd d : Nat) : Int) := by
      rw [wi64_id (by omega) (by omega), Int.tmod_eq_emod_of_nonneg (by omega)]
      unfold wd
      omega
    rw [hs1, e1, shr_i64 rfl (by omega), Int.tmod_eq_emod_of_nonneg hdv.1]
    refine .tt (by simp) (.tt (by simp) (.tt (by simp) ?_))
    have hrb : (c.1 / 2 ^ wd d % 2 == 0) = !rb c.1 (wd d) := by
      unfold rb
      by_cases z : c.1 / 2 ^ wd d % 2 = 1
      · simp [z]
      · have : c.1 / 2 ^ wd d % 2 = 0 := by omega
        simp [this]
    rw [hrb]
    by_cases hab : a ≤ d ∧ d < b
    · have hbb : (cond (decide (d ≥ a)) (decide (d < b)) false) = true := by simp [hab]
      rw [hbb]
      by_cases hr : rb c.1 (wd d) = false
      · rw [if_pos ⟨hab.1, hab.2, hr⟩]
        refine .tt (by simp [hr]) (.to (hih (s - 1) (by omega) (by omega)) ?_)
        congr 1
        omega
      · have : ¬ (a ≤ d ∧ d < b ∧ rb c.1 (wd d) = false) := fun z => hr z.2.2
        rw [if_neg this]
        have hr' : rb c.1 (wd d) = true := by simpa using hr
        refine .ff (by simp [hr']) (.to (hih s (by omega) (by omega)) ?_)
        congr 1
        omega
    · have hbb : (cond (decide (d ≥ a)) (decide (d < b)) false) = false := by
        by_cases h : a ≤ d
        · have : ¬ d < b := fun z => hab ⟨h, z⟩
          simp [this]
        · have : ¬ d ≥ a := h
          simp [this]
      have : ¬ (a ≤ d ∧ d < b ∧ rb c.1 (wd d) = false) := fun z => hab ⟨z.1, z.2.1⟩
      rw [hbb, if_neg this]
      refine .ff rfl (.to (hih s (by omega) (by omega)) ?_)
      congr 1
      omega
end Go.Proofs.Ytoiahmmockgcbaa.Eq
