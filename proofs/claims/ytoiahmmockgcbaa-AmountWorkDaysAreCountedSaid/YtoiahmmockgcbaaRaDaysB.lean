import Derived.Test.YtoiahmmockgcbaaRaDays
import Derived.Test.YtoiahmmockgcbaaRaSums
/- Working days: how many there are, and the two laws. -/
namespace Go.Proofs.Ytoiahmmockgcbaa.Eq
open Go Go.Ra
set_option linter.unusedVariables false

def sA (r a b : Int) : Nat → Int
  | 0 => 0
  | i + 1 => sA r a b i + (if rb r (wd (a + i)) = false ∧ a + i < b then (b - (a + i) - 1) / 7 + 1 else 0)
def sR (r a b : Int) : Nat → Int
  | 0 => 0
  | i + 1 => sR r a b i + (if rb r i = false then (b - 1 + 6 - i) / 7 - (a - 1 + 6 - i) / 7 else 0)

theorem sA_bound (r a b : Int) (ha : 1 ≤ a) (hb : b ≤ 3652060) : ∀ i : Nat, 0 ≤ sA r a b i ∧ sA r a b i ≤ i * 4000000
  | 0 => by simp [sA]
  | i + 1 => by
    have := sA_bound r a b ha hb i
    simp only [sA]
    split <;> omega
theorem sR_bound (r a b : Int) (ha : 1 ≤ a) (hab : a ≤ b) (hb : b ≤ 3652060) : ∀ i : Nat, i ≤ 7 → 0 ≤ sR r a b i ∧ sR r a b i ≤ i * 4000000
  | 0, _ => by simp [sR]
  | i + 1, h => by
    have := sR_bound r a b ha hab hb i (by omega)
    simp only [sR]
    split <;> omega

theorem ev_aWorkDays_c10 (c : Int × List Int) (hc : calF c = 0) (a b : Int) (ha : 1 ≤ a) (ha2 : a ≤ 3652059) (hb : b ≤ 3652060) : ∀ (m i : Nat), 7 - i = m → i ≤ 7 →
    Ev (fun k => amount_WorkDays_c10 k a b c (sA c.1 a b i) (i : Int)) (sA c.1 a b 7 - hol c.1 a b c.2, 0) := by
  obtain ⟨r0, r1, r2, r3⟩ := calF_ok hc
  intro m
  induction m with
  | zero =>
    intro i hm hi
    have hi' : i = 7 := by omega
    subst hi'
    have hsb := sA_bound c.1 a b ha hb 7
    exact .step (fun k => amount_WorkDays_c10_eq k _ _ _ _ _) (.nk (by omega) (ev_aWorkDays_c17 c hc a b ha hb _ 0 _ rfl (by omega) (by omega) (by omega)))
  | succ m ih =>
    intro i hm hi
    have e1 : wi64 (a + (i : Int)) = a + i := wi64_id (by omega) (by omega)
    have hsb := sA_bound c.1 a b ha hb i
    have hih := ih (i + 1) (by omega) (by omega)
    have hs1 : sA c.1 a b (i + 1) = sA c.1 a b i + (if rb c.1 (wd (a + i)) = false ∧ a + i < b then (b - (a + i) - 1) / 7 + 1 else 0) := rfl
    rw [hs1] at hih
    refine .step (fun k => amount_WorkDays_c10_eq k _ _ _ _ _) (.ck (by omega) ?_)
    rw [e1, rwi_succ (by omega)]
    refine .bind (ev_rests c _ (by omega) (by omega) r0 r1) ?_
    by_cases hr : rb c.1 (wd (a + i)) = false ∧ a + i < b
    · rw [if_pos hr] at hih
      have e2 : wi64 (sA c.1 a b i + wi64 (wi64 ((wi64 (wi64 (b - (a + i)) - 1)).tdiv 7) + 1)) = sA c.1 a b i + ((b - (a + i) - 1) / 7 + 1) := by
        rw [wi64_id (x := b - (a + i)) (by omega) (by omega), wi64_id (x := b - (a + i) - 1) (by omega) (by omega), Int.tdiv_eq_ediv_of_nonneg (by omega), wi64_id (x := (b - (a + i) - 1) / 7) (by omega) (by omega), wi64_id (x := (b - (a + i) - 1) / 7 + 1) (by omega) (by omega), wi64_id (by omega) (by omega)]
      rw [e2]
      exact .tt (by simp [hr.1, hr.2]) hih
    · rw [if_neg hr] at hih
      rw [Int.add_zero] at hih
      refine .ff ?_ hih
      cases h1 : rb c.1 (wd (a + i)) with
      | true => simp
      | false =>
        have : ¬ a + (i : Int) < b := fun z => hr ⟨h1, z⟩
        simp [this]

theorem ev_rWorkDays_c10 (c : Int × List Int) (hc : calF c = 0) (a b : Int) (ha : 1 ≤ a) (hab : a ≤ b) (hb : b ≤ 3652060) : ∀ (m i : Nat), 7 - i = m → i ≤ 7 →
    Ev (fun k => interchangeref1_WorkDays_c10 k a b c (sR c.1 a b i) (i : Int)) (sR c.1 a b 7 - hol c.1 a b c.2, 0) := by
  obtain ⟨r0, r1, r2, r3⟩ := calF_ok hc
  intro m
  induction m with
  | zero =>
    intro i hm hi
    have hi' : i = 7 := by omega
    subst hi'
    have hsb := sR_bound c.1 a b ha hab hb 7 (by omega)
    exact .step (fun k => interchangeref1_WorkDays_c10_eq k _ _ _ _ _) (.nk (by omega) (ev_rWorkDays_c16 c hc a b ha hb _ 0 _ rfl (by omega) (by omega) (by omega)))
  | succ m ih =>
    intro i hm hi
    have hsb := sR_bound c.1 a b ha hab hb i (by omega)
    have hih := ih (i + 1) (by omega) (by omega)
    have hs1 : sR c.1 a b (i + 1) = sR c.1 a b i + (if rb c.1 i = false then (b - 1 + 6 - i) / 7 - (a - 1 + 6 - i) / 7 else 0) := rfl
    rw [hs1] at hih
    have hdv := div_two_pow r0 i
    refine .step (fun k => interchangeref1_WorkDays_c10_eq k _ _ _ _ _) (.ck (by omega) (.ck (by omega) ?_))
    rw [shr_i64 rfl (by omega), Int.tmod_eq_emod_of_nonneg hdv.1, rwi_succ (by omega)]
    have thr : ∀ x : Int, 0 ≤ x → x ≤ 3652060 → Ev (fun k => interchangeref1_through k x (i : Int)) ((x + 6 - i) / 7) := by
      intro x h1 h2
      refine .step (fun k => interchangeref1_through_eq k _ _) ?_
      rw [wi64_id (x := x + 6) (by omega) (by omega), wi64_id (x := x + 6 - i) (by omega) (by omega), Int.tdiv_eq_ediv_of_nonneg (by omega), wi64_id (by omega) (by omega)]
      exact .pure _
    by_cases hr : rb c.1 i = false
    · rw [if_pos hr] at hih
      have hz : c.1 / 2 ^ i % 2 = 0 := by
        unfold rb at hr
        simp at hr
        omega
      rw [wi64_id (x := b - 1) (by omega) (by omega), wi64_id (x := a - 1) (by omega) (by omega)]
      refine .tt (by simpa using hz) (.bind (thr _ (by omega) (by omega)) (.bind (thr _ (by omega) (by omega)) ?_))
      rw [wi64_id (x := _ / 7 - _ / 7) (by omega) (by omega), wi64_id (by omega) (by omega)]
      exact hih
    · rw [if_neg hr, Int.add_zero] at hih
      have hz : ¬ c.1 / 2 ^ i % 2 = 0 := by
        unfold rb at hr
        simp at hr
        omega
      exact .ff (by simpa using hz) hih

theorem wd_add (a : Int) (n k : Nat) (h : n % 7 = k % 7) : wd (a + n) = wd (a + k) := by unfold wd; omega
theorem sA_cnt (r a : Int) : ∀ n : Nat, sA r a (a + n) 7 = cnt (free r) a n
  | 0 => by
    simp only [sA, cnt]
    have : ∀ (i : Nat) (P : Prop) [Decidable P] (x : Int), (if P ∧ a + (i : Int) < a + ((0 : Nat) : Int) then x else 0) = 0 := by
      intro i P _ x
      rw [if_neg (fun z => by omega)]
    rw [this, this, this, this, this, this, this]
    rfl
  | n + 1 => by
    have ih := sA_cnt r a n
    simp only [cnt, ← ih]
    have hw : wd (a + n) = wd (a + ((n % 7 : Nat) : Int)) := wd_add a n (n % 7) (by omega)
    have st : ∀ k : Nat, k < 7 → (if rb r (wd (a + k)) = false ∧ a + (k : Int) < a + ((n + 1 : Nat) : Int) then (a + ((n + 1 : Nat) : Int) - (a + k) - 1) / 7 + 1 else 0) = (if rb r (wd (a + k)) = false ∧ a + (k : Int) < a + (n : Int) then (a + (n : Int) - (a + k) - 1) / 7 + 1 else 0) + (if n % 7 = k ∧ rb r (wd (a + k)) = false then 1 else 0) := by
      intro k hk
      cases hr : rb r (wd (a + k)) with
      | true => simp
      | false =>
        simp only [true_and, and_true]
        by_cases h1 : a + (k : Int) < a + (n : Int)
        · have h2 : a + (k : Int) < a + ((n + 1 : Nat) : Int) := by omega
          rw [if_pos h1, if_pos h2]
          split <;> omega
        · by_cases h2 : a + (k : Int) < a + ((n + 1 : Nat) : Int)
          · rw [if_neg h1, if_pos h2]
            split <;> omega
          · rw [if_neg h1, if_neg h2]
            split <;> omega
    have hfree : (if free r (a + n) = true then (1 : Int) else 0) = (if rb r (wd (a + ((n % 7 : Nat) : Int))) = false then 1 else 0) := by
      unfold free
      rw [hw]
      cases rb r (wd (a + ((n % 7 : Nat) : Int))) <;> simp
    rw [hfree]
    simp only [sA]
    rw [st 0 (by omega), st 1 (by omega), st 2 (by omega), st 3 (by omega), st 4 (by omega), st 5 (by omega), st 6 (by omega)]
    have hm : n % 7 < 7 := Nat.mod_lt _ (by omega)
    generalize n % 7 = q at *
    have c7 : q = 0 ∨ q = 1 ∨ q = 2 ∨ q = 3 ∨ q = 4 ∨ q = 5 ∨ q = 6 := by omega
    rcases c7 with rfl | rfl | rfl | rfl | rfl | rfl | rfl <;> simp <;> omega

theorem sR_cnt (r a : Int) (ha : 1 ≤ a) : ∀ n : Nat, sR r a (a + n) 7 = cnt (free r) a n
  | 0 => by simp [sR, cnt]
  | n + 1 => by
    have ih := sR_cnt r a ha n
    simp only [cnt, ← ih]
    have st : ∀ k : Nat, k < 7 → (if rb r k = false then (a + ((n + 1 : Nat) : Int) - 1 + 6 - k) / 7 - (a - 1 + 6 - k) / 7 else 0) = (if rb r k = false then (a + (n : Int) - 1 + 6 - k) / 7 - (a - 1 + 6 - k) / 7 else 0) + (if wd (a + n) = k ∧ rb r k = false then 1 else 0) := by
      intro k hk
      cases hr : rb r k with
      | true => simp
      | false =>
        simp only [if_true, and_true]
        unfold wd
        split <;> omega
    have hfree : (if free r (a + n) = true then (1 : Int) else 0) = (if rb r (wd (a + n)) = false then 1 else 0) := by
      unfold free
      cases rb r (wd (a + n)) <;> simp
    rw [hfree]
    simp only [sR]
    rw [st 0 (by omega), st 1 (by omega), st 2 (by omega), st 3 (by omega), st 4 (by omega), st 5 (by omega), st 6 (by omega)]
    have hm := wd_lt (a + n)
    generalize wd (a + n) = q at *
    have c7 : q = 0 ∨ q = 1 ∨ q = 2 ∨ q = 3 ∨ q = 4 ∨ q = 5 ∨ q = 6 := by omega
    rcases c7 with rfl | rfl | rfl | rfl | rfl | rfl | rfl <;> simp <;> omega

/-- How many working days there are. -/
def wdsR (c : Int × List Int) (a b : Int) : Int × Int :=
  if calF c ≠ 0 then (0, calF c) else if (1 ≤ a ∧ a ≤ 3652059) ∧ 1 ≤ b ∧ b ≤ 3652059 then
    if b < a then (0, 8) else (cnt (free c.1) a (b - a).toNat - hol c.1 a b c.2, 0)
  else (0, 1)

theorem ev_aWorkDays (c : Int × List Int) (a b : Int) : Ev (fun k => amount_WorkDays k c a b) (wdsR c a b) := by
  unfold wdsR
  refine .step (fun k => amount_WorkDays_eq k c a b) (.bind (ev_cal c) ?_)
  by_cases hc : calF c = 0
  · rw [if_neg (by simpa using hc), hc]
    refine .ff rfl (.bind (ev_isDay a) ?_)
    by_cases hd : 1 ≤ a ∧ a ≤ 3652059
    · refine .bind (.tt (by simp [hd]) (ev_isDay b)) ?_
      by_cases hn : 1 ≤ b ∧ b ≤ 3652059
      · have hcc : (1 ≤ a ∧ a ≤ 3652059) ∧ 1 ≤ b ∧ b ≤ 3652059 := ⟨hd, hn⟩
        rw [if_pos hcc]
        refine .ff (by simp only [hd, hn]; rfl) (.dec (fun h0 => ?_) (fun h0 => ?_))
        · rw [if_pos h0]
          exact .pure _
        · rw [if_neg h0]
          refine .to (ev_aWorkDays_c10 c hc a b hd.1 hd.2 (by omega) _ 0 rfl (by omega)) ?_
          have e : b = a + ((b - a).toNat : Nat) := by omega
          have := sA_cnt c.1 a (b - a).toNat
          rw [← e] at this
          rw [this]
      · have hcc : ¬ ((1 ≤ a ∧ a ≤ 3652059) ∧ 1 ≤ b ∧ b ≤ 3652059) := fun z => hn z.2
        rw [if_neg hcc]
        exact .tt (by simp only [hd, hn]; rfl) (.pure _)
    · have hcc : ¬ ((1 ≤ a ∧ a ≤ 3652059) ∧ 1 ≤ b ∧ b ≤ 3652059) := fun z => hd z.1
      rw [if_neg hcc]
      exact .bind (x := false) (.ff (by simp [hd]) (.pure _)) (.tt (by simp [hd]) (.pure _))
  · rw [if_pos hc]
    exact .tt (by simpa using hc) (.pure _)

theorem ev_rWorkDays (c : Int × List Int) (a b : Int) : Ev (fun k => interchangeref1_WorkDays k c a b) (wdsR c a b) := by
  unfold wdsR
  refine .step (fun k => interchangeref1_WorkDays_eq k c a b) (.bind (ev_rcal c) ?_)
  by_cases hc : calF c = 0
  · rw [if_neg (by simpa using hc), hc]
    refine .ff rfl (.bind (ev_risDay a) ?_)
    by_cases hd : 1 ≤ a ∧ a ≤ 3652059
    · refine .bind (.tt (by simp [hd]) (ev_risDay b)) ?_
      by_cases hn : 1 ≤ b ∧ b ≤ 3652059
      · have hcc : (1 ≤ a ∧ a ≤ 3652059) ∧ 1 ≤ b ∧ b ≤ 3652059 := ⟨hd, hn⟩
        rw [if_pos hcc]
        refine .ff (by simp only [hd, hn]; rfl) (.dec (fun h0 => ?_) (fun h0 => ?_))
        · rw [if_pos h0]
          exact .pure _
        · rw [if_neg h0]
          refine .to (ev_rWorkDays_c10 c hc a b hd.1 (by omega) (by omega) _ 0 rfl (by omega)) ?_
          have e : b = a + ((b - a).toNat : Nat) := by omega
          have := sR_cnt c.1 a hd.1 (b - a).toNat
          rw [← e] at this
          rw [this]
      · have hcc : ¬ ((1 ≤ a ∧ a ≤ 3652059) ∧ 1 ≤ b ∧ b ≤ 3652059) := fun z => hn z.2
        rw [if_neg hcc]
        exact .tt (by simp only [hd, hn]; rfl) (.pure _)
    · have hcc : ¬ ((1 ≤ a ∧ a ≤ 3652059) ∧ 1 ≤ b ∧ b ≤ 3652059) := fun z => hd z.1
      rw [if_neg hcc]
      exact .bind (x := false) (.ff (by simp [hd]) (.pure _)) (.tt (by simp [hd]) (.pure _))
  · rw [if_pos hc]
    exact .tt (by simpa using hc) (.pure _)

/-- AmountWorkDaysMatchSpec. -/
theorem ev_law5 (c : Int × List Int) (a n b : Int) : Ev (fun k => interchangelaw1_AmountWorkDaysMatchSpec k c a n b) true := by
  refine .step (fun k => interchangelaw1_AmountWorkDaysMatchSpec_eq k c a n b) (.bind (ev_rWorkDay c a n) (.bind (ev_aWorkDay c a n) (.bind (ev_rcal c) (.bind (ev_cal c) (.ff (by simp) (.bind (ev_rWorkDays c a b) (.bind (ev_aWorkDays c a b) (.bind (.tt (by simp) ev_awake) (.to (.pure _) ?_)))))))))
  simp

/- counting -/
theorem hol_step (r a b : Int) (hab : a ≤ b) : ∀ {l : List Int}, l.Nodup → hol r a (b + 1) l = hol r a b l + (if b ∈ l ∧ rb r (wd b) = false then 1 else 0)
  | [], _ => by simp [hol]
  | d :: l, h => by
    have hn := List.nodup_cons.1 h
    have ih := hol_step r a b hab hn.2
    simp only [hol, ih]
    by_cases hdb : d = b
    · subst hdb
      have h1 : ¬ (a ≤ d ∧ d < d ∧ rb r (wd d) = false) := fun z => by omega
      have h2 : ¬ (d ∈ l ∧ rb r (wd d) = false) := fun z => hn.1 z.1
      rw [if_neg h1, if_neg h2]
      cases hr : rb r (wd d) with
      | true => simp
      | false => simp; omega
    · have e : (a ≤ d ∧ d < b + 1 ∧ rb r (wd d) = false) ↔ (a ≤ d ∧ d < b ∧ rb r (wd d) = false) := by
        constructor
        · rintro ⟨h1, h2, h3⟩; exact ⟨h1, by omega, h3⟩
        · rintro ⟨h1, h2, h3⟩; exact ⟨h1, by omega, h3⟩
      have e2 : (b ∈ d :: l ∧ rb r (wd b) = false) ↔ (b ∈ l ∧ rb r (wd b) = false) := by
        rw [List.mem_cons]
        constructor
        · rintro ⟨h1 | h1, h2⟩
          · exact absurd h1.symm hdb
          · exact ⟨h1, h2⟩
        · rintro ⟨h1, h2⟩; exact ⟨.inr h1, h2⟩
      simp only [e, e2]
      omega
theorem cnt_work (c : Int × List Int) (a : Int) (h : c.2.Nodup) : ∀ n : Nat, cnt (work c) a n = cnt (free c.1) a n - hol c.1 a (a + n) c.2
  | 0 => by
    have : ∀ l, hol c.1 a (a + ((0 : Nat) : Int)) l = 0 := by
      intro l
      induction l with
      | nil => rfl
      | cons d l ih =>
        simp only [hol, ih]
        rw [if_neg (fun z => by omega)]
        rfl
    show (0 : Int) = 0 - hol c.1 a (a + ((0 : Nat) : Int)) c.2
    rw [this]
    rfl
  | n + 1 => by
    have ih := cnt_work c a h n
    have hs := hol_step c.1 a (a + n) (by omega) h
    have e : a + ((n + 1 : Nat) : Int) = a + n + 1 := by omega
    rw [e, hs]
    simp only [cnt, ih]
    unfold work free
    cases hr : rb c.1 (wd (a + n)) with
    | true => simp
    | false =>
      by_cases hm : a + (n : Int) ∈ c.2
      · simp [hm]
        omega
      · simp [hm]
        omega
theorem cnt_add (p : Int → Bool) (a : Int) (n : Nat) : ∀ m : Nat, cnt p a (n + m) = cnt p a n + cnt p (a + n) m
  | 0 => by simp [cnt]
  | m + 1 => by
    have ih := cnt_add p a n m
    have e : a + ((n + m : Nat) : Int) = a + n + m := by omega
    rw [← Nat.add_assoc]
    show cnt p a (n + m) + (if p (a + ((n + m : Nat) : Int)) = true then 1 else 0) = cnt p a n + (cnt p (a + n) m + (if p (a + n + m) = true then 1 else 0))
    rw [ih, e]
    omega
theorem cnt_one (p : Int → Bool) (a : Int) (m : Nat) : cnt p a (m + 1) = (if p a = true then 1 else 0) + cnt p (a + 1) m := by
  have := cnt_add p a 1 m
  rw [Nat.add_comm 1 m] at this
  rw [this]
  simp [cnt]

/-- What is found has as many working days up to it. -/
theorem wdF_cnt (c : Int × List Int) : ∀ (f : Nat) (d n : Int), 0 ≤ n → (wdF c 1 f d n).2 = 0 → 0 ≤ d → (d ≤ (wdF c 1 f d n).1 ∧ ((wdF c 1 f d n).1 = d ∨ (wdF c 1 f d n).1 ≤ 3652059) ∧ (0 < n → d < (wdF c 1 f d n).1) ∧ cnt (work c) (d + 1) ((wdF c 1 f d n).1 - d).toNat = n)
  | 0, d, n, _, h, _ => by simp [wdF] at h
  | f + 1, d, n, hn, h, hd => by
    unfold wdF at h ⊢
    by_cases hp : n > 0
    · simp only [hp, if_true] at h ⊢
      by_cases h2 : 1 ≤ d + 1 ∧ d + 1 ≤ 3652059
      · rw [if_pos h2] at h ⊢
        by_cases hw : work c (d + 1) = true
        · rw [if_pos hw] at h ⊢
          obtain ⟨g1, g2, g4, g3⟩ := wdF_cnt c f (d + 1) (n - 1) (by omega) h (by omega)
          generalize (wdF c 1 f (d + 1) (n - 1)).1 = t at *
          refine ⟨by omega, by omega, fun _ => by omega, ?_⟩
          have e : (t - d).toNat = (t - (d + 1)).toNat + 1 := by omega
          rw [e, cnt_one, if_pos hw, g3]
          omega
        · rw [if_neg hw] at h ⊢
          obtain ⟨g1, g2, g4, g3⟩ := wdF_cnt c f (d + 1) n hn h (by omega)
          generalize (wdF c 1 f (d + 1) n).1 = t at *
          refine ⟨by omega, by omega, fun z => by omega, ?_⟩
          have e : (t - d).toNat = (t - (d + 1)).toNat + 1 := by omega
          rw [e, cnt_one, if_neg hw, g3]
          omega
      · rw [if_neg h2] at h
        simp at h
    · simp only [hp, if_false]
      have hz : n = 0 := by omega
      subst hz
      refine ⟨by simp, by simp, by simp, ?_⟩
      simp [cnt]

theorem wdF_zero (c : Int × List Int) (s : Int) : ∀ (f : Nat) (d n : Int), (wdF c s f d n).2 ≠ 0 → (wdF c s f d n).1 = 0
  | 0, d, n, _ => rfl
  | f + 1, d, n, h => by
    unfold wdF at h ⊢
    split at h
    · rename_i h1
      rw [if_pos h1]
      split at h
      · rename_i h2
        rw [if_pos h2]
        split at h
        · rename_i h3
          rw [if_pos h3]
          exact wdF_zero c s f _ _ h
        · rename_i h3
          rw [if_neg h3]
          exact wdF_zero c s f _ _ h
      · rename_i h2
        rw [if_neg h2]
    · simp at h
theorem wdR_zero (c : Int × List Int) (d n : Int) (h : (wdR c d n).2 ≠ 0) : (wdR c d n).1 = 0 := by
  unfold wdR at h ⊢
  split at h
  · rename_i h1
    rw [if_pos h1]
  · rename_i h1
    rw [if_neg h1]
    split at h
    · rename_i h2
      rw [if_pos h2]
      split at h
      · rename_i h3
        rw [if_pos h3]
        exact wdF_zero _ _ _ _ _ h
      · rename_i h3
        rw [if_neg h3]
        split at h
        · rename_i h4
          rw [if_pos h4]
          exact wdF_zero _ _ _ _ _ h
        · rename_i h4
          rw [if_neg h4]
          exact wdF_zero _ _ _ _ _ h
    · rename_i h2
      rw [if_neg h2]

/-- How many, of a right calendar and right days. -/
theorem wdsR_eq (c : Int × List Int) (a b : Int) (hc : calF c = 0) (ha : 1 ≤ a) (hab : a ≤ b) (hb : b ≤ 3652059) : wdsR c a b = (cnt (work c) a (b - a).toNat, 0) := by
  unfold wdsR
  have h1 : (1 ≤ a ∧ a ≤ 3652059) ∧ 1 ≤ b ∧ b ≤ 3652059 := ⟨⟨ha, by omega⟩, by omega, hb⟩
  rw [if_neg (by simpa using hc), if_pos h1, if_neg (by omega)]
  have := cnt_work c a (Ris.nodup (calF_ok hc).2.2.2) (b - a).toNat
  have e : a + (((b - a).toNat : Nat) : Int) = b := by omega
  rw [e] at this
  rw [this]

/-- AmountWorkDaysAreCounted. -/
theorem ev_law6 (c : Int × List Int) (d n m : Int) (hm1 : -9223372036854775808 ≤ m) (hm2 : m < 9223372036854775808) : Ev (fun k => interchangelaw1_AmountWorkDaysAreCounted k c d n m) true := by
  refine .step (fun k => interchangelaw1_AmountWorkDaysAreCounted_eq k c d n m) (.bind (ev_aWorkDay c d n) ?_)
  by_cases hf : (wdR c d n).2 = 0
  · by_cases hbad : n < 1 ∨ (wdR c d n).1 = 3652059
    · refine .tt ?_ (.bind (.tt (by simp [hf]) ev_awake) (.to (.pure _) (by simp [hf])))
      rcases hbad with h | h
      · simp [hf, h]
      · simp [hf, h]
    · have hn1 : ¬ n < 1 := fun z => hbad (.inl z)
      have hto : ¬ (wdR c d n).1 = 3652059 := fun z => hbad (.inr z)
      refine .ff (by simp [hf, hn1, hto]) ?_
      have hcd : calF c = 0 ∧ ((1 ≤ d ∧ d ≤ 3652059) ∧ -10000 ≤ n ∧ n ≤ 10000) ∧ wdR c d n = wdF c 1 4000000 d n := by
        unfold wdR at hf ⊢
        split at hf
        · rename_i h1
          exact absurd hf (by simpa using h1)
        · rename_i h1
          split at hf
          · rename_i h2
            refine ⟨by simpa using h1, h2, ?_⟩
            rw [if_neg h1, if_pos h2, if_neg (by omega), if_neg (by omega)]
          · simp at hf
      obtain ⟨hc, hdn, he⟩ := hcd
      rw [he] at hf hto ⊢
      obtain ⟨g1, g2, g4, g3⟩ := wdF_cnt c 4000000 d n (by omega) hf (by omega)
      have g4' := g4 (by omega)
      generalize (wdF c 1 4000000 d n).1 = t at *
      have e1 : wi64 (d + 1) = d + 1 := wi64_id (by omega) (by omega)
      have e2 : wi64 (t + 1) = t + 1 := wi64_id (by omega) (by omega)
      have e3 : wi64 (t - d) = t - d := wi64_id (by omega) (by omega)
      rw [e1, e2, e3]
      have hall := wdsR_eq c (d + 1) (t + 1) hc (by omega) (by omega) (by omega)
      have e4 : (t + 1 - (d + 1)).toNat = (t - d).toNat := by omega
      rw [e4, g3] at hall
      refine .bind (ev_aWorkDays c (d + 1) (t + 1)) ?_
      rw [hall]
      refine .bind (.tt (by simp) ev_awake) (.ff (by simp) ?_)
      obtain ⟨r, q1, q2, q3⟩ := ev_Below m (t - d) hm1 hm2 (by omega) (by omega)
      refine .bind q1 ?_
      have e5 : wi64 (d + 1 + r) = d + 1 + r := wi64_id (by omega) (by omega)
      rw [e5]
      have ha := wdsR_eq c (d + 1) (d + 1 + r) hc (by omega) (by omega) (by omega)
      have hb := wdsR_eq c (d + 1 + r) (t + 1) hc (by omega) (by omega) (by omega)
      refine .bind (ev_aWorkDays c _ _) (.bind (ev_aWorkDays c _ _) ?_)
      rw [ha, hb]
      refine .to (.pure _) ?_
      have hadd := cnt_add (work c) (d + 1) r.toNat (t - d - r).toNat
      have e6 : r.toNat + (t - d - r).toNat = (t - d).toNat := by omega
      have e7 : d + 1 + ((r.toNat : Nat) : Int) = d + 1 + r := by omega
      have e8 : (d + 1 + r - (d + 1)).toNat = r.toNat := by omega
      have e9 : (t + 1 - (d + 1 + r)).toNat = (t - d - r).toNat := by omega
      rw [e6, e7, g3] at hadd
      have b1 := cnt_bound (work c) (d + 1) r.toNat
      have b2 := cnt_bound (work c) (d + 1 + r) (t - d - r).toNat
      rw [e8, e9, wi64_id (by omega) (by omega), ← hadd]
      simp
  · have h0 := wdR_zero c d n hf
    refine .tt (by simp [hf]) (.bind (.tt (by simp [h0]) ev_awake) (.to (.pure _) (by simp [h0])))
end Go.Proofs.Ytoiahmmockgcbaa.Eq
