/- What the functions of this law compute, part 2. -/
import Derived.Test.YtegiadfbniamkaaGreatDoorP1
namespace Go.Proofs.YtegiadfbniamkaaGreatDoor.Eq
open Go Go.Ra
set_option linter.unusedVariables false

/- products -/
theorem mul_bound {x y : Int} (hx : 0 ≤ x) (hx2 : x ≤ 999999) (hy : 0 ≤ y) (hy2 : y ≤ 999999) : 0 ≤ x * y ∧ x * y ≤ 999998000001 :=
  ⟨Int.mul_nonneg hx hy, Int.le_trans (Int.mul_le_mul_of_nonneg_right hx2 hy) (Int.mul_le_mul_of_nonneg_left (c := 999999) hy2 (by omega))⟩

theorem ev_rTimes_c6 (b s4 : Bool × List Int) (hb : Dg 1000000 b.2) (s : Bool) (x : Int) (hx : 0 ≤ x) (hx2 : x < 1000000) (i : Nat) (hlen : i + b.2.length < 1099511627776) (s27 : List Int) (s28 s29 : Int) : ∀ (m j : Nat) (out : List Int), b.2.length - j = m → j ≤ b.2.length → i + b.2.length + 1 ≤ out.length → out.length < 1099511627776 →
    (∀ p, 0 ≤ out.getD p 0 ∧ out.getD p 0 ≤ (if p = i + j ∧ j ≠ 0 then 1999998 else 999999)) → (∀ p, i + b.2.length ≤ p → p ≠ i + j → out.getD p 0 = 0) → (j = b.2.length → out.getD (i + j) 0 ≤ 999999) → (j ≠ b.2.length → out.getD (i + b.2.length) 0 = 0) →
    ∃ out2, out2.length = out.length ∧ (∀ p, 0 ≤ out2.getD p 0 ∧ out2.getD p 0 ≤ 999999) ∧ (∀ p, i + b.2.length + 1 ≤ p → out2.getD p 0 = 0) ∧ Vb 1000000 out2 = Vb 1000000 out + 1000000 ^ (i + j) * (x * Vb 1000000 (b.2.drop j)) ∧
      ∀ y, Ev (fun k => interchangeref1_TimesOf_c3 k b s4 (s, out2) s27 s28 (wi64 (s29 + 1))) y → Ev (fun k => interchangeref1_TimesOf_c6 k b s4 (s, out) (i : Int) x s27 s28 s29 b.2 (b.2.length : Int) (j : Int)) y := by
  intro m
  induction m with
  | zero =>
    intro j out hm hj hol hol2 hd hz hend _
    have hj' : j = b.2.length := by omega
    subst hj'
    refine ⟨out, rfl, fun p => ?_, fun p hp => hz p (by omega) (by omega), ?_, fun y hy => .step (fun k => interchangeref1_TimesOf_c6_eq k _ _ _ _ _ _ _ _ _ _ _) (.nk (by omega) hy)⟩
    · have := hd p
      by_cases h : p = i + b.2.length
      · subst h
        exact ⟨this.1, hend rfl⟩
      · rw [if_neg (by omega)] at this
        exact this
    · rw [List.drop_length]
      simp [Vb]
  | succ m ih =>
    intro j out hm hj hol hol2 hd hz hend hne
    have hlt : j < b.2.length := by omega
    have hy := hb.at (by omega) j
    have hti : ((j : Int)).toNat = j := Int.toNat_natCast j
    have ho := hd (i + j)
    have ho2 : out.getD (i + j) 0 ≤ 1999998 := by
      have := ho.2
      split at this <;> omega
    have hn1 := hd (i + j + 1)
    rw [if_neg (by omega)] at hn1
    have e1 : wi64 ((i : Int) + (j : Int)) = ((i + j : Nat) : Int) := by rw [wi64_id (by omega) (by omega)]; rfl
    have e2 : wi64 (((i + j : Nat) : Int) + 1) = ((i + j + 1 : Nat) : Int) := rwi_succ (by omega)
    have e3 : wi64 ((j : Int) + 1) = ((j + 1 : Nat) : Int) := rwi_succ (by omega)
    rw [drop_consI hlt]
    have hmb := mul_bound (x := x) (y := b.2.getD j 0) hx (by omega) hy.1 (by omega)
    obtain ⟨v, hv⟩ : ∃ v, v = out.getD (i + j) 0 + x * b.2.getD j 0 := ⟨_, rfl⟩
    have hv0 : 0 ≤ v := by omega
    have hv2 : v ≤ 999999999999 := by omega
    have h1 : i + j < out.length := by omega
    have h2 : i + j + 1 < out.length := by omega
    obtain ⟨out3, ho3⟩ : ∃ o, o = ((out.set (i + j) v).set (i + j + 1) (out.getD (i + j + 1) 0 + v / 1000000)).set (i + j) (v % 1000000) := ⟨_, rfl⟩
    have g3 : ∀ p, out3.getD p 0 = if p = i + j then v % 1000000 else if p = i + j + 1 then out.getD (i + j + 1) 0 + v / 1000000 else out.getD p 0 := by
      intro p
      rw [ho3]
      split
      · rename_i h
        rw [h, lset_eq _ _ _ (by simpa using h1)]
      · rename_i h
        rw [lset_ne _ _ (by omega)]
        split
        · rename_i h'
          rw [h', lset_eq _ _ _ (by simpa using h2)]
        · rename_i h'
          rw [lset_ne _ _ (by omega), lset_ne _ _ (by omega)]
    have hval : Vb 1000000 out3 = Vb 1000000 out + 1000000 ^ (i + j) * (x * b.2.getD j 0) := by
      rw [ho3, Vb_set _ _ _ _ (by simpa using h1), Vb_set _ _ _ _ (by simpa using h2), Vb_set _ _ _ _ h1, lset_ne _ _ (by omega), lset_ne _ _ (by omega), lset_eq _ _ _ h1, Int.pow_succ]
      generalize (1000000 : Int) ^ (i + j) = P
      have t1 : P * 1000000 * (out.getD (i + j + 1) 0 + v / 1000000 - out.getD (i + j + 1) 0) = P * (1000000 * (v / 1000000)) := by
        rw [Int.mul_assoc]
        congr 2
        omega
      rw [t1, Int.add_assoc, Int.add_assoc, ← Int.mul_add, ← Int.mul_add]
      congr 2
      omega
    obtain ⟨out2, q1, q2, q3, q4, q5⟩ := ih (j + 1) out3 (by omega) (by omega) (by rw [ho3]; simpa using hol) (by rw [ho3]; simpa using hol2) (fun p => by
      rw [g3]
      have := hd p
      split
      · rename_i h
        rw [if_neg (by omega)]
        omega
      · split
        · rename_i h'
          rw [if_pos (by omega)]
          omega
        · rename_i h h'
          rw [if_neg (by omega)] at this
          rw [if_neg (by omega)]
          exact this) (fun p hp hp2 => by
      rw [g3, if_neg (by omega), if_neg (by omega)]
      exact hz p hp (by omega)) (fun h => by
      have hz' := hne (by omega)
      rw [g3, if_neg (by omega), if_pos (by omega)]
      have e : i + j + 1 = i + b.2.length := by omega
      rw [e, hz']
      omega) (fun h => by
      rw [g3, if_neg (by omega), if_neg (by omega)]
      exact hne (by omega))
    refine ⟨out2, by rw [q1, ho3]; simp, q2, q3, ?_, fun z hz' => ?_⟩
    · rw [q4, hval, ← Nat.add_assoc, Int.pow_succ, Int.add_assoc, rpow_step]
      congr 2
      simp only [Vb]
      rw [Int.mul_add, Int.mul_left_comm]
    · refine .step (fun k => interchangeref1_TimesOf_c6_eq k _ _ _ _ _ _ _ _ _ _ _) (.ck (by omega) (.ck (by omega) (.ck (by omega) ?_)))
      have ev1 : wi64 (out.getD (i + j) 0 + wi64 (x * b.2.getD j 0)) = v := by
        rw [wi64_id (x := x * _) (by omega) (by omega), wi64_id (by omega) (by omega), hv]
      have ev2 : wi64 (v.tdiv 1000000) = v / 1000000 := by
        rw [Int.tdiv_eq_ediv_of_nonneg hv0, wi64_id (by omega) (by omega)]
      have ev3 : wi64 (out.getD (i + j + 1) 0 + v / 1000000) = out.getD (i + j + 1) 0 + v / 1000000 := wi64_id (by omega) (by omega)
      simp only [e1, e2, hti, Int.toNat_natCast, ev1, List.length_set]
      rw [lset_eq _ _ _ h1, lset_ne _ _ (show i + j ≠ i + j + 1 by omega), ev2, ev3]
      rw [lset_ne _ _ (show i + j + 1 ≠ i + j by omega), lset_eq _ _ _ h1, Int.tmod_eq_emod_of_nonneg hv0, e3, ← ho3]
      exact .ck (by omega) (.ck (by omega) (.ck (by omega) (.ck (by omega) (.ck (by omega) (.ck (by omega) (.ck (by omega) (.ck (by omega) (.ck (by omega) (.ck (by omega) (.ck (by omega) (.ck (by omega) (.ck (by omega) (.ck (by omega) (q5 z hz'))))))))))))))

theorem dg_of {l : List Int} (h : ∀ p, 0 ≤ l.getD p 0 ∧ l.getD p 0 ≤ 999999) : Dg 1000000 l := by
  intro d hd
  obtain ⟨i, hi, rfl⟩ := List.mem_iff_getElem.1 hd
  have := h i
  rw [List.getD_eq_getElem?_getD, List.getElem?_eq_getElem hi] at this
  simp only [Option.getD_some] at this
  omega

theorem set_same (l : List Int) (i : Nat) : l.set i (l.getD i 0) = l := by
  by_cases h : i < l.length
  · rw [List.getD_eq_getElem?_getD, List.getElem?_eq_getElem h]
    exact List.set_getElem_self h
  · exact List.set_eq_of_length_le (by omega)

theorem ev_rTimes_c14 (s4 : Bool × List Int) (s : Bool) (out : List Int) (hd : ∀ p, 0 ≤ out.getD p 0 ∧ out.getD p 0 ≤ 999999) (hn : out.length < 1099511627776) (h0 : 0 < out.length) : ∀ (m i : Nat), out.length - 1 - i = m → i ≤ out.length - 1 →
    Ev (fun k => interchangeref1_TimesOf_c14 k s4 (s, out) ((out.length : Int) - 1) (i : Int)) (N (cond s (-(Vb 1000000 out)) (Vb 1000000 out))) := by
  intro m
  induction m with
  | zero =>
    intro i hm hi
    exact .step (fun k => interchangeref1_TimesOf_c14_eq k _ _ _ _) (.nk (by omega) (.ret (ev_rtrim s out (by omega) (dg_of hd)) rfl))
  | succ m ih =>
    intro i hm hi
    have e1 : wi64 ((i : Int) + 1) = ((i + 1 : Nat) : Int) := rwi_succ (by omega)
    have h1 := hd i
    have h2 := hd (i + 1)
    have ev1 : wi64 ((out.getD i 0).tdiv 1000000) = 0 := by
      rw [Int.tdiv_eq_ediv_of_nonneg h1.1, wi64_id (by omega) (by omega)]
      omega
    have ev2 : wi64 (out.getD (i + 1) 0 + 0) = out.getD (i + 1) 0 := by rw [wi64_id (by omega) (by omega)]; omega
    have ev3 : (out.getD i 0).tmod 1000000 = out.getD i 0 := by rw [Int.tmod_eq_emod_of_nonneg h1.1]; omega
    refine .step (fun k => interchangeref1_TimesOf_c14_eq k _ _ _ _) (.ck (by omega) ?_)
    simp only [e1, Int.toNat_natCast, ev1, ev2, set_same, ev3]
    exact .ck (by omega) (.ck (by omega) (.ck (by omega) (.ck (by omega) (.ck (by omega) (.ck (by omega) (.ck (by omega) (.ck (by omega) (.ck (by omega) (.ck (by omega) (ih (i + 1) (by omega) (by omega)))))))))))

theorem ev_rTimes_c3 (a b s4 : Bool × List Int) (ha : Dg 1000000 a.2) (hb : Dg 1000000 b.2) (s : Bool) (hlen : a.2.length + b.2.length < 549755813888) : ∀ (m i : Nat) (out : List Int), a.2.length - i = m → i ≤ a.2.length → out.length = a.2.length + b.2.length + 1 → (∀ p, 0 ≤ out.getD p 0 ∧ out.getD p 0 ≤ 999999) → (∀ p, i + b.2.length ≤ p → out.getD p 0 = 0) →
    Ev (fun k => interchangeref1_TimesOf_c3 k b s4 (s, out) a.2 (a.2.length : Int) (i : Int)) (N (cond s (-(Vb 1000000 out + 1000000 ^ i * (Vb 1000000 (a.2.drop i) * Vb 1000000 b.2))) (Vb 1000000 out + 1000000 ^ i * (Vb 1000000 (a.2.drop i) * Vb 1000000 b.2)))) := by
  intro m
  induction m with
  | zero =>
    intro i out hm hi hol hd hz
    have hi' : i = a.2.length := by omega
    subst hi'
    have e1 : wi64 ((out.length : Int) - 1) = (out.length : Int) - 1 := wi64_id (by omega) (by omega)
    refine .step (fun k => interchangeref1_TimesOf_c3_eq k _ _ _ _ _ _) (.nk (by omega) ?_)
    simp only [e1]
    refine .to (ev_rTimes_c14 s4 s out hd (by omega) (by omega) _ 0 rfl (by omega)) ?_
    rw [List.drop_length]
    simp [Vb]
  | succ m ih =>
    intro i out hm hi hol hd hz
    have hlt : i < a.2.length := by omega
    have hx := ha.at (by omega) i
    have hti : ((i : Int)).toNat = i := Int.toNat_natCast i
    obtain ⟨out2, q1, q2, q3, q4, q5⟩ := ev_rTimes_c6 b s4 hb s (a.2.getD i 0) hx.1 hx.2 i (by omega) a.2 (a.2.length : Int) (i : Int) _ 0 out rfl (by omega) (by omega) (by omega) (fun p => by have := hd p; rw [if_neg (by omega)]; exact this) (fun p hp _ => hz p hp) (fun h => by have := hd (i + 0); omega) (fun h => hz _ (by omega))
    refine .step (fun k => interchangeref1_TimesOf_c3_eq k _ _ _ _ _ _) (.ck (by omega) (.ck (by omega) (.ck (by omega) ?_)))
    rw [hti]
    refine q5 _ ?_
    rw [rwi_succ (by omega)]
    refine .to (ih (i + 1) out2 (by omega) (by omega) (by omega) q2 (fun p hp => q3 p (by omega))) ?_
    have hv : Vb 1000000 out2 + 1000000 ^ (i + 1) * (Vb 1000000 (a.2.drop (i + 1)) * Vb 1000000 b.2) = Vb 1000000 out + 1000000 ^ i * (Vb 1000000 (a.2.drop i) * Vb 1000000 b.2) := by
      rw [q4, drop_consI hlt, Int.pow_succ]
      simp only [Vb, Nat.add_zero, List.drop_zero]
      rw [Int.add_assoc, rpow_step, Int.add_mul, Int.mul_assoc]
    rw [hv]

theorem ev_rTimes (a b : Int) (ha : Sr a) (hb : Sr b) : Ev (fun k => interchangeref1_TimesOf k (N a) (N b)) (N (a * b)) := by
  have la := ha.len
  have lb := hb.len
  have e1 : wi64 (wi64 (((N a).2.length : Int) + ((N b).2.length : Int)) + 1) = (((N a).2.length + (N b).2.length + 1 : Nat) : Int) := by rw [wi64_id (x := ((N a).2.length : Int) + ((N b).2.length : Int)) (by omega) (by omega), wi64_id (by omega) (by omega)]; rfl
  refine .step (fun k => interchangeref1_TimesOf_eq k _ _) ?_
  rw [e1, Int.toNat_natCast]
  refine .ck (by omega) (.ck (by omega) (.to (ev_rTimes_c3 (N a) (N b) (false, []) (N_dg a) (N_dg b) _ (by omega) _ 0 _ rfl (by omega) (by simp) (fun p => by rw [getD_zeros]; omega) (fun p _ => getD_zeros _ p)) ?_))
  rw [Vb_zeros]
  simp only [List.drop_zero, N_V, N_neg]
  congr 1
  have hn : ((a.natAbs : Int) * (b.natAbs : Int)) = ((a * b).natAbs : Int) := by rw [Int.natAbs_mul]; push_cast; rfl
  rw [hn]
  simp only [Int.pow_zero, Int.one_mul, Int.zero_add]
  by_cases h1 : a < 0
  · by_cases h2 : b < 0
    · have := Int.mul_pos_of_neg_of_neg h1 h2
      simp [h1, h2]
      omega
    · have : a * b ≤ 0 := Int.mul_nonpos_of_nonpos_of_nonneg (by omega) (by omega)
      simp [h1, h2]
      omega
  · by_cases h2 : b < 0
    · have : a * b ≤ 0 := Int.mul_nonpos_of_nonneg_of_nonpos (by omega) (by omega)
      simp [h1, h2]
      omega
    · have : 0 ≤ a * b := Int.mul_nonneg (by omega) (by omega)
      simp [h1, h2]
      omega

theorem rpow10_abs (n : Nat) : ((10 : Int) ^ n).natAbs = 10 ^ n := by rw [Int.natAbs_pow]; rfl
theorem ev_rPower_c3 (s2 : Bool × List Int) (n : Nat) (hn : n ≤ 130) : ∀ (m i : Nat), n - i = m → i ≤ n → Ev (fun k => interchangeref1_Power_c3 k s2 (N (10 ^ i)) (n : Int) (i : Int)) (N (10 ^ n)) := by
  intro m
  induction m with
  | zero =>
    intro i hm hi
    have hi' : i = n := by omega
    subst hi'
    exact .step (fun k => interchangeref1_Power_c3_eq k _ _ _ _) (.nk (by omega) (.pure _))
  | succ m ih =>
    intro i hm hi
    refine .step (fun k => interchangeref1_Power_c3_eq k _ _ _ _) (.ck (by omega) (.bind (ev_rOf 10 (by omega) (by omega)) (.bind (ev_rTimes (10 ^ i) 10 (.of ?_) (.of (by decide))) ?_)))
    · rw [rpow10_abs]
      exact Nat.pow_le_pow_right (by omega) (by omega)
    · rw [rwi_succ (by omega), ← Int.pow_succ]
      exact ih (i + 1) (by omega) (by omega)
theorem ev_rPower (n : Nat) (hn : n ≤ 130) : Ev (fun k => interchangeref1_Power k (n : Int)) (N (10 ^ n)) :=
  .step (fun k => interchangeref1_Power_eq k _) (.bind (ev_rOf 1 (by omega) (by omega)) (ev_rPower_c3 _ n hn _ 0 rfl (by omega)))

/- as an int -/
theorem ev_rSmall_c5 (s : Bool) (l : List Int) (hd : Dg 1000000 l) (hv : Vb 1000000 l < 4611686018427387904) (hn : l.length < 1000) : ∀ (n : Nat), n ≤ l.length →
    Ev (fun k => interchangeref1_Small_c5 k (s, l) (Vb 1000000 (l.drop n)) ((n : Int) - 1)) (cond s (-(Vb 1000000 l)) (Vb 1000000 l), true) := by
  intro n
  induction n with
  | zero =>
    intro _
    have h0 := Vb_nonneg (b := 1000000) (by omega) hd
    refine .step (fun k => interchangeref1_Small_c5_eq k _ _ _) (.nk (by omega) (.cond (fun h => ?_) (fun h => ?_)))
    · simp only at h
      rw [List.drop_zero, wi64_id (by omega) (by omega), h]
      exact .to (.pure _) (by simp)
    · simp only at h
      rw [h]
      exact .pure _
  | succ n ih =>
    intro hle
    have hlt : n < l.length := by omega
    have hx := hd.at (by omega) n
    have e0 : (((n + 1 : Nat) : Int) - 1) = (n : Int) := by omega
    have hti : ((n : Int)).toNat = n := Int.toNat_natCast n
    have e1 : wi64 ((n : Int) - 1) = (n : Int) - 1 := wi64_id (by omega) (by omega)
    have hdr : ∀ i, 0 ≤ Vb 1000000 (l.drop i) ∧ Vb 1000000 (l.drop i) ≤ Vb 1000000 l := by
      intro i
      have h1 := Vb_nonneg (b := 1000000) (by omega) (hd.drop i)
      have h2 := Vb_append 1000000 (l.take i) (l.drop i)
      rw [List.take_append_drop] at h2
      have h3 := Vb_nonneg (b := 1000000) (by omega) (hd.take i)
      have h4 : (1 : Int) ≤ 1000000 ^ (l.take i).length := by
        have : (0 : Int) < 1000000 ^ (l.take i).length := Int.pow_pos (by omega)
        omega
      have h5 : Vb 1000000 (l.drop i) ≤ 1000000 ^ (l.take i).length * Vb 1000000 (l.drop i) := by
        have := Int.mul_le_mul_of_nonneg_right h4 h1
        rwa [Int.one_mul] at this
      omega
    have hV := hdr n
    have hV1 := hdr (n + 1)
    have hs := Vdrop (l := l) n
    have et : wi64 (wi64 (Vb 1000000 (l.drop (n + 1)) * 1000000) + l.getD n 0) = Vb 1000000 (l.drop n) := by
      rw [wi64_id (x := _ * _) (by omega) (by omega), wi64_id (by omega) (by omega)]
      omega
    rw [e0]
    refine .step (fun k => interchangeref1_Small_c5_eq k _ _ _) (.ck (by omega) (.ck (by omega) (.ck (by simp only; omega) ?_)))
    simp only [hti, et, e1]
    exact ih (by omega)

theorem ev_rSmall (a most : Int) (ha : Sr a) (hm : 0 ≤ most) (hm2 : most < 4611686018427387904) : Ev (fun k => interchangeref1_Small k (N a) most) (if a.natAbs ≤ most then (a, true) else (0, false)) := by
  have la := ha.len
  have hml : (digs 1000000 most.natAbs).length ≤ 4 := digs_len (b := 1000000) (by decide) 4 _ (by omega)
  obtain ⟨r, q1, q2, q3⟩ := ev_sizes a.natAbs most.natAbs (show (N a).2.length < _ by omega) (by omega)
  refine .step (fun k => interchangeref1_Small_eq k _ _) (.bind (ev_rOf most (by omega) (by omega)) (.bind q1 ?_))
  by_cases h : a.natAbs ≤ most
  · rw [if_pos h]
    refine .nk (by intro z; have := q3.1 z; omega) ?_
    have e1 : wi64 (((N a).2.length : Int) - 1) = ((N a).2.length : Int) - 1 := wi64_id (by omega) (by omega)
    rw [e1]
    have := ev_rSmall_c5 (N a).1 (N a).2 (N_dg a) (by rw [N_V]; omega) (by omega) (N a).2.length (Nat.le_refl _)
    rw [List.drop_length] at this
    refine .to this ?_
    rw [N_V, N_neg]
    congr 1
    by_cases h0 : a < 0
    · simp [h0]; omega
    · simp [h0]; omega
  · rw [if_neg h]
    exact .ck (q3.2 (by omega)) (.pure _)

/- long division -/
theorem ev_rhalf_c4 (a : Nat) (s2 : Bool × List Int) (hn : (digs 1000000 a).length < 1000) : ∀ (n : Nat) (out : List Int) (r : Int), n ≤ (digs 1000000 a).length → out.length = (digs 1000000 a).length → Dg 1000000 out → 0 ≤ r → r ≤ 1 → (∀ p, p < n → out.getD p 0 = 0) →
    2 * Vb 1000000 out + 1000000 ^ n * r + Vb 1000000 ((digs 1000000 a).take n) = a →
    Ev (fun k => interchangeref1_half_c4 k (false, digs 1000000 a) s2 (false, out) r ((n : Int) - 1)) (N ((a / 2 : Nat) : Int), ((a % 2 : Nat) : Int)) := by
  intro n
  induction n with
  | zero =>
    intro out r hle hol hd hr hr1 hz hv
    simp only [List.take_zero, Vb, Int.pow_zero] at hv
    have h0 := Vb_nonneg (b := 1000000) (by omega) hd
    refine .step (fun k => interchangeref1_half_c4_eq k _ _ _ _ _) (.nk (by omega) (.bind (ev_rtrim false out (by omega) hd) (.to (.pure _) ?_)))
    simp only [cond_false]
    refine Prod.ext ?_ ?_
    · simp only
      congr 1
      omega
    · simp only
      omega
  | succ n ih =>
    intro out r hle hol hd hr hr1 hz hv
    have hlt : n < (digs 1000000 a).length := by omega
    have hx := (rD a).at (by omega) n
    have e0 : (((n + 1 : Nat) : Int) - 1) = (n : Int) := by omega
    have hti : ((n : Int)).toNat = n := Int.toNat_natCast n
    have e1 : wi64 ((n : Int) - 1) = (n : Int) - 1 := wi64_id (by omega) (by omega)
    have htk : Vb 1000000 ((digs 1000000 a).take (n + 1)) = Vb 1000000 ((digs 1000000 a).take n) + 1000000 ^ n * (digs 1000000 a).getD n 0 := by
      rw [List.take_add_one, Vb_append, List.length_take, Nat.min_eq_left (by omega), List.getElem?_eq_getElem hlt, List.getD_eq_getElem?_getD, List.getElem?_eq_getElem hlt]
      simp [Vb]
    rw [htk, Int.pow_succ] at hv
    rw [e0]
    generalize hxe : (digs 1000000 a).getD n 0 = x at *
    have et : wi64 (wi64 (r * 1000000) + x) = r * 1000000 + x := by rw [wi64_id (x := r * 1000000) (by omega) (by omega), wi64_id (by omega) (by omega)]
    have et2 : wi64 ((r * 1000000 + x).tdiv 2) = (r * 1000000 + x) / 2 := by rw [Int.tdiv_eq_ediv_of_nonneg (by omega), wi64_id (by omega) (by omega)]
    refine .step (fun k => interchangeref1_half_c4_eq k _ _ _ _ _) (.ck (by omega) (.ck (by omega) (.ck (by simp only; omega) (.ck (by omega) (.ck (by simp only; omega) ?_)))))
    have hz0 := hz n (by omega)
    simp only [hti, hxe, et, et2, e1]
    rw [Int.tmod_eq_emod_of_nonneg (by omega)]
    refine ih _ _ (by omega) (by simpa using hol) (hd.set _ (by omega) (by omega)) (by omega) (by omega) (fun p hp => by rw [lset_ne _ _ (by omega)]; exact hz p (by omega)) ?_
    rw [Vb_set _ _ _ _ (by omega), hz0, ← hv]
    generalize (1000000 : Int) ^ n = P
    rw [Int.mul_add, Int.mul_left_comm, Int.mul_assoc P]
    have : P * (2 * ((r * 1000000 + x) / 2 - 0)) + P * ((r * 1000000 + x) % 2) = P * (1000000 * r) + P * x := by
      rw [← Int.mul_add, ← Int.mul_add]
      congr 1
      omega
    omega

theorem ev_rhalf (a : Nat) (ha : Sr a) : Ev (fun k => interchangeref1_half k (N a)) (N ((a / 2 : Nat) : Int), ((a % 2 : Nat) : Int)) := by
  have la := ha.len
  have hN : N (a : Int) = (false, digs 1000000 a) := by simp [N]
  rw [hN] at la ⊢
  simp only at la
  have e1 : wi64 (((digs 1000000 a).length : Int) - 1) = ((digs 1000000 a).length : Int) - 1 := wi64_id (by omega) (by omega)
  refine .step (fun k => interchangeref1_half_eq k _) ?_
  simp only [e1, Int.toNat_natCast]
  refine .ck (by omega) (.ck (by omega) (ev_rhalf_c4 a (false, []) (by omega) _ _ 0 (Nat.le_refl _) (by simp) (.zeros (by omega) _) (by omega) (by omega) (fun p _ => getD_zeros _ p) ?_))
  rw [Vb_zeros, List.take_length, rV]
  omega

theorem sign_pos_iff (a : Int) : a.sign > 0 ↔ 0 < a := by
  rcases Int.lt_trichotomy a 0 with h | h | h
  · rw [Int.sign_eq_neg_one_of_neg h]; omega
  · subst h; simp
  · rw [Int.sign_eq_one_of_pos h]; omega
theorem sign_nonneg_iff (a : Int) : a.sign ≥ 0 ↔ 0 ≤ a := by
  rcases Int.lt_trichotomy a 0 with h | h | h
  · rw [Int.sign_eq_neg_one_of_neg h]; omega
  · subst h; simp
  · rw [Int.sign_eq_one_of_pos h]; omega

theorem ev_rDivMod_c11 (a b : Nat) (s4 s5 : Bool × List Int) (hb : 0 < b) (ha : a < 10 ^ 100) (hb2 : b < 10 ^ 100) (hn : (digs 2 a).length < 1000) : ∀ n : Nat, n ≤ (digs 2 a).length →
    Ev (fun k => interchangeref1_DivMod_c11 k (N b) s4 s5 (digs 2 a) (N ((a / 2 ^ n / b : Nat) : Int)) (N ((a / 2 ^ n % b : Nat) : Int)) (N 2) ((n : Int) - 1)) (N ((a / b : Nat) : Int), N ((a % b : Nat) : Int)) := by
  intro n
  induction n with
  | zero =>
    intro _
    refine .step (fun k => interchangeref1_DivMod_c11_eq k _ _ _ _ _ _ _ _) (.nk (by omega) (.to (.pure _) ?_))
    simp
  | succ n ih =>
    intro hle
    have e0 : (((n + 1 : Nat) : Int) - 1) = (n : Int) := by omega
    have hti : ((n : Int)).toNat = n := Int.toNat_natCast n
    have e1 : wi64 ((n : Int) - 1) = (n : Int) - 1 := wi64_id (by omega) (by omega)
    have hbit : (digs 2 a).getD n 0 = ((a / 2 ^ n % 2 : Nat) : Int) := digs_at (by decide) n a
    have hh : a / 2 ^ n = 2 * (a / 2 ^ (n + 1)) + a / 2 ^ n % 2 := by
      have h1 : a / 2 ^ (n + 1) = a / 2 ^ n / 2 := by rw [Nat.pow_succ, Nat.div_div_eq_div_mul]
      rw [h1]
      omega
    have ht : a / 2 ^ n % 2 < 2 := Nat.mod_lt _ (by omega)
    obtain ⟨d1, d2⟩ := div_step hb rfl rfl ht (h := a / 2 ^ (n + 1))
    rw [← hh] at d1 d2
    have hr := Nat.mod_lt (a / 2 ^ (n + 1)) hb
    have hq : a / 2 ^ (n + 1) / b ≤ a := Nat.le_trans (Nat.div_le_self _ _) (Nat.div_le_self _ _)
    generalize a / 2 ^ n % 2 = t at *
    generalize a / 2 ^ (n + 1) / b = q at *
    generalize a / 2 ^ (n + 1) % b = r at *
    have ih' := ih (by omega)
    rw [d1, d2] at ih'
    have t40 : (10 : Nat) ^ 100 * 4 ≤ 10 ^ 130 := by decide
    rw [e0]
    refine .step (fun k => interchangeref1_DivMod_c11_eq k _ _ _ _ _ _ _ _) (.ck (by omega) (.bind (ev_rTimes _ 2 (.of (by omega)) (.of (by decide))) (.bind (ev_rTimes _ 2 (.of (by omega)) (.of (by decide))) (.ck (by omega) (.ck (by omega) ?_)))))
    rw [hti, hbit, e1]
    refine .bind (ev_rOf _ (by omega) (by omega)) (.bind (ev_rPlus _ _ (.of (by omega)) (.of (by omega))) (.bind (ev_rCmp _ _ (.of (by omega)) (.of (by omega))) ?_))
    by_cases hc : b ≤ 2 * r + t
    · rw [if_pos hc, if_pos hc] at ih'
      refine .ck ((sign_nonneg_iff _).2 (by omega)) (.bind (ev_rOf 1 (by omega) (by omega)) (.bind (ev_rPlus _ _ (.of (by omega)) (.of (by decide))) (.bind (ev_rMinus _) (.bind (ev_rPlus _ _ (.of (by omega)) (.of (by omega))) ?_))))
      have e3 : ((q : Int) * 2 + 1) = ((2 * q + 1 : Nat) : Int) := by omega
      have e4 : ((r : Int) * 2 + (t : Int) + -(b : Int)) = ((2 * r + t - b : Nat) : Int) := by omega
      rw [e3, e4]
      exact ih'
    · rw [if_neg hc, if_neg hc] at ih'
      refine .nk (fun z => hc (by have := (sign_nonneg_iff _).1 z; omega)) ?_
      have e3 : ((q : Int) * 2) = ((2 * q : Nat) : Int) := by omega
      have e4 : ((r : Int) * 2 + (t : Int)) = ((2 * r + t : Nat) : Int) := by omega
      rw [e3, e4]
      exact ih'

theorem ev_rDivMod (a b : Nat) (hb : 0 < b) (ha : a < 10 ^ 100) (hb2 : b < 10 ^ 100) : Ev (fun k => interchangeref1_DivMod k (N a) (N b)) (N ((a / b : Nat) : Int), N ((a % b : Nat) : Int)) := by
  have hn : (digs 2 a).length ≤ 400 := digs_len (b := 2) (by decide) 400 a (Nat.lt_of_lt_of_le ha (by decide +kernel))
  have main : ∀ (m : Nat) (c : Nat) (bits : List Int) (s4 s5 : Bool × List Int), c ≤ m → c ≤ a → bits ++ digs 2 c = digs 2 a → Ev (fun k => interchangeref1_DivMod_c3 k (N b) s4 s5 bits (N c)) (N ((a / b : Nat) : Int), N ((a % b : Nat) : Int)) := by
    intro m
    induction m with
    | zero =>
      intro c bits s4 s5 hm hca hbits
      have hc0 : c = 0 := by omega
      subst hc0
      refine .step (fun k => interchangeref1_DivMod_c3_eq k _ _ _ _ _) (.bind (ev_rSign _) (.nk (by simp) (.bind (ev_rOf 2 (by omega) (by omega)) ?_)))
      rw [digs_zero, List.append_nil] at hbits
      rw [hbits, wi64_id (by omega) (by omega)]
      have hlt : a < 2 ^ (digs 2 a).length := by
        have := Vb_lt (b := ((2 : Nat) : Int)) (by omega) (digs_dg (b := 2) (by decide) a)
        rw [digs_V (b := 2) (by decide) a] at this
        exact_mod_cast this
      have := ev_rDivMod_c11 a b s4 s5 hb ha hb2 (by omega) (digs 2 a).length (Nat.le_refl _)
      rw [Nat.div_eq_of_lt hlt, Nat.zero_div, Nat.zero_mod] at this
      exact this
    | succ m ih =>
      intro c bits s4 s5 hm hca hbits
      by_cases hc : c = 0
      · exact ih c bits s4 s5 (by omega) hca hbits
      · have hlen : bits.length ≤ 400 := by
          have := congrArg List.length hbits
          rw [List.length_append] at this
          omega
        refine .step (fun k => interchangeref1_DivMod_c3_eq k _ _ _ _ _) (.bind (ev_rSign _) (.ck ((sign_pos_iff _).2 (by omega)) (.bind (ev_rhalf c (.of (by have : (10 : Nat) ^ 100 ≤ 10 ^ 130 := (by decide); omega))) (.ck (by omega) (.step (fun k => interchangeref1_DivMod_c7_eq k _ _ _ _ _) ?_)))))
        refine ih (c / 2) _ s4 s5 (by omega) (by omega) ?_
        rw [← hbits, digs_pos (b := 2) (n := c) (by decide) (by omega)]
        simp
  exact .step (fun k => interchangeref1_DivMod_eq k _ _) (main a a [] _ _ (Nat.le_refl _) (Nat.le_refl _) rfl)
end Go.Proofs.YtegiadfbniamkaaGreatDoor.Eq
namespace Go.Proofs.YtegiadfbniamkaaGreatDoor.Eq
open Go Go.Ra
set_option linter.unusedVariables false

/-- A right decimal. -/
def okD (d : Int × Int) : Prop := -1000000000000000 ≤ d.1 ∧ d.1 ≤ 1000000000000000 ∧ 0 ≤ d.2 ∧ d.2 ≤ 9
instance (d : Int × Int) : Decidable (okD d) := by unfold okD; infer_instance

theorem ev_Outside (a b c : Int) : Ev (fun k => kit_Outside k a b c) (decide (a < b ∨ a > c)) := by
  refine .step (fun k => kit_Outside_eq k a b c) (.to (.pure _) ?_)
  by_cases h : a < b <;> simp [h]

theorem ev_CheckDecimal (d : Int × Int) : Ev (fun k => amount_CheckDecimal k d) (if okD d then 0 else 1) := by
  refine .step (fun k => amount_CheckDecimal_eq k d) (.bind (ev_Outside _ _ _) ?_)
  by_cases h : d.1 < -1000000000000000 ∨ d.1 > 1000000000000000
  · refine .bind (x := false) (.ff (by simp [h]) (.pure _)) (.tt (by simp [h]) (.to (.pure _) ?_))
    rw [if_neg]
    intro z
    unfold okD at z
    omega
  · refine .bind (.tt (by simp [h]) (ev_Outside _ _ _)) ?_
    by_cases h2 : d.2 < 0 ∨ d.2 > 9
    · refine .tt (by simp [h, h2]) (.to (.pure _) ?_)
      rw [if_neg]
      intro z
      unfold okD at z
      omega
    · refine .ff (by simp [h, h2]) (.to (.pure _) ?_)
      rw [if_pos]
      unfold okD
      omega

theorem pow10_abs (n : Nat) : ((10 : Int) ^ n).natAbs = 10 ^ n := by rw [Int.natAbs_pow]; rfl
theorem pow10_le {n : Nat} (m : Nat) (h : n ≤ m) : (10 : Nat) ^ n ≤ 10 ^ m := Nat.pow_le_pow_right (by omega) h
theorem Sm.pow10 {n : Nat} (h : n ≤ 130) : Sm (10 ^ n) := .of (by rw [pow10_abs]; exact pow10_le 130 h)
/-- What becomes of a number of units. -/
def mk (v p : Int) : (Int × Int) × Int := if v.natAbs ≤ 1000000000000000 then ((v, p), 0) else ((0, 0), 1)
theorem ev_Made (v p : Int) : Ev (fun k => amount_Made k (W v) p) (mk v p) := by
  refine .step (fun k => amount_Made_eq k _ p) (.bind (ev_Int v 1000000000000000 (by omega) (by omega)) ?_)
  unfold mk
  by_cases h : v.natAbs ≤ 1000000000000000
  · rw [if_pos h, if_pos (by omega)]
    exact .ff rfl (.pure _)
  · rw [if_neg h, if_neg (by omega)]
    exact .tt rfl (.pure _)

end Go.Proofs.YtegiadfbniamkaaGreatDoor.Eq
namespace Go.Proofs.YtegiadfbniamkaaGreatDoor.Eq
open Go Go.Ra
set_option linter.unusedVariables false

theorem ev_within (a b c : Int) : Ev (fun k => interchangeref1_within k a b c) (decide (b ≤ a ∧ a ≤ c)) := by
  refine .step (fun k => interchangeref1_within_eq k a b c) (.to (.pure _) ?_)
  by_cases h : b ≤ a <;> simp [h]

theorem ev_rCheck (d : Int × Int) : Ev (fun k => interchangeref1_CheckDecimal k d) (if okD d then 0 else 1) := by
  refine .step (fun k => interchangeref1_CheckDecimal_eq k d) (.bind (ev_within _ _ _) ?_)
  by_cases h : -1000000000000000 ≤ d.1 ∧ d.1 ≤ 1000000000000000
  · refine .bind (.tt (by simp [h]) (ev_within _ _ _)) ?_
    by_cases h2 : 0 ≤ d.2 ∧ d.2 ≤ 9
    · refine .ff (by simp [h, h2]) (.to (.pure _) ?_)
      rw [if_pos]
      unfold okD
      omega
    · refine .tt (by simp [h, h2]) (.to (.pure _) ?_)
      rw [if_neg]
      intro z
      unfold okD at z
      omega
  · refine .bind (x := false) (.ff (by simp [h]) (.pure _)) (.tt (by simp [h]) (.to (.pure _) ?_))
    rw [if_neg]
    intro z
    unfold okD at z
    omega

theorem Sr.pow10 {n : Nat} (h : n ≤ 130) : Sr (10 ^ n) := .of (by rw [pow10_abs]; exact pow10_le 130 h)

theorem ev_rdecimal (v p : Int) (hv : Sr v) : Ev (fun k => interchangeref1_decimal k (N v) p) (mk v p) := by
  refine .step (fun k => interchangeref1_decimal_eq k _ p) (.bind (ev_rSmall v 1000000000000000 hv (by omega) (by omega)) ?_)
  unfold mk
  by_cases h : v.natAbs ≤ 1000000000000000
  · rw [if_pos h, if_pos (by omega)]
    exact .ff rfl (.pure _)
  · rw [if_neg h, if_neg (by omega)]
    exact .tt rfl (.pure _)

end Go.Proofs.YtegiadfbniamkaaGreatDoor.Eq
namespace Go.Proofs.YtegiadfbniamkaaGreatDoor.Eq
open Go Go.Ra
set_option linter.unusedVariables false

theorem lt_pow_of {x b k : Nat} (h : (x : Int) < (b : Int) ^ k) : x < b ^ k := by
  rw [← Int.natCast_pow] at h
  omega
theorem cp2 (n : Nat) : ((2 ^ n : Nat) : Int) = (2 : Int) ^ n := Int.natCast_pow 2 n

theorem bit_at (A m s : Nat) (hs : s < 32) : (A / 4294967296 ^ m % 4294967296) / 2 ^ s % 2 = A / 2 ^ (32 * m + s) % 2 := by
  have e1 : (4294967296 : Nat) ^ m = 2 ^ (32 * m) := by rw [show (4294967296 : Nat) = 2 ^ 32 from rfl, ← Nat.pow_mul]
  have e2 : (4294967296 : Nat) = 2 ^ s * 2 ^ (32 - s) := by rw [← Nat.pow_add, show s + (32 - s) = 32 by omega]
  rw [e1, Nat.pow_add, ← Nat.div_div_eq_div_mul]
  generalize A / 2 ^ (32 * m) = X
  rw [e2, Nat.mod_mul_right_div_self]
  exact Nat.mod_mod_of_dvd _ (Nat.dvd_trans (show 2 ∣ 2 ^ 1 by decide) (Nat.pow_dvd_pow 2 (by omega)))

theorem Vb_digit {l : List Int} (h : Dg 4294967296 l) : ∀ m : Nat, l.getD m 0 = (((Vb 4294967296 l).toNat / 4294967296 ^ m % 4294967296 : Nat) : Int) := by
  induction l with
  | nil => intro m; simp [Vb]
  | cons d l ih =>
    intro m
    obtain ⟨⟨h1, h2⟩, h3⟩ := h.cons
    have hv := Vb_nonneg (b := 4294967296) (by omega) h3
    have hn : (Vb 4294967296 (d :: l)).toNat = d.toNat + 4294967296 * (Vb 4294967296 l).toNat := by
      simp only [Vb]
      omega
    rw [hn]
    cases m with
    | zero =>
      simp
      omega
    | succ m =>
      rw [List.getD_cons_succ, ih h3 m, Nat.pow_succ', ← Nat.div_div_eq_div_mul, Nat.add_mul_div_left _ _ (show 0 < 4294967296 by omega), Nat.div_eq_of_lt (show d.toNat < 4294967296 by omega), Nat.zero_add]

theorem shr_u32 (x : Int) {s : Int} {n : Nat} (hs : s = n) (hn : n ≤ 32) : shrI .u32 x s = x / 2 ^ n := by
  subst hs
  show x / 2 ^ (min ((n : Int)).toNat 32) = _
  rw [Int.toNat_natCast, Nat.min_eq_left hn]
theorem shl1_u32 {s : Int} {n : Nat} (hs : s = n) (hn : n < 32) : shlI .u32 1 s = 2 ^ n := by
  subst hs
  show wu32 (1 * 2 ^ (min ((n : Int)).toNat 32)) = _
  rw [Int.toNat_natCast, Nat.min_eq_left (by omega), Int.one_mul]
  have h : (2 : Nat) ^ n ≤ 2 ^ 31 := Nat.pow_le_pow_right (by omega) (by omega)
  rw [← cp2]
  generalize 2 ^ n = u at h ⊢
  exact wu32_id (by omega) (by omega)

theorem ev_By_c4 (A D : Nat) (s2n s3n : Bool) (s4 s5 : Bool × List Int) (hD : 0 < D) (hA : (digs 4294967296 A).length ≤ 100) (hDl : (digs 4294967296 D).length ≤ 100) : ∀ (n : Nat) (q : List Int), n ≤ 32 * (digs 4294967296 A).length → q.length = (digs 4294967296 A).length → Dg 4294967296 q → Vb 4294967296 q = ((A / 2 ^ n / D * 2 ^ n : Nat) : Int) →
    Ev (fun k => whole_Int_By_c4 k (s2n, digs 4294967296 A) (s3n, digs 4294967296 D) s4 s5 q (digs 4294967296 (A / 2 ^ n % D)) ((n : Int) - 1)) (W ((A / D : Nat) : Int), W ((A % D : Nat) : Int)) := by
  have hsmall : ∀ x : Nat, x < D → (digs 4294967296 x).length ≤ 100 := by
    intro x hx
    have h1 := Vb_lt (b := 4294967296) (by omega) (dD D)
    rw [dV] at h1
    have h2 : D < 4294967296 ^ (digs 4294967296 D).length := lt_pow_of (b := 4294967296) h1
    have h3 : (4294967296 : Nat) ^ (digs 4294967296 D).length ≤ 4294967296 ^ 100 := Nat.pow_le_pow_right (by omega) hDl
    exact digs_len (b := 4294967296) (by decide) 100 x (Nat.lt_trans hx (Nat.lt_of_lt_of_le h2 h3))
  intro n
  induction n with
  | zero =>
    intro q hle hql hqd hqv
    refine .step (fun k => whole_Int_By_c4_eq k _ _ _ _ _ _ _) (.nk (by omega) (.bind (ev_made false q (by omega) hqd) (.bind (ev_made_digs false _ ?_) (.to (.pure _) ?_))))
    · have := hsmall (A / 2 ^ 0 % D) (Nat.mod_lt _ hD)
      omega
    · rw [hqv]
      simp only [cond_false, Nat.pow_zero, Nat.mul_one, Nat.div_one]
  | succ n ih =>
    intro q hle hql hqd hqv
    have e0 : (((n + 1 : Nat) : Int) - 1) = (n : Int) := by omega
    have e1 : wi64 ((n : Int) - 1) = (n : Int) - 1 := wi64_id (by omega) (by omega)
    obtain ⟨m, hm⟩ : ∃ m, m = n / 32 := ⟨_, rfl⟩
    obtain ⟨s, hs⟩ : ∃ s, s = n % 32 := ⟨_, rfl⟩
    have hn32 : n = 32 * m + s := by omega
    have hs32 : s < 32 := by omega
    have hml : m < (digs 4294967296 A).length := by omega
    have e2 : wi64 ((n : Int).tdiv 32) = (m : Int) := by
      rw [Int.tdiv_eq_ediv_of_nonneg (by omega), wi64_id (by omega) (by omega)]
      omega
    have e3 : (n : Int).tmod 32 = (s : Int) := by
      rw [Int.tmod_eq_emod_of_nonneg (by omega)]
      omega
    have hti : ((m : Int)).toNat = m := Int.toNat_natCast m
    have ht : A / 2 ^ n % 2 < 2 := Nat.mod_lt _ (by omega)
    have hh : A / 2 ^ n = 2 * (A / 2 ^ (n + 1)) + A / 2 ^ n % 2 := by
      have h1 : A / 2 ^ (n + 1) = A / 2 ^ n / 2 := by rw [Nat.pow_succ, Nat.div_div_eq_div_mul]
      rw [h1]
      omega
    obtain ⟨d1, d2⟩ := div_step hD rfl rfl ht (h := A / 2 ^ (n + 1))
    rw [← hh] at d1 d2
    have hr := Nat.mod_lt (A / 2 ^ (n + 1)) hD
    have hrl := hsmall _ hr
    have hbit : bitsI .and .u32 (shrI .u32 ((digs 4294967296 A).getD m 0) (s : Int)) 1 = ((A / 2 ^ n % 2 : Nat) : Int) := by
      rw [shr_u32 _ rfl (by omega), digs_at (b := 4294967296) (by decide) m A]
      have hlt := Nat.mod_lt (A / 4294967296 ^ m) (show 0 < 4294967296 by omega)
      have e : ((A / 4294967296 ^ m % 4294967296 : Nat) : Int) / 2 ^ s = ((A / 4294967296 ^ m % 4294967296 / 2 ^ s : Nat) : Int) := by
        rw [Int.natCast_ediv, Int.natCast_pow]
        rfl
      have hle2 : A / 4294967296 ^ m % 4294967296 / 2 ^ s ≤ A / 4294967296 ^ m % 4294967296 := Nat.div_le_self _ _
      have hb2 := bit_at A m s hs32
      rw [e, hn32, ← hb2]
      generalize A / 4294967296 ^ m % 4294967296 / 2 ^ s = u at *
      rw [and1 rfl (by decide) (by omega) (by simp only [IntKind.bits]; omega)]
      omega
    have ih' := ih
    rw [d1, d2] at ih'
    generalize A / 2 ^ n % 2 = t at *
    generalize A / 2 ^ (n + 1) / D = Q at *
    generalize A / 2 ^ (n + 1) % D = R at *
    obtain ⟨y, p1, p2, p3, p4⟩ := ev_sum _ _ (dD R) (dD R) (by omega) (by omega)
    rw [dV] at p4
    have hy0 : 0 < y.length := by omega
    have hyd := p2.at (by omega) 0
    have hyeven : y.getD 0 0 % 2 = 0 := by
      have := Vb_digit p2 0
      rw [this, p4]
      simp
      omega
    have hor : bitsI .or .u32 (y.getD 0 0) (t : Int) = y.getD 0 0 + t := by
      have := or_add (k := .u32) (x := y.getD 0 0 / 2) (y := (t : Int)) (i := 1) rfl (by omega) (by omega) (by simp only [IntKind.bits]; omega) (by omega)
      have e : y.getD 0 0 / 2 * 2 ^ 1 = y.getD 0 0 := by omega
      rwa [e] at this
    rw [e0]
    refine .step (fun k => whole_Int_By_c4_eq k _ _ _ _ _ _ _) (.ck (by omega) (.bind p1 (.ck (by omega) ?_)))
    simp only [e2, e3, hti, e1, hbit, hor]
    refine .ck (by omega) (.ck (by omega) (.ck (by omega) (.ck (by omega) (.bind (ev_trimmed _ (by rw [List.length_set]; omega) (p2.set _ (by omega) (by omega))) ?_))))
    have hyv : (Vb 4294967296 (y.set 0 (y.getD 0 0 + t))).toNat = 2 * R + t := by
      rw [Vb_set _ _ _ _ hy0, p4]
      simp
      omega
    rw [hyv]
    have hl2 : (digs 4294967296 (2 * R + t)).length ≤ 101 := by
      have h1 := Vb_lt (b := 4294967296) (by omega) (dD R)
      rw [dV] at h1
      have h2 : R < 4294967296 ^ (digs 4294967296 R).length := lt_pow_of (b := 4294967296) h1
      have h3 : (4294967296 : Nat) ^ (digs 4294967296 R).length ≤ 4294967296 ^ 100 := Nat.pow_le_pow_right (by omega) hrl
      have h4 : (4294967296 : Nat) ^ 101 = 4294967296 ^ 100 * 4294967296 := Nat.pow_succ _ _
      have h5 : 0 < (4294967296 : Nat) ^ 100 := Nat.pow_pos (by omega)
      generalize (4294967296 : Nat) ^ 100 = P at *
      exact digs_len (b := 4294967296) (by decide) 101 _ (by rw [h4]; omega)
    obtain ⟨c, c1, c2⟩ := ev_compare (2 * R + t) D (by omega) (by omega)
    refine .bind c1 ?_
    by_cases hc : D ≤ 2 * R + t
    · rw [if_pos hc, if_pos hc] at ih'
      refine .ck (c2.2 hc) (.bind (ev_less _ _ (by omega) hc) (.ck (by omega) (.ck (by omega) (.ck (by omega) (.ck (by omega) (.ck (by omega) ?_))))))
      rw [shl1_u32 rfl hs32]
      have hqm := hqd.at (by omega) m
      have hp2 : (0 : Int) < 2 ^ s := Int.pow_pos (by omega)
      -- the digit's lower bits are free
      have hqdig := Vb_digit hqd m
      rw [hqv, Int.toNat_natCast] at hqdig
      have e1' : (4294967296 : Nat) ^ m = 2 ^ (32 * m) := by rw [show (4294967296 : Nat) = 2 ^ 32 from rfl, ← Nat.pow_mul]
      have e2' : Q * 2 ^ (n + 1) / 4294967296 ^ m = Q * 2 ^ (s + 1) := by
        rw [e1', hn32, show 32 * m + s + 1 = (s + 1) + 32 * m by omega, Nat.pow_add, ← Nat.mul_assoc]
        exact Nat.mul_div_cancel _ (Nat.pow_pos (by omega))
      have e3' : (4294967296 : Nat) = 2 ^ (31 - s) * 2 ^ (s + 1) := by rw [← Nat.pow_add, show 31 - s + (s + 1) = 32 by omega]
      have e4' : Q * 2 ^ (s + 1) % 4294967296 = (Q % 2 ^ (31 - s)) * 2 ^ (s + 1) := by rw [e3', Nat.mul_mod_mul_right]
      rw [e2', e4'] at hqdig
      have hz := Nat.mod_lt Q (show 0 < 2 ^ (31 - s) from Nat.pow_pos (by omega))
      generalize Q % 2 ^ (31 - s) = z at *
      have hzb : z * 2 ^ (s + 1) + 2 ^ s < 4294967296 := by
        have h1 : (z + 1) * 2 ^ (s + 1) ≤ 2 ^ (31 - s) * 2 ^ (s + 1) := Nat.mul_le_mul_right _ hz
        rw [← e3', Nat.add_mul, Nat.one_mul] at h1
        have h2 : (2 : Nat) ^ (s + 1) = 2 ^ s * 2 := Nat.pow_succ _ _
        have h3 : 0 < (2 : Nat) ^ s := Nat.pow_pos (by omega)
        omega
      have hor2 : bitsI .or .u32 (q.getD m 0) (2 ^ s) = q.getD m 0 + 2 ^ s := by
        have hb : (z : Int) * 2 ^ (s + 1) + 2 ^ s < 2 ^ IntKind.u32.bits := by
          have hbN : ((z * 2 ^ (s + 1) + 2 ^ s : Nat) : Int) < 4294967296 := Int.ofNat_lt.2 hzb
          rw [Int.natCast_add, Int.natCast_mul, cp2, cp2] at hbN
          exact hbN
        have hb2 : (2 : Int) ^ s < 2 ^ (s + 1) := by rw [Int.pow_succ]; omega
        have := or_add (k := .u32) (x := (z : Int)) (y := 2 ^ s) (i := s + 1) rfl (by omega) (by omega) hb hb2
        have ez : ((z * 2 ^ (s + 1) : Nat) : Int) = (z : Int) * 2 ^ (s + 1) := by rw [Int.natCast_mul, cp2]
        rw [hqdig, ez]
        exact this
      rw [hor2]
      have hup : q.getD m 0 + 2 ^ s < 4294967296 := by
        rw [hqdig, ← cp2, ← Int.natCast_add]
        exact Int.ofNat_lt.2 hzb
      refine ih' _ (by omega) (by simpa using hql) (hqd.set _ (by omega) hup) ?_
      rw [Vb_set _ _ _ _ (by omega), hqv]
      have e5 : (4294967296 : Int) ^ m * (q.getD m 0 + 2 ^ s - q.getD m 0) = ((2 ^ n : Nat) : Int) := by
        rw [show q.getD m 0 + 2 ^ s - q.getD m 0 = 2 ^ s by omega]
        have : 4294967296 ^ m * 2 ^ s = 2 ^ n := by rw [e1', hn32, Nat.pow_add]
        rw [← this, Int.natCast_mul, Int.natCast_pow, Int.natCast_pow]
        rfl
      rw [e5]
      have : Q * 2 ^ (n + 1) + 2 ^ n = (2 * Q + 1) * 2 ^ n := by rw [Nat.pow_succ, Nat.add_mul, Nat.mul_comm (2 ^ n) 2, ← Nat.mul_assoc, Nat.mul_comm Q 2, Nat.one_mul]
      rw [← this, Int.natCast_add]
    · rw [if_neg hc, if_neg hc] at ih'
      refine .nk (fun z => hc (c2.1 z)) (ih' q (by omega) hql hqd ?_)
      rw [hqv]
      have : Q * 2 ^ (n + 1) = 2 * Q * 2 ^ n := by rw [Nat.pow_succ, Nat.mul_comm (2 ^ n) 2, ← Nat.mul_assoc, Nat.mul_comm Q 2]
      rw [this]

theorem ev_By (a b : Int) (ha : Sm a) (hb : Sm b) (h0 : b ≠ 0) : Ev (fun k => whole_Int_By k (W a) (W b)) (W ((a.natAbs / b.natAbs : Nat) : Int), W ((a.natAbs % b.natAbs : Nat) : Int)) := by
  have la := ha.len
  have lb := hb.len
  have e1 : wi64 (wi64 (((W a).2.length : Int) * 32) - 1) = ((32 * (W a).2.length : Nat) : Int) - 1 := by
    rw [wi64_id (x := _ * 32) (by omega) (by omega), wi64_id (by omega) (by omega)]
    omega
  refine .step (fun k => whole_Int_By_eq k _ _) ?_
  rw [e1, Int.toNat_natCast]
  have hlt : a.natAbs < 2 ^ (32 * (W a).2.length) := by
    have h1 := Vb_lt (b := 4294967296) (by omega) (W_dg a)
    rw [W_V] at h1
    have h2 : a.natAbs < 4294967296 ^ (W a).2.length := lt_pow_of (b := 4294967296) h1
    rwa [show (4294967296 : Nat) = 2 ^ 32 from rfl, ← Nat.pow_mul] at h2
  have hz : a.natAbs / 2 ^ (32 * (W a).2.length) = 0 := Nat.div_eq_of_lt hlt
  have := ev_By_c4 a.natAbs b.natAbs (W a).1 (W b).1 (false, []) (false, []) (by omega) la lb (32 * (W a).2.length) (List.replicate (W a).2.length 0) (Nat.le_refl _) (by simp [W]) (.zeros (by omega) _) (by rw [Vb_zeros, hz]; simp)
  rw [hz, Nat.zero_mod] at this
  exact .ck (by omega) (.ck (by omega) this)

theorem ev_Odd (a : Int) : Ev (fun k => whole_Int_Odd k (W a)) (decide (a % 2 = 1)) := by
  refine .step (fun k => whole_Int_Odd_eq k _) ?_
  rcases Nat.eq_zero_or_pos a.natAbs with h | h
  · have ha : a = 0 := by omega
    subst ha
    exact .tt rfl (.tt rfl (.pure _))
  · have hd := digs_pos (b := 4294967296) (n := a.natAbs) (by decide) h
    have hm := Nat.mod_lt a.natAbs (show 0 < 4294967296 by omega)
    have hlen : 0 < ((W a).2.length : Int) := by
      show 0 < ((digs 4294967296 a.natAbs).length : Int)
      rw [hd]
      simp
    refine .tt (by simp) (.tt (by simp) (.to (.pure _) ?_))
    have : (W a).2.getD 0 0 = ((a.natAbs % 4294967296 : Nat) : Int) := by
      show (digs 4294967296 a.natAbs).getD 0 0 = _
      rw [hd]
      rfl
    rw [this, and1 rfl (by decide) (by omega) (by simp [IntKind.bits]; omega)]
    have e : decide (((W a).2.length : Int) > 0) = true := by simpa using hlen
    rw [e]
    simp only [cond_true]
    by_cases h2 : a % 2 = 1
    · simp only [h2, decide_true, beq_iff_eq]
      omega
    · simp only [h2, decide_false, beq_eq_false_iff_ne, ne_eq]
      omega
end Go.Proofs.YtegiadfbniamkaaGreatDoor.Eq
namespace Go.Proofs.YtegiadfbniamkaaGreatDoor.Eq
open Go Go.Ra
theorem awake_at (k : Nat) : interchangelaw1_awake (k + 40) = some true := by kernel_rfl
theorem ev_awake : Ev (fun k => interchangelaw1_awake k) true := .off (n := 40) awake_at
end Go.Proofs.YtegiadfbniamkaaGreatDoor.Eq
namespace Go.Proofs.YtegiadfbniamkaaGreatDoor.Eq
open Go Go.Ra
set_option linter.unusedVariables false

theorem sign_ne (a : Int) : (a.sign != 0) = decide (a ≠ 0) := by
  rcases Int.lt_trichotomy a 0 with h | h | h
  · rw [Int.sign_eq_neg_one_of_neg h]
    have : a ≠ 0 := by omega
    simp [this]
  · subst h; simp
  · rw [Int.sign_eq_one_of_pos h]
    have : a ≠ 0 := by omega
    simp [this]

end Go.Proofs.YtegiadfbniamkaaGreatDoor.Eq
namespace Go.Proofs.YtegiadfbniamkaaGreatDoor.Eq
open Go Go.Ra
set_option linter.unusedVariables false

end Go.Proofs.YtegiadfbniamkaaGreatDoor.Eq
namespace Go.Proofs.YtegiadfbniamkaaGreatDoor.Eq
open Go Go.Ra
set_option linter.unusedVariables false

/-- Is a number that lies between two taken to the outer one. -/
def upB (w : Int) (neg ge gt eq odd : Bool) : Bool := (w == 4) || ((w == 5) && neg) || ((w == 6) && !neg) || ((w == 1) && ge) || ((w == 2) && (gt || (eq && odd)))
theorem upB_eq (w : Int) (neg ge gt eq odd : Bool) : (cond (cond (cond (cond (w == 4) true (cond (w == 5) neg false)) true (cond (w == 6) (!neg) false)) true (cond (w == 1) ge false)) true (cond (w == 2) (cond gt true (cond eq (cond ((((!(cond (cond (cond (w == 4) true (cond (w == 5) neg false)) true (cond (w == 6) (!neg) false)) true (cond (w == 1) ge false))) && (w == 2)) && (!gt)) && eq) odd false) false)) false) : Bool) = upB w neg ge gt eq odd := by
  unfold upB
  generalize (w == 4) = b4
  generalize (w == 5) = b5
  generalize (w == 6) = b6
  generalize (w == 1) = b1
  generalize (w == 2) = b2
  revert b4 b5 b6 b1 b2 neg ge gt eq odd
  decide +kernel

/-- The size of a quotient, rounded. -/
def rndN (n d : Nat) (neg : Bool) (w : Int) : Nat :=
  if n % d ≠ 0 ∧ upB w neg (decide (d ≤ 2 * (n % d))) (decide (d < 2 * (n % d))) (decide (2 * (n % d) = d)) (decide (n / d % 2 = 1)) = true then n / d + 1 else n / d
def rnd (a : Int) (d : Nat) (w : Int) : Int := if a < 0 then -((rndN a.natAbs d true w : Nat) : Int) else ((rndN a.natAbs d false w : Nat) : Int)

theorem rndN_le (n d : Nat) (neg : Bool) (w : Int) : rndN n d neg w ≤ n + 1 := by
  have := Nat.div_le_self n d
  unfold rndN
  split <;> omega

theorem ev_IsWay (w : Int) : Ev (fun k => amount_IsWay k w) (decide (1 ≤ w ∧ w ≤ 6)) := by
  refine .step (fun k => amount_IsWay_eq k w) (.bind (ev_Outside w 1 6) (.to (.pure _) ?_))
  rw [← decide_not]
  exact decide_eq_decide.2 (by omega)
theorem ev_wayFault (p w : Int) : Ev (fun k => amount_wayFault k p w) (if 0 ≤ p ∧ p ≤ 9 then if 1 ≤ w ∧ w ≤ 6 then 0 else 4 else 1) := by
  refine .step (fun k => amount_wayFault_eq k p w) (.bind (ev_Outside p 0 9) ?_)
  by_cases h : 0 ≤ p ∧ p ≤ 9
  · rw [if_pos h]
    refine .nk (by omega) (.bind (ev_IsWay w) ?_)
    by_cases h2 : 1 ≤ w ∧ w ≤ 6
    · rw [if_pos h2]
      exact .ff (by simp [h2]) (.pure _)
    · rw [if_neg h2]
      exact .tt (by simp [h2]) (.pure _)
  · rw [if_neg h]
    exact .ck (by omega) (.pure _)

theorem sign_cases (x : Int) : (decide (x.sign ≥ 0) = decide (0 ≤ x)) ∧ (decide (x.sign > 0) = decide (0 < x)) ∧ ((x.sign == 0) = decide (x = 0)) ∧ (decide (x.sign < 0) = decide (x < 0)) := by
  rcases Int.lt_trichotomy x 0 with h | h | h
  · rw [Int.sign_eq_neg_one_of_neg h]
    have h1 : ¬ 0 ≤ x := by omega
    have h2 : ¬ 0 < x := by omega
    have h3 : ¬ x = 0 := by omega
    simp [h, h1, h2, h3]
  · subst h; simp
  · rw [Int.sign_eq_one_of_pos h]
    have h1 : 0 ≤ x := by omega
    have h2 : ¬ x < 0 := by omega
    have h3 : ¬ x = 0 := by omega
    simp [h, h1, h2, h3]

theorem ev_Divided (a : Int) (d : Nat) (w : Int) (ha : a.natAbs ≤ 10 ^ 100) (hd : d ≤ 10 ^ 100) (h0 : 0 < d) : Ev (fun k => amount_Divided k (W a) (W d) w) (W (rnd a d w)) := by
  have h40 : (10 : Nat) ^ 100 * 4 + 4 ≤ 10 ^ 130 := by decide
  have hq : a.natAbs / d ≤ a.natAbs := Nat.div_le_self _ _
  have hr : a.natAbs % d < d := Nat.mod_lt _ h0
  refine .step (fun k => amount_Divided_eq k _ _ w) (.bind (ev_By a d (.of (by omega)) (.of (by omega)) (by omega)) ?_)
  simp only [Int.natAbs_natCast]
  have fin : ∀ v : Nat, v ≤ 10 ^ 100 + 1 → Ev (fun k => (whole_Int_Sign k (W a)).bind fun y8 => cond (decide (y8 < 0)) ((whole_Int_Minus k (W v)).bind fun y9 => some y9) (some (W v))) (W (if a < 0 then -(v : Int) else v)) := by
    intro v hv
    refine .bind (ev_Sign a) ?_
    rw [(sign_cases a).2.2.2]
    refine .dec (fun h => ?_) (fun h => ?_)
    · rw [if_pos h]
      exact .ret (ev_Minus _ (.of (by omega))) rfl
    · rw [if_neg h]
      exact .pure _
  have hrnd : rnd a d w = if a < 0 then -((rndN a.natAbs d (decide (a < 0)) w : Nat) : Int) else ((rndN a.natAbs d (decide (a < 0)) w : Nat) : Int) := by
    unfold rnd
    by_cases h : a < 0 <;> simp [h]
  rw [hrnd]
  unfold rndN
  generalize hqe : a.natAbs / d = q at *
  generalize hre : a.natAbs % d = r at *
  refine .bind (ev_Sign _) ?_
  rw [sign_ne]
  by_cases hr0 : r = 0
  · have hcl : ¬ (r ≠ 0 ∧ upB w (decide (a < 0)) (decide (d ≤ 2 * r)) (decide (d < 2 * r)) (decide (2 * r = d)) (decide (q % 2 = 1)) = true) := fun z => z.1 hr0
    rw [if_neg hcl]
    exact .nk (by omega) (fin q (by omega))
  · refine .ck (by omega) (.bind (ev_Plus _ _ (.of (by omega)) (.of (by omega))) (.bind (ev_Compare _ _ (.of (by omega)) (.of (by omega))) (.bind (ev_Sign a) ?_)))
    obtain ⟨s1, s2, s3, _⟩ := sign_cases ((r : Int) + (r : Int) - (d : Int))
    rw [s1, s2, s3, (sign_cases a).2.2.2]
    have t1 : decide (0 ≤ (r : Int) + r - d) = decide (d ≤ 2 * r) := decide_eq_decide.2 (by omega)
    have t2 : decide (0 < (r : Int) + r - d) = decide (d < 2 * r) := decide_eq_decide.2 (by omega)
    have t3 : decide ((r : Int) + r - d = 0) = decide (2 * r = d) := decide_eq_decide.2 (by omega)
    rw [t1, t2, t3]
    have todd : decide (((q : Nat) : Int) % 2 = 1) = decide (q % 2 = 1) := decide_eq_decide.2 (by omega)
    generalize hneg : decide (a < 0) = neg
    generalize decide (d ≤ 2 * r) = ge
    generalize decide (d < 2 * r) = gt
    generalize decide (2 * r = d) = eq
    refine .bind (x := cond ((((!(cond (cond (cond (w == 4) true (cond (w == 5) neg false)) true (cond (w == 6) (!neg) false)) true (cond (w == 1) ge false))) && (w == 2)) && (!gt)) && eq) (decide (q % 2 = 1)) false) (.cond (fun h => ?_) (fun h => ?_)) ?_
    · rw [h]
      exact .to (ev_Odd _) todd
    · rw [h]
      exact .pure _
    · generalize decide (q % 2 = 1) = odd
      rw [upB_eq]
      refine .cond (fun h => ?_) (fun h => ?_)
      · have hc : r ≠ 0 ∧ upB w neg ge gt eq odd = true := ⟨hr0, h⟩
        rw [if_pos hc]
        refine .bind (ev_Of 1 (by omega) (by omega)) (.bind (ev_Plus _ _ (.of (by omega)) (.of (by decide))) ?_)
        exact fin (q + 1) (by omega)
      · have hc : ¬ (r ≠ 0 ∧ upB w neg ge gt eq odd = true) := fun z => by rw [h] at z; exact absurd z.2 (by simp)
        rw [if_neg hc]
        exact fin q (by omega)

/- the reference -/
theorem ev_rRound (a : Int) (d : Nat) (w : Int) (ha : a.natAbs < 10 ^ 100) (hd : d < 10 ^ 100) (h0 : 0 < d) : Ev (fun k => interchangeref1_Round k (N a) (N d) w) (N (rnd a d w)) := by
  have h40 : (10 : Nat) ^ 100 * 4 + 4 ≤ 10 ^ 130 := by decide
  have hq : a.natAbs / d ≤ a.natAbs := Nat.div_le_self _ _
  have hr : a.natAbs % d < d := Nat.mod_lt _ h0
  have hN : (false, (N a).2) = N ((a.natAbs : Nat) : Int) := by simp [N]
  have hNs : (N a).1 = decide (a < 0) := rfl
  refine .step (fun k => interchangeref1_Round_eq k _ _ w) ?_
  rw [hN, hNs]
  have hrnd : rnd a d w = if a < 0 then -((rndN a.natAbs d (decide (a < 0)) w : Nat) : Int) else ((rndN a.natAbs d (decide (a < 0)) w : Nat) : Int) := by
    unfold rnd
    by_cases h : a < 0 <;> simp [h]
  rw [hrnd]
  unfold rndN
  refine .bind (ev_rDivMod _ _ h0 (by omega) hd) ?_
  generalize hqe : a.natAbs / d = q at *
  generalize hre : a.natAbs % d = r at *
  have fin : ∀ v : Nat, v ≤ 10 ^ 100 + 1 → Ev (fun k => cond (decide (a < 0)) ((interchangeref1_Minus k (N v)).bind fun y6 => some y6) (some (N v))) (N (if a < 0 then -(v : Int) else v)) := by
    intro v hv
    refine .dec (fun h => ?_) (fun h => ?_)
    · rw [if_pos h]
      exact .ret (ev_rMinus _) rfl
    · rw [if_neg h]
      exact .pure _
  have up : Ev (fun k => (interchangeref1_Of k 1).bind fun y4 => (interchangeref1_Plus k (N (q : Int)) y4).bind fun y5 => cond (decide (a < 0)) ((interchangeref1_Minus k y5).bind fun y6 => some y6) (some y5)) (N (if a < 0 then -((q + 1 : Nat) : Int) else ((q + 1 : Nat) : Int))) :=
    .bind (ev_rOf 1 (by omega) (by omega)) (.bind (ev_rPlus _ _ (.of (by omega)) (.of (by decide))) (fin (q + 1) (by omega)))
  have no := fin q (by omega)
  refine .bind (ev_rOf 2 (by omega) (by omega)) (.bind (ev_rTimes _ _ (.of (by omega)) (.of (by decide))) (.bind (ev_rCmp _ _ (.of (by omega)) (.of (by omega))) ?_))
  obtain ⟨s1, s2, s3, _⟩ := sign_cases ((r : Int) * 2 - (d : Int))
  have t1 : decide (0 ≤ (r : Int) * 2 - d) = decide (d ≤ 2 * r) := decide_eq_decide.2 (by omega)
  have t2 : decide (0 < (r : Int) * 2 - d) = decide (d < 2 * r) := decide_eq_decide.2 (by omega)
  have t3 : decide ((r : Int) * 2 - d = 0) = decide (2 * r = d) := decide_eq_decide.2 (by omega)
  rw [s1, s2, s3, t1, t2, t3]
  have sr : decide (((r : Nat) : Int).sign > 0) = decide (r ≠ 0) := by
    rw [(sign_cases ((r : Nat) : Int)).2.1]
    exact decide_eq_decide.2 (by omega)
  have pick : ∀ (c : Bool), c = decide (r ≠ 0 ∧ upB w (decide (a < 0)) (decide (d ≤ 2 * r)) (decide (d < 2 * r)) (decide (2 * r = d)) (decide (q % 2 = 1)) = true) →
      Ev (fun k => cond c ((interchangeref1_Of k 1).bind fun y4 => (interchangeref1_Plus k (N (q : Int)) y4).bind fun y5 => cond (decide (a < 0)) ((interchangeref1_Minus k y5).bind fun y6 => some y6) (some y5)) (cond (decide (a < 0)) ((interchangeref1_Minus k (N (q : Int))).bind fun y6 => some y6) (some (N (q : Int))))) (N (if a < 0 then -((if r ≠ 0 ∧ upB w (decide (a < 0)) (decide (d ≤ 2 * r)) (decide (d < 2 * r)) (decide (2 * r = d)) (decide (q % 2 = 1)) = true then q + 1 else q : Nat) : Int) else ((if r ≠ 0 ∧ upB w (decide (a < 0)) (decide (d ≤ 2 * r)) (decide (d < 2 * r)) (decide (2 * r = d)) (decide (q % 2 = 1)) = true then q + 1 else q : Nat) : Int))) := by
    intro c hc
    by_cases hu : r ≠ 0 ∧ upB w (decide (a < 0)) (decide (d ≤ 2 * r)) (decide (d < 2 * r)) (decide (2 * r = d)) (decide (q % 2 = 1)) = true
    · rw [if_pos hu]
      exact .tt (by rw [hc]; simpa using hu) up
    · rw [if_neg hu]
      refine .ff (by rw [hc]; simpa using hu) no
  have rge : d ≤ 2 * r → r ≠ 0 := by omega
  have rgt : d < 2 * r → r ≠ 0 := by omega
  have req : 2 * r = d → r ≠ 0 := by omega
  by_cases w1 : w = 1
  · subst w1
    refine .tt rfl (pick _ (decide_eq_decide.2 ?_))
    simp only [upB]
    simp
    omega
  refine .ff (by simp [w1]) ?_
  by_cases w2 : w = 2
  · subst w2
    have hdig := ev_digit (digs 1000000 q) 0
    rw [digs_at (b := 1000000) (by decide) 0 q] at hdig
    refine .tt rfl (.bind (x := cond ((!(decide (d < 2 * r))) && (decide (2 * r = d))) ((q / 1000000 ^ 0 % 1000000 : Nat) : Int) 0) (.cond (fun h => ?_) (fun h => ?_)) (.tt (by simp) (pick _ ?_)))
    · rw [h]
      exact hdig
    · rw [h]
      exact .pure _
    · by_cases c1 : d < 2 * r
      · have : r ≠ 0 := rgt c1
        simp [c1, upB, this]
      · by_cases c2 : 2 * r = d
        · have hr0 : r ≠ 0 := req c2
          simp only [c1, c2, upB, hr0]
          simp
          rw [Int.tmod_eq_emod_of_nonneg (by omega)]
          by_cases hm : q % 2 = 1
          · have : (q : Int) % 1000000 % 2 = 1 := by omega
            simp [hm, this, hr0]
          · have : ¬ (q : Int) % 1000000 % 2 = 1 := by omega
            have h2 : ¬ (q : Int) % 2 = 1 := by omega
            simp [hm, this, hr0, h2]
        · simp [c1, c2, upB]
  refine .ff (by simp [w2]) ?_
  by_cases w4 : w = 4
  · subst w4
    refine .tt rfl (.bind (ev_rSign _) ?_)
    rw [sr]
    refine pick _ (decide_eq_decide.2 ?_)
    simp [upB]
  refine .ff (by simp [w4]) ?_
  by_cases w5 : w = 5
  · subst w5
    refine .tt rfl (.bind (x := cond (decide (a < 0)) ((r : Nat) : Int).sign 0) (.cond (fun h => by rw [h]; exact ev_rSign _) (fun h => by rw [h]; exact .pure _)) (pick _ ?_))
    by_cases h : a < 0
    · simp only [h, decide_true, cond_true, sr]
      exact decide_eq_decide.2 (by simp [upB])
    · simp [h, upB]
  refine .ff (by simp [w5]) ?_
  by_cases w6 : w = 6
  · subst w6
    refine .tt rfl (.bind (x := cond (!decide (a < 0)) ((r : Nat) : Int).sign 0) (.cond (fun h => by rw [h]; exact ev_rSign _) (fun h => by rw [h]; exact .pure _)) (pick _ ?_))
    by_cases h : a < 0
    · simp [h, upB]
    · simp only [h, decide_false, Bool.not_false, cond_true, sr]
      exact decide_eq_decide.2 (by simp [upB])
  refine .ff (by simp [w6]) ?_
  have hf := pick false (by simp [upB, w1, w2, w4, w5, w6])
  exact hf

theorem ev_risWay (w : Int) : Ev (fun k => interchangeref1_isWay k w) (decide (1 ≤ w ∧ w ≤ 6)) :=
  .step (fun k => interchangeref1_isWay_eq k w) (.ret (ev_within w 1 6) rfl)

end Go.Proofs.YtegiadfbniamkaaGreatDoor.Eq
namespace Go.Proofs.YtegiadfbniamkaaGreatDoor.Eq
open Go Go.Ra
set_option linter.unusedVariables false

theorem rnd_bound (a : Int) (d : Nat) (w : Int) : (rnd a d w).natAbs ≤ a.natAbs + 1 := by
  unfold rnd
  have h1 := rndN_le a.natAbs d true w
  have h2 := rndN_le a.natAbs d false w
  split <;> omega
theorem pow60 : (10 : Nat) ^ 60 ≤ 10 ^ 100 := by decide
theorem prod60 {ns : List Nat} (hB : ∀ x ∈ ns, x ≤ 1000000) (hl : ns.length ≤ 10) : ns.prod ≤ 10 ^ 60 :=
  Nat.le_trans (prod_le hB) (Nat.le_trans (Nat.pow_le_pow_right (by decide) hl) (by decide))
theorem Sr.nat {n : Nat} (h : n ≤ 10 ^ 100) : Sr (n : Int) := .of (by rw [Int.natAbs_natCast]; exact Nat.le_trans h (by decide))

theorem ev_rof {l : List UN} (hg : GoodU l) {i : Nat} (hi : i < l.length) : Ev (fun k => interchangeref1_unitOf k l (nm l i)) (i : Int) := by
  rcases ev_unitOf l (nm l i) (by have := hg.len; omega) with ⟨j, j1, j2, j3⟩ | ⟨j1, _⟩
  · rw [hg.sd.ne j1 hi j2] at j3
    exact j3
  · exact absurd rfl (j1 i hi)

theorem prod_app1 (l : List Nat) (x : Nat) : (l ++ [x]).prod = l.prod * x := by rw [List.prod_append]; simp
theorem ev_toBase {l : List UN} (hg : GoodU l) {i t : Nat} (hi : i < l.length) (hw : Way l i t) : Ev (fun k => interchangeref1_toBase k l (nm l i)) (N ((Nn l i (t + 1)).prod : Int), N ((Dn l i (t + 1)).prod : Int)) := by
  have hlen := hg.len
  have ht := hw.1
  have hin := hw.2.2.1
  have bN : ∀ c, c ≤ t + 1 → (Nn l i c).prod ≤ 10 ^ 60 := fun c hc => prod60 (fun x hx => by
    obtain ⟨k, hk, rfl⟩ := List.mem_map.1 hx
    rw [List.mem_range] at hk
    exact (num_nat hg (hin k (by omega))).2.2.2.1) (by rw [Nn_len]; omega)
  have bD : ∀ c, c ≤ t + 1 → (Dn l i c).prod ≤ 10 ^ 60 := fun c hc => prod60 (fun x hx => by
    obtain ⟨k, hk, rfl⟩ := List.mem_map.1 hx
    rw [List.mem_range] at hk
    exact (num_nat hg (hin k (by omega))).2.2.2.2.2) (by rw [Dn_len]; omega)
  have key : ∀ (m c : Nat), t + 1 - c = m → c ≤ t + 1 → Ev (fun k => interchangeref1_toBase_c4 k l (N ((Nn l i c).prod : Int)) (N ((Dn l i c).prod : Int)) (pth l i t) ((pth l i t).length : Int) (c : Int)) (N ((Nn l i (t + 1)).prod : Int), N ((Dn l i (t + 1)).prod : Int)) := by
    intro m
    induction m with
    | zero =>
      intro c hm hc
      have : c = t + 1 := by omega
      subst this
      exact .step (fun k => interchangeref1_toBase_c4_eq k _ _ _ _ _ _) (.nk (by rw [pth_len]; omega) (.pure _))
    | succ m ih =>
      intro c hm hc
      have hq := hin c (by omega)
      obtain ⟨e1, e2, n1, n2, d1, d2⟩ := num_nat hg hq
      have hp : (pth l i t).getD ((c : Int)).toNat 0 = ((sq l i c : Nat) : Int) := by rw [Int.toNat_natCast]; exact pth_at l (by omega)
      have hw' : wi64 ((c : Int) + 1) = ((c + 1 : Nat) : Int) := wj (n := 1000) (by omega) (by omega)
      have q1 : ((Nn l i c).prod : Int) * unum l (sq l i c) = ((Nn l i (c + 1)).prod : Int) := by
        rw [Nn_succ, prod_app1, e1, Int.toNat_natCast]
        push_cast
        rfl
      have q2 : ((Dn l i c).prod : Int) * uden l (sq l i c) = ((Dn l i (c + 1)).prod : Int) := by
        rw [Dn_succ, prod_app1, e2, Int.toNat_natCast]
        push_cast
        rfl
      refine .step (fun k => interchangeref1_toBase_c4_eq k _ _ _ _ _ _) (.ck (by rw [pth_len]; omega) (.ck (by omega) (.ck (by rw [pth_len]; omega) ?_)))
      rw [hp, hw', Int.toNat_natCast]
      refine .ck (by omega) (.ck (by omega) (.bind (ev_rOf (unum l (sq l i c)) (by omega) (by omega)) (.bind (ev_rTimes _ _ (.nat (Nat.le_trans (bN c (by omega)) pow60)) (.of ?_)) (.ck (by omega) (.ck (by omega) (.bind (ev_rOf (uden l (sq l i c)) (by omega) (by omega)) (.bind (ev_rTimes _ _ (.nat (Nat.le_trans (bD c (by omega)) pow60)) (.of ?_)) ?_)))))))
      · rw [e1, Int.natAbs_natCast]
        exact Nat.le_trans n2 (by decide)
      · rw [e2, Int.natAbs_natCast]
        exact Nat.le_trans d2 (by decide)
      · rw [q1, q2]
        exact ih (c + 1) (by omega) (by omega)
  refine .step (fun k => interchangeref1_toBase_eq k _ _) (.bind (ev_rOf 1 (by decide) (by decide)) (.bind (ev_rOf 1 (by decide) (by decide)) (.bind (ev_rof hg hi) (.bind hw.2.2.2.2 ?_))))
  have := key _ 0 rfl (by omega)
  exact this

theorem ev_rfactor {l : List UN} (hg : GoodU l) {i j t u : Nat} (hi : i < l.length) (hj : j < l.length) (hw : Way l i t) (hv : Way l j u) :
    Ev (fun k => interchangeref1_factor k l (nm l i) (nm l j)) (N ((Nn l i (t + 1) ++ Dn l j (u + 1)).prod : Int), N ((Dn l i (t + 1) ++ Nn l j (u + 1)).prod : Int)) := by
  have ht := hw.1
  have hu := hv.1
  have b1 := prod60 (fun x hx => (Nn_in hg hw.2.2.1 x hx).2) (by rw [Nn_len]; omega)
  have b2 := prod60 (fun x hx => (Dn_in hg hv.2.2.1 x hx).2) (by rw [Dn_len]; omega)
  have b3 := prod60 (fun x hx => (Dn_in hg hw.2.2.1 x hx).2) (by rw [Dn_len]; omega)
  have b4 := prod60 (fun x hx => (Nn_in hg hv.2.2.1 x hx).2) (by rw [Nn_len]; omega)
  refine .step (fun k => interchangeref1_factor_eq k _ _ _) (.bind (ev_toBase hg hi hw) (.bind (ev_toBase hg hj hv) (.bind (ev_rTimes _ _ (.nat (Nat.le_trans b1 pow60)) (.nat (Nat.le_trans b2 pow60))) (.bind (ev_rTimes _ _ (.nat (Nat.le_trans b3 pow60)) (.nat (Nat.le_trans b4 pow60))) (.to (.pure _) ?_)))))
  rw [List.prod_append, List.prod_append]
  push_cast
  rfl

theorem ev_rdivisor : ∀ (b a : Nat) (s4 : Bool × List Int), a < 10 ^ 100 → b < 10 ^ 100 → Ev (fun k => interchangeref1_divisor_c1 k (N (a : Int)) (N (b : Int)) s4) (N ((Nat.gcd a b : Nat) : Int)) := by
  intro b
  induction b using Nat.strongRecOn with
  | ind b ih =>
    intro a s4 ha hb'
    by_cases hb : b = 0
    · subst hb
      refine .step (fun k => interchangeref1_divisor_c1_eq k _ _ _) (.bind (ev_rSign _) (.ff rfl (.to (.pure _) ?_)))
      simp
    · refine .step (fun k => interchangeref1_divisor_c1_eq k _ _ _) (.bind (ev_rSign _) (.tt ?_ (.bind (ev_rDivMod a b (by omega) ha hb') ?_)))
      · have : ((b : Int)).sign = 1 := Int.sign_eq_one_of_pos (by omega)
        rw [this]
        rfl
      · have h := Nat.mod_lt a (show 0 < b by omega)
        have := ih (a % b) h b s4 hb' (by omega)
        rw [Nat.gcd_comm a b, Nat.gcd_rec b a, Nat.gcd_comm]
        exact this

theorem Way.is {l : List UN} {i : Nat} (hg : GoodU l) (hi : i < l.length) : ∃ t, Way l i t := by
  obtain ⟨t, ht⟩ := hg.way i hi
  exact ⟨t, ht⟩

theorem ev_ask {l : List UN} (hg : GoodU l) (hc : Ev (fun k => interchangeref1_CheckUnits k l) 0) (a b : ByteArray) :
    (¬ (has l a ∧ has l b) → Ev (fun k => interchangeref1_askUnits k l a b) 5) ∧
    (∀ i j t u, i < l.length → j < l.length → nm l i = a → nm l j = b → Way l i t → Way l j u → Ev (fun k => interchangeref1_askUnits k l a b) (if sq l i t = sq l j u then 0 else 6)) := by
  have hlen := hg.len
  refine ⟨fun h => ?_, fun i j t u hi hj ha hb hw hv => ?_⟩
  · rcases ev_unitOf l a (by omega) with ⟨i, i1, i2, i3⟩ | ⟨i1, i3⟩
    · rcases ev_unitOf l b (by omega) with ⟨j, j1, j2, j3⟩ | ⟨j1, j3⟩
      · exact absurd ⟨⟨i, i1, i2⟩, ⟨j, j1, j2⟩⟩ h
      · refine .step (fun k => interchangeref1_askUnits_eq k _ _ _) (.bind hc (.ff rfl (.bind i3 (.bind (.tt ?_ j3) (.tt ?_ (.pure _))))))
        · simp
        · rw [decide_eq_false (show ¬ (i : Int) < 0 by omega)]; rfl
    · exact .step (fun k => interchangeref1_askUnits_eq k _ _ _) (.bind hc (.ff rfl (.bind i3 (.bind (x := 0) (.ff rfl (.pure _)) (.tt rfl (.pure _))))))
  · subst ha hb
    have oi := ev_rof hg hi
    have oj := ev_rof hg hj
    have ht := hw.1
    have hu := hv.1
    have w1 : wi64 (((pth l i t).length : Int) - 1) = (t : Int) := by rw [pth_len, wi64_id (by omega) (by omega)]; omega
    have w2 : wi64 (((pth l j u).length : Int) - 1) = (u : Int) := by rw [pth_len, wi64_id (by omega) (by omega)]; omega
    have l1 := pth_len l i t
    have l2 := pth_len l j u
    refine .step (fun k => interchangeref1_askUnits_eq k _ _ _) (.bind hc (.ff rfl (.bind oi (.bind (.tt ?_ oj) (.ff ?_ (.bind oi (.bind hw.2.2.2.2 (.bind oj (.bind hv.2.2.2.2 ?_)))))))))
    · simp
    · rw [decide_eq_false (show ¬ (i : Int) < 0 by omega), decide_eq_false (show ¬ (j : Int) < 0 by omega)]; rfl
    · simp only [w1, w2, Int.toNat_natCast, pth_at l (Nat.le_refl t), pth_at l (Nat.le_refl u)]
      refine .ck (by omega) (.ck (by omega) (.ck (by omega) (.ck (by omega) ?_)))
      by_cases h : sq l i t = sq l j u
      · rw [if_pos h, h]
        exact .ff (by simp) (.pure _)
      · rw [if_neg h]
        refine .tt ?_ (.pure _)
        have : ((sq l i t : Nat) : Int) ≠ ((sq l j u : Nat) : Int) := by omega
        simpa using this

theorem ev_FactorBoth (l : List UN) (a b : ByteArray) : ∃ y, Ev (fun k => amount_Factor k l a b) y ∧ Ev (fun k => interchangeref1_Factor k l a b) y := by
  obtain ⟨y, y1, y2, y3⟩ := ev_CheckUnits l
  by_cases hy : y = 0
  · subst hy
    have hg := y3 rfl
    have ask := ev_ask hg y2 a b
    rcases ev_Factor hg y1 a b with ⟨h, f1⟩ | ⟨i, j, t, u, i1, j1, i2, j2, hw, hv, h6, h0⟩
    · exact ⟨_, f1, .step (fun k => interchangeref1_Factor_eq k _ _ _) (.bind (ask.1 h) (.tt rfl (.pure _)))⟩
    · have hask := ask.2 i j t u i1 j1 i2 j2 hw hv
      by_cases hb : sq l i t = sq l j u
      · rw [if_pos hb] at hask
        obtain ⟨N1, D1, n1, n2, n3, n4, n5⟩ := h0 hb
        refine ⟨_, n5, .step (fun k => interchangeref1_Factor_eq k _ _ _) (.bind hask (.ff rfl ?_))⟩
        have rf := ev_rfactor hg i1 j1 hw hv
        rw [i2, j2] at rf
        have ht := hw.1
        have hu := hv.1
        have bP : (Nn l i (t + 1) ++ Dn l j (u + 1)).prod ≤ 10 ^ 60 := prod60 (fun x hx => by
          rcases List.mem_append.1 hx with z | z
          · exact (Nn_in hg hw.2.2.1 x z).2
          · exact (Dn_in hg hv.2.2.1 x z).2) (by rw [List.length_append, Nn_len, Dn_len]; omega)
        have bQ : (Dn l i (t + 1) ++ Nn l j (u + 1)).prod ≤ 10 ^ 60 := prod60 (fun x hx => by
          rcases List.mem_append.1 hx with z | z
          · exact (Dn_in hg hw.2.2.1 x z).2
          · exact (Nn_in hg hv.2.2.1 x z).2) (by rw [List.length_append, Nn_len, Dn_len]; omega)
        have pP : 0 < (Nn l i (t + 1) ++ Dn l j (u + 1)).prod := prod_pos' fun x hx => by
          rcases List.mem_append.1 hx with z | z
          · exact (Nn_in hg hw.2.2.1 x z).1
          · exact (Dn_in hg hv.2.2.1 x z).1
        have pQ : 0 < (Dn l i (t + 1) ++ Nn l j (u + 1)).prod := prod_pos' fun x hx => by
          rcases List.mem_append.1 hx with z | z
          · exact (Dn_in hg hw.2.2.1 x z).1
          · exact (Nn_in hg hv.2.2.1 x z).1
        generalize (Nn l i (t + 1) ++ Dn l j (u + 1)).prod = P at *
        generalize (Dn l i (t + 1) ++ Nn l j (u + 1)).prod = Q at *
        have h61 : (10 : Nat) ^ 60 < 10 ^ 100 := by decide
        have hgpos : 0 < P.gcd Q := Nat.gcd_pos_of_pos_left _ pP
        have hgle : P.gcd Q ≤ P := Nat.gcd_le_left _ pP
        obtain ⟨e1, e2⟩ := lowest (a := N1) (b := D1) (c := P / P.gcd Q) (d := Q / P.gcd Q) (x := P) (y := Q) pP pQ n4 (by
          rw [Nat.mul_comm, ← Nat.mul_div_assoc _ (Nat.gcd_dvd_left P Q), ← Nat.mul_div_assoc _ (Nat.gcd_dvd_right P Q), Nat.mul_comm]) n3 (Nat.coprime_div_gcd_div_gcd hgpos)
        have lN : P / P.gcd Q ≤ 10 ^ 60 := Nat.le_trans (Nat.div_le_self _ _) bP
        have lD : Q / P.gcd Q ≤ 10 ^ 60 := Nat.le_trans (Nat.div_le_self _ _) bQ
        refine .bind rf (.bind (.step (fun k => interchangeref1_divisor_eq k _ _) (ev_rdivisor Q P _ (by omega) (by omega))) (.bind (ev_rDivMod P _ hgpos (by omega) (by omega)) (.bind (ev_rDivMod Q _ hgpos (by omega) (by omega)) ?_)))
        rw [← e1] at lN
        rw [← e2] at lD
        rw [← e1, ← e2]
        refine .bind (ev_rSmall _ _ (.nat (by omega)) (by decide) (by decide)) (.bind (ev_rSmall _ _ (.nat (by omega)) (by decide) (by decide)) ?_)
        rw [Int.natAbs_natCast, Int.natAbs_natCast]
        by_cases h1 : N1 ≤ 1000000000000000
        · have h1' : ((N1 : Nat) : Int) ≤ 1000000000000000 := by omega
          rw [if_pos h1']
          by_cases h2 : D1 ≤ 1000000000000000
          · have h2' : ((D1 : Nat) : Int) ≤ 1000000000000000 := by omega
            rw [if_pos h2', if_pos ⟨h1, h2⟩]
            exact .ff rfl (.pure _)
          · have h2' : ¬ ((D1 : Nat) : Int) ≤ 1000000000000000 := by omega
            rw [if_neg h2', if_neg (show ¬ (N1 ≤ 1000000000000000 ∧ D1 ≤ 1000000000000000) from fun z => h2 z.2)]
            exact .tt rfl (.pure _)
        · have h1' : ¬ ((N1 : Nat) : Int) ≤ 1000000000000000 := by omega
          rw [if_neg h1', if_neg (show ¬ (N1 ≤ 1000000000000000 ∧ D1 ≤ 1000000000000000) from fun z => h1 z.1)]
          exact .tt rfl (.pure _)
      · rw [if_neg hb] at hask
        exact ⟨_, h6 hb, .step (fun k => interchangeref1_Factor_eq k _ _ _) (.bind hask (.tt rfl (.pure _)))⟩
  · exact ⟨((0, 0), y), .step (fun k => amount_Factor_eq k _ _ _) (.bind (.step (fun k => amount_factor_eq k _ _ _) (.bind y1 (.tt (ne0 hy) (.pure _)))) (.tt (ne0 hy) (.pure _))),
      .step (fun k => interchangeref1_Factor_eq k _ _ _) (.bind (.step (fun k => interchangeref1_askUnits_eq k _ _ _) (.bind y2 (.tt (ne0 hy) (.pure _)))) (.tt (ne0 hy) (.pure _)))⟩

theorem ev_InUnitBoth (l : List UN) (d : Int × Int) (a b : ByteArray) (p w : Int) : ∃ y, Ev (fun k => amount_InUnit k l d a b p w) y ∧ Ev (fun k => interchangeref1_InUnit k l d a b p w) y := by
  obtain ⟨y, y1, y2, y3⟩ := ev_CheckUnits l
  by_cases hy : y = 0
  · subst hy
    have hg := y3 rfl
    have ask := ev_ask hg y2 a b
    rcases ev_factor hg y1 a b with ⟨h, f1⟩ | ⟨i, j, t, u, i1, j1, i2, j2, hw, hv, h6, h0⟩
    · exact ⟨((0, 0), 5), .step (fun k => amount_InUnit_eq k _ _ _ _ _ _) (.bind f1 (.tt rfl (.pure _))), .step (fun k => interchangeref1_InUnit_eq k _ _ _ _ _ _) (.bind (ask.1 h) (.tt rfl (.pure _)))⟩
    · have hask := ask.2 i j t u i1 j1 i2 j2 hw hv
      by_cases hb : sq l i t = sq l j u
      · rw [if_pos hb] at hask
        have f0 := h0 hb
        have rf := ev_rfactor hg i1 j1 hw hv
        rw [i2, j2] at rf
        have ht := hw.1
        have hu := hv.1
        have iP : ∀ x ∈ Nn l i (t + 1) ++ Dn l j (u + 1), 1 ≤ x ∧ x ≤ 1000000 := fun x hx => by
          rcases List.mem_append.1 hx with z | z
          · exact Nn_in hg hw.2.2.1 x z
          · exact Dn_in hg hv.2.2.1 x z
        have iQ : ∀ x ∈ Dn l i (t + 1) ++ Nn l j (u + 1), 1 ≤ x ∧ x ≤ 1000000 := fun x hx => by
          rcases List.mem_append.1 hx with z | z
          · exact Dn_in hg hw.2.2.1 x z
          · exact Nn_in hg hv.2.2.1 x z
        have lP : (Nn l i (t + 1) ++ Dn l j (u + 1)).length ≤ 10 := by rw [List.length_append, Nn_len, Dn_len]; omega
        have lQ : (Dn l i (t + 1) ++ Nn l j (u + 1)).length ≤ 10 := by rw [List.length_append, Nn_len, Dn_len]; omega
        generalize (Nn l i (t + 1) ++ Dn l j (u + 1)) = ps at *
        generalize (Dn l i (t + 1) ++ Nn l j (u + 1)) = qs at *
        have bP := prod60 (fun x hx => (iP x hx).2) lP
        have bQ := prod60 (fun x hx => (iQ x hx).2) lQ
        have pQ : 0 < qs.prod := prod_pos' fun x hx => (iQ x hx).1
        by_cases hd : okD d
        · by_cases hp : 0 ≤ p ∧ p ≤ 9
          · by_cases hw6 : 1 ≤ w ∧ w ≤ 6
            · obtain ⟨pn, rfl⟩ : ∃ n : Nat, p = n := ⟨p.toNat, by omega⟩
              obtain ⟨dn, hdn⟩ : ∃ n : Nat, d.2 = n := ⟨d.2.toNat, by unfold okD at hd; omega⟩
              have hd1 : d.1.natAbs ≤ 10 ^ 15 := by
                unfold okD at hd
                have : (10 : Nat) ^ 15 = 1000000000000000 := by decide
                omega
              have hdn9 : dn ≤ 9 := by unfold okD at hd; omega
              have h10p : (10 : Nat) ^ pn ≤ 10 ^ 9 := Nat.pow_le_pow_right (by decide) (by omega)
              have h10d : (10 : Nat) ^ dn ≤ 10 ^ 9 := Nat.pow_le_pow_right (by decide) hdn9
              have x1 : (d.1 * (ps.prod : Int)).natAbs ≤ 10 ^ 75 := by
                rw [Int.natAbs_mul, Int.natAbs_natCast]
                exact Nat.le_trans (Nat.mul_le_mul hd1 bP) (by decide)
              have x2 : (d.1 * (ps.prod : Int) * (10 : Int) ^ pn).natAbs ≤ 10 ^ 84 := by
                rw [Int.natAbs_mul, pow10_abs]
                exact Nat.le_trans (Nat.mul_le_mul x1 h10p) (by decide)
              have z2 : (qs.prod * 10 ^ dn) ≤ 10 ^ 69 := Nat.le_trans (Nat.mul_le_mul bQ h10d) (by decide)
              have zp : 0 < qs.prod * 10 ^ dn := Nat.mul_pos pQ (Nat.pow_pos (by decide))
              have zc : (qs.prod : Int) * (10 : Int) ^ dn = ((qs.prod * 10 ^ dn : Nat) : Int) := by push_cast; rfl
              have t1 : (10 : Nat) ^ 75 ≤ 10 ^ 130 := by decide
              have t2 : (10 : Nat) ^ 84 ≤ 10 ^ 100 := by decide
              have t2' : (10 : Nat) ^ 84 < 10 ^ 100 := by decide
              have t3 : (10 : Nat) ^ 69 ≤ 10 ^ 100 := by decide
              have t3' : (10 : Nat) ^ 69 < 10 ^ 100 := by decide
              have t4 : (10 : Nat) ^ 100 ≤ 10 ^ 130 := by decide
              have t5 : (10 : Nat) ^ 15 ≤ 10 ^ 130 := by decide
              have t6 : (10 : Nat) ^ 60 ≤ 10 ^ 130 := by decide
              refine ⟨mk (rnd (d.1 * (ps.prod : Int) * (10 : Int) ^ pn) (qs.prod * 10 ^ dn) w) pn, ?_, ?_⟩
              · refine .step (fun k => amount_InUnit_eq k _ _ _ _ _ _) (.bind f0 (.ff rfl (.bind (ev_CheckDecimal d) ?_)))
                rw [if_pos hd]
                refine .ff rfl (.bind (ev_wayFault _ w) ?_)
                rw [if_pos hp, if_pos hw6]
                refine .ff rfl (.bind (ev_Of d.1 (by unfold okD at hd; omega) (by unfold okD at hd; omega)) (.bind (ev_product ps (fun x hx => (iP x hx).2) lP) (.bind (ev_Times _ _ (.of (by omega)) (.of (by rw [Int.natAbs_natCast]; omega))) (.bind (ev_Power pn (by omega)) (.bind (ev_Times _ _ (.of (by omega)) (.pow10 (by omega))) (.bind (ev_product qs (fun x hx => (iQ x hx).2) lQ) ?_))))))
                rw [hdn]
                refine .bind (ev_Power dn (by omega)) (.bind (ev_Times _ _ (.of (by rw [Int.natAbs_natCast]; omega)) (.pow10 (by omega))) ?_)
                rw [zc]
                refine .bind (ev_Divided _ _ w (by omega) (by omega) zp) (.bind (ev_Made _ _) (.pure _))
              · refine .step (fun k => interchangeref1_InUnit_eq k _ _ _ _ _ _) (.bind hask (.ff rfl (.bind (ev_rCheck d) ?_)))
                rw [if_pos hd]
                refine .bind (.tt rfl (ev_within _ _ _)) ?_
                rw [decide_eq_true hp]
                refine .ff rfl (.bind (ev_risWay w) ?_)
                rw [decide_eq_true hw6]
                refine .ff rfl (.bind rf (.bind (ev_rOf d.1 (by unfold okD at hd; omega) (by unfold okD at hd; omega)) (.bind (ev_rTimes _ _ (.of (by omega)) (.of (by rw [Int.natAbs_natCast]; omega))) (.bind (ev_rPower pn (by omega)) (.bind (ev_rTimes _ _ (.of (by omega)) (.pow10 (by omega))) ?_)))))
                rw [hdn]
                refine .bind (ev_rPower dn (by omega)) (.bind (ev_rTimes _ _ (.of (by rw [Int.natAbs_natCast]; omega)) (.pow10 (by omega))) ?_)
                rw [zc]
                refine .bind (ev_rRound _ _ w (by omega) (by omega) zp) (.bind (ev_rdecimal _ _ (.of ?_)) (.pure _))
                have := rnd_bound (d.1 * (ps.prod : Int) * (10 : Int) ^ pn) (qs.prod * 10 ^ dn) w
                have t7 : (10 : Nat) ^ 84 + 1 ≤ 10 ^ 130 := by decide
                omega
            · refine ⟨((0, 0), 4), .step (fun k => amount_InUnit_eq k _ _ _ _ _ _) (.bind f0 (.ff rfl (.bind (ev_CheckDecimal d) ?_))), .step (fun k => interchangeref1_InUnit_eq k _ _ _ _ _ _) (.bind hask (.ff rfl (.bind (ev_rCheck d) ?_)))⟩
              · rw [if_pos hd]
                refine .ff rfl (.bind (ev_wayFault _ w) ?_)
                rw [if_pos hp, if_neg hw6]
                exact .tt rfl (.pure _)
              · rw [if_pos hd]
                refine .bind (.tt rfl (ev_within _ _ _)) ?_
                rw [decide_eq_true hp]
                refine .ff rfl (.bind (ev_risWay w) ?_)
                rw [decide_eq_false hw6]
                exact .tt rfl (.pure _)
          · refine ⟨((0, 0), 1), .step (fun k => amount_InUnit_eq k _ _ _ _ _ _) (.bind f0 (.ff rfl (.bind (ev_CheckDecimal d) ?_))), .step (fun k => interchangeref1_InUnit_eq k _ _ _ _ _ _) (.bind hask (.ff rfl (.bind (ev_rCheck d) ?_)))⟩
            · rw [if_pos hd]
              refine .ff rfl (.bind (ev_wayFault _ w) ?_)
              rw [if_neg hp]
              exact .tt rfl (.pure _)
            · rw [if_pos hd]
              refine .bind (.tt rfl (ev_within _ _ _)) ?_
              rw [decide_eq_false hp]
              exact .tt rfl (.pure _)
        · refine ⟨((0, 0), 1), .step (fun k => amount_InUnit_eq k _ _ _ _ _ _) (.bind f0 (.ff rfl (.bind (ev_CheckDecimal d) ?_))), .step (fun k => interchangeref1_InUnit_eq k _ _ _ _ _ _) (.bind hask (.ff rfl (.bind (ev_rCheck d) ?_)))⟩
          · rw [if_neg hd]
            exact .tt rfl (.pure _)
          · rw [if_neg hd]
            exact .bind (x := false) (.ff rfl (.pure _)) (.tt rfl (.pure _))
      · rw [if_neg hb] at hask
        exact ⟨((0, 0), 6), .step (fun k => amount_InUnit_eq k _ _ _ _ _ _) (.bind (h6 hb) (.tt rfl (.pure _))), .step (fun k => interchangeref1_InUnit_eq k _ _ _ _ _ _) (.bind hask (.tt rfl (.pure _)))⟩
  · exact ⟨((0, 0), y), .step (fun k => amount_InUnit_eq k _ _ _ _ _ _) (.bind (.step (fun k => amount_factor_eq k _ _ _) (.bind y1 (.tt (ne0 hy) (.pure _)))) (.tt (ne0 hy) (.pure _))),
      .step (fun k => interchangeref1_InUnit_eq k _ _ _ _ _ _) (.bind (.step (fun k => interchangeref1_askUnits_eq k _ _ _) (.bind y2 (.tt (ne0 hy) (.pure _)))) (.tt (ne0 hy) (.pure _)))⟩

theorem ev_law_units (l : List UN) (d : Int × Int) (a b : ByteArray) (p w : Int) : Ev (fun k => interchangelaw1_AmountUnitsMatchSpec k l d a b p w) true := by
  obtain ⟨x, x1, x2⟩ := ev_FactorBoth l a b
  obtain ⟨y, y1, y2, _⟩ := ev_CheckUnits l
  obtain ⟨z, z1, z2⟩ := ev_InUnitBoth l d a b p w
  exact .step (fun k => interchangelaw1_AmountUnitsMatchSpec_eq k _ _ _ _ _ _) (.bind x2 (.bind x1 (.bind y2 (.bind y1 (.ff (by simp) (.bind z2 (.bind z1 (.bind (.tt (by simp) ev_awake) (.to (.pure _) (by simp))))))))))
end Go.Proofs.YtegiadfbniamkaaGreatDoor.Eq
