import Derived.Test.YtoiahmmockgcbaaRaRef
/- The reference's whole numbers: products, powers, quotients. -/
namespace Go.Proofs.Ytoiahmmockgcbaa.Eq
open Go Go.Ra
set_option linter.unusedVariables false

/- products -/
theorem mul_bound {x y : Int} (hx : 0 ≤ x) (hx2 : x ≤ 999999) (hy : 0 ≤ y) (hy2 : y ≤ 999999) : 0 ≤ x * y ∧ x * y ≤ 999998000001 :=
  ⟨Int.mul_nonneg hx hy, Int.le_trans (Int.mul_le_mul_of_nonneg_right hx2 hy) (Int.mul_le_mul_of_nonneg_left (c := 999999) hy2 (by omega))⟩

theorem ev_rTimes_c6 (b s4 : Bool × List Int) (hb : Dg 1000000 b.2) (s : Bool) (x : Int) (hx : 0 ≤ x) (hx2 : x < 1000000) (i : Nat) (hlen : i + b.2.length < 1099511627776) (s27 : List Int) (s28 s29 : Int) : ∀ (m j : Nat) (out : List Int), b.2.length - j = m → j ≤ b.2.length → i + b.2.length + 1 ≤ out.length → out.length < 1099511627776 →
    (∀ p, 0 ≤ out.getD p 0 ∧ out.getD p 0 ≤ (if p = i + j ∧ j ≠ 0 then 1999998 else 999999)) → (∀ p, i + b.2.length ≤ p → p ≠ i + j → out.getD p 0 = 0) → (j = b.2.length → out.getD (i + j) 0 ≤ 999999) → (j ≠ b.2.length → out.getD (i + b.2.length) 0 = 0) →
    ∃ out2, out2.length = out.length ∧ (∀ p, 0 ≤ out2.getD p 0 ∧ out2.getD p 0 ≤ 999999) ∧ (∀ p, i + b.2.length + 1 ≤ p → out2.getD p 0 = 0) ∧ Vb 1000000 out2 = Vb 1000000 out + 1000000 ^ (i + j) * (x * Vb 1000000 (b.2.drop j)) ∧
      ∀ y, Ev (fun k => interchangeref1_TimesOf_c3 k b s4 (s, out2) s27 s28 (wi64 (s29 + 1))) y → Ev (fun k => interchangeref1_TimesOf_c6 k b s4 (s, out) (i : Int) x s27 s28 s29 b.2 (b.2.length : Int) (j : Int)) y := by
  intro m
  induction m with
  | zero =>
    intro j out hm hj hol hol2 hd hz hend _
    have hj' : j = b.2.length := by omega
    subst hj'
    refine ⟨out, rfl, fun p => ?_, fun p hp => hz p (by omega) (by omega), ?_, fun y hy => .step (fun k => interchangeref1_TimesOf_c6_eq k _ _ _ _ _ _ _ _ _ _ _) (.nk (by omega) hy)⟩
    · have := hd p
      by_cases h : p = i + b.2.length
      · subst h
        exact ⟨this.1, hend rfl⟩
      · rw [if_neg (by omega)] at this
        exact this
    · rw [List.drop_length]
      simp [Vb]
  | succ m ih =>
    intro j out hm hj hol hol2 hd hz hend hne
    have hlt : j < b.2.length := by omega
    have hy := hb.at (by omega) j
    have hti : ((j : Int)).toNat = j := Int.toNat_natCast j
    have ho := hd (i + j)
    have ho2 : out.getD (i + j) 0 ≤ 1999998 := by
      have := ho.2
      split at this <;> omega
    have hn1 := hd (i + j + 1)
    rw [if_neg (by omega)] at hn1
    have e1 : wi64 ((i : Int) + (j : Int)) = ((i + j : Nat) : Int) := by rw [wi64_id (by omega) (by omega)]; rfl
    have e2 : wi64 (((i + j : Nat) : Int) + 1) = ((i + j + 1 : Nat) : Int) := rwi_succ (by omega)
    have e3 : wi64 ((j : Int) + 1) = ((j + 1 : Nat) : Int) := rwi_succ (by omega)
    rw [drop_consI hlt]
    have hmb := mul_bound (x := x) (y := b.2.getD j 0) hx (by omega) hy.1 (by omega)
    obtain ⟨v, hv⟩ : ∃ v, v = out.getD (i + j) 0 + x * b.2.getD j 0 := ⟨_, rfl⟩
    have hv0 : 0 ≤ v := by omega
    have hv2 : v ≤ 999999999999 := by omega
    have h1 : i + j < out.length := by omega
    have h2 : i + j + 1 < out.length := by omega
    obtain ⟨out3, ho3⟩ : ∃ o, o = ((out.set (i + j) v).set (i + j + 1) (out.getD (i + j + 1) 0 + v / 1000000)).set (i + j) (v % 1000000) := ⟨_, rfl⟩
    have g3 : ∀ p, out3.getD p 0 = if p = i + j then v % 1000000 else if p = i + j + 1 then out.getD (i + j + 1) 0 + v / 1000000 else out.getD p 0 := by
      intro p
      rw [ho3]
      split
      · rename_i h
        rw [h, lset_eq _ _ _ (by simpa using h1)]
      · rename_i h
        rw [lset_ne _ _ (by omega)]
        split
        · rename_i h'
          rw [h', lset_eq _ _ _ (by simpa using h2)]
        · rename_i h'
          rw [lset_ne _ _ (by omega), lset_ne _ _ (by omega)]
    have hval : Vb 1000000 out3 = Vb 1000000 out + 1000000 ^ (i + j) * (x * b.2.getD j 0) := by
      rw [ho3, Vb_set _ _ _ _ (by simpa using h1), Vb_set _ _ _ _ (by simpa using h2), Vb_set _ _ _ _ h1, lset_ne _ _ (by omega), lset_ne _ _ (by omega), lset_eq _ _ _ h1, Int.pow_succ]
      generalize (1000000 : Int) ^ (i + j) = P
      have t1 : P * 1000000 * (out.getD (i + j + 1) 0 + v / 1000000 - out.getD (i + j + 1) 0) = P * (1000000 * (v / 1000000)) := by
        rw [Int.mul_assoc]
        congr 2
        omega
      rw [t1, Int.add_assoc, Int.add_assoc, ← Int.mul_add, ← Int.mul_add]
      congr 2
      omega
    obtain ⟨out2, q1, q2, q3, q4, q5⟩ := ih (j + 1) out3 (by omega) (by omega) (by rw [ho3]; simpa using hol) (by rw [ho3]; simpa using hol2) (fun p => by
      rw [g3]
      have := hd p
      split
      · rename_i h
        rw [if_neg (by omega)]
        omega
      · split
        · rename_i h'
          rw [if_pos (by omega)]
          omega
        · rename_i h h'
          rw [if_neg (by omega)] at this
          rw [if_neg (by omega)]
          exact this) (fun p hp hp2 => by
      rw [g3, if_neg (by omega), if_neg (by omega)]
      exact hz p hp (by omega)) (fun h => by
      have hz' := hne (by omega)
      rw [g3, if_neg (by omega), if_pos (by omega)]
      have e : i + j + 1 = i + b.2.length := by omega
      rw [e, hz']
      omega) (fun h => by
      rw [g3, if_neg (by omega), if_neg (by omega)]
      exact hne (by omega))
    refine ⟨out2, by rw [q1, ho3]; simp, q2, q3, ?_, fun z hz' => ?_⟩
    · rw [q4, hval, ← Nat.add_assoc, Int.pow_succ, Int.add_assoc, rpow_step]
      congr 2
      simp only [Vb]
      rw [Int.mul_add, Int.mul_left_comm]
    · refine .step (fun k => interchangeref1_TimesOf_c6_eq k _ _ _ _ _ _ _ _ _ _ _) (.ck (by omega) (.ck (by omega) (.ck (by omega) ?_)))
      have ev1 : wi64 (out.getD (i + j) 0 + wi64 (x * b.2.getD j 0)) = v := by
        rw [wi64_id (x := x * _) (by omega) (by omega), wi64_id (by omega) (by omega), hv]
      have ev2 : wi64 (v.tdiv 1000000) = v / 1000000 := by
        rw [Int.tdiv_eq_ediv_of_nonneg hv0, wi64_id (by omega) (by omega)]
      have ev3 : wi64 (out.getD (i + j + 1) 0 + v / 1000000) = out.getD (i + j + 1) 0 + v / 1000000 := wi64_id (by omega) (by omega)
      simp only [e1, e2, hti, Int.toNat_natCast, ev1, List.length_set]
      rw [lset_eq _ _ _ h1, lset_ne _ _ (show i + j ≠ i + j + 1 by omega), ev2, ev3]
      rw [lset_ne _ _ (show i + j + 1 ≠ i + j by omega), lset_eq _ _ _ h1, Int.tmod_eq_emod_of_nonneg hv0, e3, ← ho3]
      exact .ck (by omega) (.ck (by omega) (.ck (by omega) (.ck (by omega) (.ck (by omega) (.ck (by omega) (.ck (by omega) (.ck (by omega) (.ck (by omega) (.ck (by omega) (.ck (by omega) (.ck (by omega) (.ck (by omega) (.ck (by omega) (q5 z hz'))))))))))))))

theorem dg_of {l : List Int} (h : ∀ p, 0 ≤ l.getD p 0 ∧ l.getD p 0 ≤ 999999) : Dg 1000000 l := by
  intro d hd
  obtain ⟨i, hi, rfl⟩ := List.mem_iff_getElem.1 hd
  have := h i
  rw [List.getD_eq_getElem?_getD, List.getElem?_eq_getElem hi] at this
  simp only [Option.getD_some] at this
  omega

theorem set_same (l : List Int) (i : Nat) : l.set i (l.getD i 0) = l := by
  by_cases h : i < l.length
  · rw [List.getD_eq_getElem?_getD, List.getElem?_eq_getElem h]
    exact List.set_getElem_self h
  · exact List.set_eq_of_length_le (by omega)

theorem ev_rTimes_c14 (s4 : Bool × List Int) (s : Bool) (out : List Int) (hd : ∀ p, 0 ≤ out.getD p 0 ∧ out.getD p 0 ≤ 999999) (hn : out.length < 1099511627776) (h0 : 0 < out.length) : ∀ (m i : Nat), out.length - 1 - i = m → i ≤ out.length - 1 →
    Ev (fun k => interchangeref1_TimesOf_c14 k s4 (s, out) ((out.length : Int) - 1) (i : Int)) (N (cond s (-(Vb 1000000 out)) (Vb 1000000 out))) := by
  intro m
  induction m with
  | zero =>
    intro i hm hi
    exact .step (fun k => interchangeref1_TimesOf_c14_eq k _ _ _ _) (.nk (by omega) (.ret (ev_rtrim s out (by omega) (dg_of hd)) rfl))
  | succ m ih =>
    intro i hm hi
    have e1 : wi64 ((i : Int) + 1) = ((i + 1 : Nat) : Int) := rwi_succ (by omega)
    have h1 := hd i
    have h2 := hd (i + 1)
    have ev1 : wi64 ((out.getD i 0).tdiv 1000000) = 0 := by
      rw [Int.tdiv_eq_ediv_of_nonneg h1.1, wi64_id (by omega) (by omega)]
      omega
    have ev2 : wi64 (out.getD (i + 1) 0 + 0) = out.getD (i + 1) 0 := by rw [wi64_id (by omega) (by omega)]; omega
    have ev3 : (out.getD i 0).tmod 1000000 = out.getD i 0 := by rw [Int.tmod_eq_emod_of_nonneg h1.1]; omega
    refine .step (fun k => interchangeref1_TimesOf_c14_eq k _ _ _ _) (.ck (by omega) ?_)
    simp only [e1, Int.toNat_natCast, ev1, ev2, set_same, ev3]
    exact .ck (by omega) (.ck (by omega) (.ck (by omega) (.ck (by omega) (.ck (by omega) (.ck (by omega) (.ck (by omega) (.ck (by omega) (.ck (by omega) (.ck (by omega) (ih (i + 1) (by omega) (by omega)))))))))))

theorem ev_rTimes_c3 (a b s4 : Bool × List Int) (ha : Dg 1000000 a.2) (hb : Dg 1000000 b.2) (s : Bool) (hlen : a.2.length + b.2.length < 549755813888) : ∀ (m i : Nat) (out : List Int), a.2.length - i = m → i ≤ a.2.length → out.length = a.2.length + b.2.length + 1 → (∀ p, 0 ≤ out.getD p 0 ∧ out.getD p 0 ≤ 999999) → (∀ p, i + b.2.length ≤ p → out.getD p 0 = 0) →
    Ev (fun k => interchangeref1_TimesOf_c3 k b s4 (s, out) a.2 (a.2.length : Int) (i : Int)) (N (cond s (-(Vb 1000000 out + 1000000 ^ i * (Vb 1000000 (a.2.drop i) * Vb 1000000 b.2))) (Vb 1000000 out + 1000000 ^ i * (Vb 1000000 (a.2.drop i) * Vb 1000000 b.2)))) := by
  intro m
  induction m with
  | zero =>
    intro i out hm hi hol hd hz
    have hi' : i = a.2.length := by omega
    subst hi'
    have e1 : wi64 ((out.length : Int) - 1) = (out.length : Int) - 1 := wi64_id (by omega) (by omega)
    refine .step (fun k => interchangeref1_TimesOf_c3_eq k _ _ _ _ _ _) (.nk (by omega) ?_)
    simp only [e1]
    refine .to (ev_rTimes_c14 s4 s out hd (by omega) (by omega) _ 0 rfl (by omega)) ?_
    rw [List.drop_length]
    simp [Vb]
  | succ m ih =>
    intro i out hm hi hol hd hz
    have hlt : i < a.2.length := by omega
    have hx := ha.at (by omega) i
    have hti : ((i : Int)).toNat = i := Int.toNat_natCast i
    obtain ⟨out2, q1, q2, q3, q4, q5⟩ := ev_rTimes_c6 b s4 hb s (a.2.getD i 0) hx.1 hx.2 i (by omega) a.2 (a.2.length : Int) (i : Int) _ 0 out rfl (by omega) (by omega) (by omega) (fun p => by have := hd p; rw [if_neg (by omega)]; exact this) (fun p hp _ => hz p hp) (fun h => by have := hd (i + 0); omega) (fun h => hz _ (by omega))
    refine .step (fun k => interchangeref1_TimesOf_c3_eq k _ _ _ _ _ _) (.ck (by omega) (.ck (by omega) (.ck (by omega) ?_)))
    rw [hti]
    refine q5 _ ?_
    rw [rwi_succ (by omega)]
    refine .to (ih (i + 1) out2 (by omega) (by omega) (by omega) q2 (fun p hp => q3 p (by omega))) ?_
    have hv : Vb 1000000 out2 + 1000000 ^ (i + 1) * (Vb 1000000 (a.2.drop (i + 1)) * Vb 1000000 b.2) = Vb 1000000 out + 1000000 ^ i * (Vb 1000000 (a.2.drop i) * Vb 1000000 b.2) := by
      rw [q4, drop_consI hlt, Int.pow_succ]
      simp only [Vb, Nat.add_zero, List.drop_zero]
      rw [Int.add_assoc, rpow_step, Int.add_mul, Int.mul_assoc]
    rw [hv]

theorem ev_rTimes (a b : Int) (ha : Sr a) (hb : Sr b) : Ev (fun k => interchangeref1_TimesOf k (N a) (N b)) (N (a * b)) := by
  have la := ha.len
  have lb := hb.len
  have e1 : wi64 (wi64 (((N a).2.length : Int) + ((N b).2.length : Int)) + 1) = (((N a).2.length + (N b).2.length + 1 : Nat) : Int) := by rw [wi64_id (x := ((N a).2.length : Int) + ((N b).2.length : Int)) (by omega) (by omega), wi64_id (by omega) (by omega)]; rfl
  refine .step (fun k => interchangeref1_TimesOf_eq k _ _) ?_
  rw [e1, Int.toNat_natCast]
  refine .ck (by omega) (.ck (by omega) (.to (ev_rTimes_c3 (N a) (N b) (false, []) (N_dg a) (N_dg b) _ (by omega) _ 0 _ rfl (by omega) (by simp) (fun p => by rw [getD_zeros]; omega) (fun p _ => getD_zeros _ p)) ?_))
  rw [Vb_zeros]
  simp only [List.drop_zero, N_V, N_neg]
  congr 1
  have hn : ((a.natAbs : Int) * (b.natAbs : Int)) = ((a * b).natAbs : Int) := by rw [Int.natAbs_mul]; push_cast; rfl
  rw [hn]
  simp only [Int.pow_zero, Int.one_mul, Int.zero_add]
  by_cases h1 : a < 0
  · by_cases h2 : b < 0
    · have := Int.mul_pos_of_neg_of_neg h1 h2
      simp [h1, h2]
      omega
    · have : a * b ≤ 0 := Int.mul_nonpos_of_nonpos_of_nonneg (by omega) (by omega)
      simp [h1, h2]
      omega
  · by_cases h2 : b < 0
    · have : a * b ≤ 0 := Int.mul_nonpos_of_nonneg_of_nonpos (by omega) (by omega)
      simp [h1, h2]
      omega
    · have : 0 ≤ a * b := Int.mul_nonneg (by omega) (by omega)
      simp [h1, h2]
      omega

theorem rpow10_abs (n : Nat) : ((10 : Int) ^ n).natAbs = 10 ^ n := by rw [Int.natAbs_pow]; rfl
theorem ev_rPower_c3 (s2 : Bool × List Int) (n : Nat) (hn : n ≤ 60) : ∀ (m i : Nat), n - i = m → i ≤ n → Ev (fun k => interchangeref1_Power_c3 k s2 (N (10 ^ i)) (n : Int) (i : Int)) (N (10 ^ n)) := by
  intro m
  induction m with
  | zero =>
    intro i hm hi
    have hi' : i = n := by omega
    subst hi'
    exact .step (fun k => interchangeref1_Power_c3_eq k _ _ _ _) (.nk (by omega) (.pure _))
  | succ m ih =>
    intro i hm hi
    refine .step (fun k => interchangeref1_Power_c3_eq k _ _ _ _) (.ck (by omega) (.bind (ev_rOf 10 (by omega) (by omega)) (.bind (ev_rTimes (10 ^ i) 10 (.of ?_) (.of (by decide))) ?_)))
    · rw [rpow10_abs]
      exact Nat.pow_le_pow_right (by omega) (by omega)
    · rw [rwi_succ (by omega), ← Int.pow_succ]
      exact ih (i + 1) (by omega) (by omega)
theorem ev_rPower (n : Nat) (hn : n ≤ 60) : Ev (fun k => interchangeref1_Power k (n : Int)) (N (10 ^ n)) :=
  .step (fun k => interchangeref1_Power_eq k _) (.bind (ev_rOf 1 (by omega) (by omega)) (ev_rPower_c3 _ n hn _ 0 rfl (by omega)))

/- as an int -/
theorem ev_rSmall_c5 (s : Bool) (l : List Int) (hd : Dg 1000000 l) (hv : Vb 1000000 l < 4611686018427387904) (hn : l.length < 1000) : ∀ (n : Nat), n ≤ l.length →
    Ev (fun k => interchangeref1_Small_c5 k (s, l) (Vb 1000000 (l.drop n)) ((n : Int) - 1)) (cond s (-(Vb 1000000 l)) (Vb 1000000 l), true) := by
  intro n
  induction n with
  | zero =>
    intro _
    have h0 := Vb_nonneg (b := 1000000) (by omega) hd
    refine .step (fun k => interchangeref1_Small_c5_eq k _ _ _) (.nk (by omega) (.cond (fun h => ?_) (fun h => ?_)))
    · simp only at h
      rw [List.drop_zero, wi64_id (by omega) (by omega), h]
      exact .to (.pure _) (by simp)
    · simp only at h
      rw [h]
      exact .pure _
  | succ n ih =>
    intro hle
    have hlt : n < l.length := by omega
    have hx := hd.at (by omega) n
    have e0 : (((n + 1 : Nat) : Int) - 1) = (n : Int) := by omega
    have hti : ((n : Int)).toNat = n := Int.toNat_natCast n
    have e1 : wi64 ((n : Int) - 1) = (n : Int) - 1 := wi64_id (by omega) (by omega)
    have hdr : ∀ i, 0 ≤ Vb 1000000 (l.drop i) ∧ Vb 1000000 (l.drop i) ≤ Vb 1000000 l := by
      intro i
      have h1 := Vb_nonneg (b := 1000000) (by omega) (hd.drop i)
      have h2 := Vb_append 1000000 (l.take i) (l.drop i)
      rw [List.take_append_drop] at h2
      have h3 := Vb_nonneg (b := 1000000) (by omega) (hd.take i)
      have h4 : (1 : Int) ≤ 1000000 ^ (l.take i).length := by
        have : (0 : Int) < 1000000 ^ (l.take i).length := Int.pow_pos (by omega)
        omega
      have h5 : Vb 1000000 (l.drop i) ≤ 1000000 ^ (l.take i).length * Vb 1000000 (l.drop i) := by
        have := Int.mul_le_mul_of_nonneg_right h4 h1
        rwa [Int.one_mul] at this
      omega
    have hV := hdr n
    have hV1 := hdr (n + 1)
    have hs := Vdrop (l := l) n
    have et : wi64 (wi64 (Vb 1000000 (l.drop (n + 1)) * 1000000) + l.getD n 0) = Vb 1000000 (l.drop n) := by
      rw [wi64_id (x := _ * _) (by omega) (by omega), wi64_id (by omega) (by omega)]
      omega
    rw [e0]
    refine .step (fun k => interchangeref1_Small_c5_eq k _ _ _) (.ck (by omega) (.ck (by omega) (.ck (by simp only; omega) ?_)))
    simp only [hti, et, e1]
    exact ih (by omega)

theorem ev_rSmall (a most : Int) (ha : Sr a) (hm : 0 ≤ most) (hm2 : most < 4611686018427387904) : Ev (fun k => interchangeref1_Small k (N a) most) (if a.natAbs ≤ most then (a, true) else (0, false)) := by
  have la := ha.len
  have hml : (digs 1000000 most.natAbs).length ≤ 4 := digs_len (b := 1000000) (by decide) 4 _ (by omega)
  obtain ⟨r, q1, q2, q3⟩ := ev_sizes a.natAbs most.natAbs (show (N a).2.length < _ by omega) (by omega)
  refine .step (fun k => interchangeref1_Small_eq k _ _) (.bind (ev_rOf most (by omega) (by omega)) (.bind q1 ?_))
  by_cases h : a.natAbs ≤ most
  · rw [if_pos h]
    refine .nk (by intro z; have := q3.1 z; omega) ?_
    have e1 : wi64 (((N a).2.length : Int) - 1) = ((N a).2.length : Int) - 1 := wi64_id (by omega) (by omega)
    rw [e1]
    have := ev_rSmall_c5 (N a).1 (N a).2 (N_dg a) (by rw [N_V]; omega) (by omega) (N a).2.length (Nat.le_refl _)
    rw [List.drop_length] at this
    refine .to this ?_
    rw [N_V, N_neg]
    congr 1
    by_cases h0 : a < 0
    · simp [h0]; omega
    · simp [h0]; omega
  · rw [if_neg h]
    exact .ck (q3.2 (by omega)) (.pure _)

/- long division -/
theorem ev_rhalf_c4 (a : Nat) (s2 : Bool × List Int) (hn : (digs 1000000 a).length < 1000) : ∀ (n : Nat) (out : List Int) (r : Int), n ≤ (digs 1000000 a).length → out.length = (digs 1000000 a).length → Dg 1000000 out → 0 ≤ r → r ≤ 1 → (∀ p, p < n → out.getD p 0 = 0) →
    2 * Vb 1000000 out + 1000000 ^ n * r + Vb 1000000 ((digs 1000000 a).take n) = a →
    Ev (fun k => interchangeref1_half_c4 k (false, digs 1000000 a) s2 (false, out) r ((n : Int) - 1)) (N ((a / 2 : Nat) : Int), ((a % 2 : Nat) : Int)) := by
  intro n
  induction n with
  | zero =>
    intro out r hle hol hd hr hr1 hz hv
    simp only [List.take_zero, Vb, Int.pow_zero] at hv
    have h0 := Vb_nonneg (b := 1000000) (by omega) hd
    refine .step (fun k => interchangeref1_half_c4_eq k _ _ _ _ _) (.nk (by omega) (.bind (ev_rtrim false out (by omega) hd) (.to (.pure _) ?_)))
    simp only [cond_false]
    refine Prod.ext ?_ ?_
    · simp only
      congr 1
      omega
    · simp only
      omega
  | succ n ih =>
    intro out r hle hol hd hr hr1 hz hv
    have hlt : n < (digs 1000000 a).length := by omega
    have hx := (rD a).at (by omega) n
    have e0 : (((n + 1 : Nat) : Int) - 1) = (n : Int) := by omega
    have hti : ((n : Int)).toNat = n := Int.toNat_natCast n
    have e1 : wi64 ((n : Int) - 1) = (n : Int) - 1 := wi64_id (by omega) (by omega)
    have htk : Vb 1000000 ((digs 1000000 a).take (n + 1)) = Vb 1000000 ((digs 1000000 a).take n) + 1000000 ^ n * (digs 1000000 a).getD n 0 := by
      rw [List.take_add_one, Vb_append, List.length_take, Nat.min_eq_left (by omega), List.getElem?_eq_getElem hlt, List.getD_eq_getElem?_getD, List.getElem?_eq_getElem hlt]
      simp [Vb]
    rw [htk, Int.pow_succ] at hv
    rw [e0]
    generalize hxe : (digs 1000000 a).getD n 0 = x at *
    have et : wi64 (wi64 (r * 1000000) + x) = r * 1000000 + x := by rw [wi64_id (x := r * 1000000) (by omega) (by omega), wi64_id (by omega) (by omega)]
    have et2 : wi64 ((r * 1000000 + x).tdiv 2) = (r * 1000000 + x) / 2 := by rw [Int.tdiv_eq_ediv_of_nonneg (by omega), wi64_id (by omega) (by omega)]
    refine .step (fun k => interchangeref1_half_c4_eq k _ _ _ _ _) (.ck (by omega) (.ck (by omega) (.ck (by simp only; omega) (.ck (by omega) (.ck (by simp only; omega) ?_)))))
    have hz0 := hz n (by omega)
    simp only [hti, hxe, et, et2, e1]
    rw [Int.tmod_eq_emod_of_nonneg (by omega)]
    refine ih _ _ (by omega) (by simpa using hol) (hd.set _ (by omega) (by omega)) (by omega) (by omega) (fun p hp => by rw [lset_ne _ _ (by omega)]; exact hz p (by omega)) ?_
    rw [Vb_set _ _ _ _ (by omega), hz0, ← hv]
    generalize (1000000 : Int) ^ n = P
    rw [Int.mul_add, Int.mul_left_comm, Int.mul_assoc P]
    have : P * (2 * ((r * 1000000 + x) / 2 - 0)) + P * ((r * 1000000 + x) % 2) = P * (1000000 * r) + P * x := by
      rw [← Int.mul_add, ← Int.mul_add]
      congr 1
      omega
    omega

theorem ev_rhalf (a : Nat) (ha : Sr a) : Ev (fun k => interchangeref1_half k (N a)) (N ((a / 2 : Nat) : Int), ((a % 2 : Nat) : Int)) := by
  have la := ha.len
  have hN : N (a : Int) = (false, digs 1000000 a) := by simp [N]
  rw [hN] at la ⊢
  simp only at la
  have e1 : wi64 (((digs 1000000 a).length : Int) - 1) = ((digs 1000000 a).length : Int) - 1 := wi64_id (by omega) (by omega)
  refine .step (fun k => interchangeref1_half_eq k _) ?_
  simp only [e1, Int.toNat_natCast]
  refine .ck (by omega) (.ck (by omega) (ev_rhalf_c4 a (false, []) (by omega) _ _ 0 (Nat.le_refl _) (by simp) (.zeros (by omega) _) (by omega) (by omega) (fun p _ => getD_zeros _ p) ?_))
  rw [Vb_zeros, List.take_length, rV]
  omega

theorem sign_pos_iff (a : Int) : a.sign > 0 ↔ 0 < a := by
  rcases Int.lt_trichotomy a 0 with h | h | h
  · rw [Int.sign_eq_neg_one_of_neg h]; omega
  · subst h; simp
  · rw [Int.sign_eq_one_of_pos h]; omega
theorem sign_nonneg_iff (a : Int) : a.sign ≥ 0 ↔ 0 ≤ a := by
  rcases Int.lt_trichotomy a 0 with h | h | h
  · rw [Int.sign_eq_neg_one_of_neg h]; omega
  · subst h; simp
  · rw [Int.sign_eq_one_of_pos h]; omega

theorem ev_rDivMod_c11 (a b : Nat) (s4 s5 : Bool × List Int) (hb : 0 < b) (ha : a < 10 ^ 40) (hb2 : b < 10 ^ 40) (hn : (digs 2 a).length < 1000) : ∀ n : Nat, n ≤ (digs 2 a).length →
    Ev (fun k => interchangeref1_DivMod_c11 k (N b) s4 s5 (digs 2 a) (N ((a / 2 ^ n / b : Nat) : Int)) (N ((a / 2 ^ n % b : Nat) : Int)) (N 2) ((n : Int) - 1)) (N ((a / b : Nat) : Int), N ((a % b : Nat) : Int)) := by
  intro n
  induction n with
  | zero =>
    intro _
    refine .step (fun k => interchangeref1_DivMod_c11_eq k _ _ _ _ _ _ _ _) (.nk (by omega) (.to (.pure _) ?_))
    simp
  | succ n ih =>
    intro hle
    have e0 : (((n + 1 : Nat) : Int) - 1) = (n : Int) := by omega
    have hti : ((n : Int)).toNat = n := Int.toNat_natCast n
    have e1 : wi64 ((n : Int) - 1) = (n : Int) - 1 := wi64_id (by omega) (by omega)
    have hbit : (digs 2 a).getD n 0 = ((a / 2 ^ n % 2 : Nat) : Int) := digs_at (by decide) n a
    have hh : a / 2 ^ n = 2 * (a / 2 ^ (n + 1)) + a / 2 ^ n % 2 := by
      have h1 : a / 2 ^ (n + 1) = a / 2 ^ n / 2 := by rw [Nat.pow_succ, Nat.div_div_eq_div_mul]
      rw [h1]
      omega
    have ht : a / 2 ^ n % 2 < 2 := Nat.mod_lt _ (by omega)
    obtain ⟨d1, d2⟩ := div_step hb rfl rfl ht (h := a / 2 ^ (n + 1))
    rw [← hh] at d1 d2
    have hr := Nat.mod_lt (a / 2 ^ (n + 1)) hb
    have hq : a / 2 ^ (n + 1) / b ≤ a := Nat.le_trans (Nat.div_le_self _ _) (Nat.div_le_self _ _)
    generalize a / 2 ^ n % 2 = t at *
    generalize a / 2 ^ (n + 1) / b = q at *
    generalize a / 2 ^ (n + 1) % b = r at *
    have ih' := ih (by omega)
    rw [d1, d2] at ih'
    have t40 : (10 : Nat) ^ 40 * 4 ≤ 10 ^ 60 := by decide
    rw [e0]
    refine .step (fun k => interchangeref1_DivMod_c11_eq k _ _ _ _ _ _ _ _) (.ck (by omega) (.bind (ev_rTimes _ 2 (.of (by omega)) (.of (by decide))) (.bind (ev_rTimes _ 2 (.of (by omega)) (.of (by decide))) (.ck (by omega) (.ck (by omega) ?_)))))
    rw [hti, hbit, e1]
    refine .bind (ev_rOf _ (by omega) (by omega)) (.bind (ev_rPlus _ _ (.of (by omega)) (.of (by omega))) (.bind (ev_rCmp _ _ (.of (by omega)) (.of (by omega))) ?_))
    by_cases hc : b ≤ 2 * r + t
    · rw [if_pos hc, if_pos hc] at ih'
      refine .ck ((sign_nonneg_iff _).2 (by omega)) (.bind (ev_rOf 1 (by omega) (by omega)) (.bind (ev_rPlus _ _ (.of (by omega)) (.of (by decide))) (.bind (ev_rMinus _) (.bind (ev_rPlus _ _ (.of (by omega)) (.of (by omega))) ?_))))
      have e3 : ((q : Int) * 2 + 1) = ((2 * q + 1 : Nat) : Int) := by omega
      have e4 : ((r : Int) * 2 + (t : Int) + -(b : Int)) = ((2 * r + t - b : Nat) : Int) := by omega
      rw [e3, e4]
      exact ih'
    · rw [if_neg hc, if_neg hc] at ih'
      refine .nk (fun z => hc (by have := (sign_nonneg_iff _).1 z; omega)) ?_
      have e3 : ((q : Int) * 2) = ((2 * q : Nat) : Int) := by omega
      have e4 : ((r : Int) * 2 + (t : Int)) = ((2 * r + t : Nat) : Int) := by omega
      rw [e3, e4]
      exact ih'

theorem ev_rDivMod (a b : Nat) (hb : 0 < b) (ha : a < 10 ^ 40) (hb2 : b < 10 ^ 40) : Ev (fun k => interchangeref1_DivMod k (N a) (N b)) (N ((a / b : Nat) : Int), N ((a % b : Nat) : Int)) := by
  have hn : (digs 2 a).length ≤ 200 := digs_len (b := 2) (by decide) 200 a (Nat.lt_of_lt_of_le ha (by decide))
  have main : ∀ (m : Nat) (c : Nat) (bits : List Int) (s4 s5 : Bool × List Int), c ≤ m → c ≤ a → bits ++ digs 2 c = digs 2 a → Ev (fun k => interchangeref1_DivMod_c3 k (N b) s4 s5 bits (N c)) (N ((a / b : Nat) : Int), N ((a % b : Nat) : Int)) := by
    intro m
    induction m with
    | zero =>
      intro c bits s4 s5 hm hca hbits
      have hc0 : c = 0 := by omega
      subst hc0
      refine .step (fun k => interchangeref1_DivMod_c3_eq k _ _ _ _ _) (.bind (ev_rSign _) (.nk (by simp) (.bind (ev_rOf 2 (by omega) (by omega)) ?_)))
      rw [digs_zero, List.append_nil] at hbits
      rw [hbits, wi64_id (by omega) (by omega)]
      have hlt : a < 2 ^ (digs 2 a).length := by
        have := Vb_lt (b := ((2 : Nat) : Int)) (by omega) (digs_dg (b := 2) (by decide) a)
        rw [digs_V (b := 2) (by decide) a] at this
        exact_mod_cast this
      have := ev_rDivMod_c11 a b s4 s5 hb ha hb2 (by omega) (digs 2 a).length (Nat.le_refl _)
      rw [Nat.div_eq_of_lt hlt, Nat.zero_div, Nat.zero_mod] at this
      exact this
    | succ m ih =>
      intro c bits s4 s5 hm hca hbits
      by_cases hc : c = 0
      · exact ih c bits s4 s5 (by omega) hca hbits
      · have hlen : bits.length ≤ 200 := by
          have := congrArg List.length hbits
          rw [List.length_append] at this
          omega
        refine .step (fun k => interchangeref1_DivMod_c3_eq k _ _ _ _ _) (.bind (ev_rSign _) (.ck ((sign_pos_iff _).2 (by omega)) (.bind (ev_rhalf c (.of (by have : (10 : Nat) ^ 40 ≤ 10 ^ 60 := (by decide); omega))) (.ck (by omega) (.step (fun k => interchangeref1_DivMod_c7_eq k _ _ _ _ _) ?_)))))
        refine ih (c / 2) _ s4 s5 (by omega) (by omega) ?_
        rw [← hbits, digs_pos (b := 2) (n := c) (by decide) (by omega)]
        simp
  exact .step (fun k => interchangeref1_DivMod_eq k _ _) (main a a [] _ _ (Nat.le_refl _) (Nat.le_refl _) rfl)
end Go.Proofs.Ytoiahmmockgcbaa.Eq
