import Derived.Test.YtoiahmmockgcbaaRaWhole
/- Whole numbers without a limit: division. -/
namespace Go.Proofs.Ytoiahmmockgcbaa.Eq
open Go Go.Ra
set_option linter.unusedVariables false

theorem lt_pow_of {x b k : Nat} (h : (x : Int) < (b : Int) ^ k) : x < b ^ k := by
  rw [← Int.natCast_pow] at h
  omega
theorem cp2 (n : Nat) : ((2 ^ n : Nat) : Int) = (2 : Int) ^ n := Int.natCast_pow 2 n

theorem bit_at (A m s : Nat) (hs : s < 32) : (A / 4294967296 ^ m % 4294967296) / 2 ^ s % 2 = A / 2 ^ (32 * m + s) % 2 := by
  have e1 : (4294967296 : Nat) ^ m = 2 ^ (32 * m) := by rw [show (4294967296 : Nat) = 2 ^ 32 from rfl, ← Nat.pow_mul]
  have e2 : (4294967296 : Nat) = 2 ^ s * 2 ^ (32 - s) := by rw [← Nat.pow_add, show s + (32 - s) = 32 by omega]
  rw [e1, Nat.pow_add, ← Nat.div_div_eq_div_mul]
  generalize A / 2 ^ (32 * m) = X
  rw [e2, Nat.mod_mul_right_div_self]
  exact Nat.mod_mod_of_dvd _ (Nat.dvd_trans (show 2 ∣ 2 ^ 1 by decide) (Nat.pow_dvd_pow 2 (by omega)))

theorem Vb_digit {l : List Int} (h : Dg 4294967296 l) : ∀ m : Nat, l.getD m 0 = (((Vb 4294967296 l).toNat / 4294967296 ^ m % 4294967296 : Nat) : Int) := by
  induction l with
  | nil => intro m; simp [Vb]
  | cons d l ih =>
    intro m
    obtain ⟨⟨h1, h2⟩, h3⟩ := h.cons
    have hv := Vb_nonneg (b := 4294967296) (by omega) h3
    have hn : (Vb 4294967296 (d :: l)).toNat = d.toNat + 4294967296 * (Vb 4294967296 l).toNat := by
      simp only [Vb]
      omega
    rw [hn]
    cases m with
    | zero =>
      simp
      omega
    | succ m =>
      rw [List.getD_cons_succ, ih h3 m, Nat.pow_succ', ← Nat.div_div_eq_div_mul, Nat.add_mul_div_left _ _ (show 0 < 4294967296 by omega), Nat.div_eq_of_lt (show d.toNat < 4294967296 by omega), Nat.zero_add]

theorem shr_u32 (x : Int) {s : Int} {n : Nat} (hs : s = n) (hn : n ≤ 32) : shrI .u32 x s = x / 2 ^ n := by
  subst hs
  show x / 2 ^ (min ((n : Int)).toNat 32) = _
  rw [Int.toNat_natCast, Nat.min_eq_left hn]
theorem shl1_u32 {s : Int} {n : Nat} (hs : s = n) (hn : n < 32) : shlI .u32 1 s = 2 ^ n := by
  subst hs
  show wu32 (1 * 2 ^ (min ((n : Int)).toNat 32)) = _
  rw [Int.toNat_natCast, Nat.min_eq_left (by omega), Int.one_mul]
  have h : (2 : Nat) ^ n ≤ 2 ^ 31 := Nat.pow_le_pow_right (by omega) (by omega)
  rw [← cp2]
  generalize 2 ^ n = u at h ⊢
  exact wu32_id (by omega) (by omega)

theorem ev_By_c4 (A D : Nat) (s2n s3n : Bool) (s4 s5 : Bool × List Int) (hD : 0 < D) (hA : (digs 4294967296 A).length ≤ 100) (hDl : (digs 4294967296 D).length ≤ 100) : ∀ (n : Nat) (q : List Int), n ≤ 32 * (digs 4294967296 A).length → q.length = (digs 4294967296 A).length → Dg 4294967296 q → Vb 4294967296 q = ((A / 2 ^ n / D * 2 ^ n : Nat) : Int) →
    Ev (fun k => whole_Int_By_c4 k (s2n, digs 4294967296 A) (s3n, digs 4294967296 D) s4 s5 q (digs 4294967296 (A / 2 ^ n % D)) ((n : Int) - 1)) (W ((A / D : Nat) : Int), W ((A % D : Nat) : Int)) := by
  have hsmall : ∀ x : Nat, x < D → (digs 4294967296 x).length ≤ 100 := by
    intro x hx
    have h1 := Vb_lt (b := 4294967296) (by omega) (dD D)
    rw [dV] at h1
    have h2 : D < 4294967296 ^ (digs 4294967296 D).length := lt_pow_of (b := 4294967296) h1
    have h3 : (4294967296 : Nat) ^ (digs 4294967296 D).length ≤ 4294967296 ^ 100 := Nat.pow_le_pow_right (by omega) hDl
    exact digs_len (b := 4294967296) (by decide) 100 x (Nat.lt_trans hx (Nat.lt_of_lt_of_le h2 h3))
  intro n
  induction n with
  | zero =>
    intro q hle hql hqd hqv
    refine .step (fun k => whole_Int_By_c4_eq k _ _ _ _ _ _ _) (.nk (by omega) (.bind (ev_made false q (by omega) hqd) (.bind (ev_made_digs false _ ?_) (.to (.pure _) ?_))))
    · have := hsmall (A / 2 ^ 0 % D) (Nat.mod_lt _ hD)
      omega
    · rw [hqv]
      simp only [cond_false, Nat.pow_zero, Nat.mul_one, Nat.div_one]
  | succ n ih =>
    intro q hle hql hqd hqv
    have e0 : (((n + 1 : Nat) : Int) - 1) = (n : Int) := by omega
    have e1 : wi64 ((n : Int) - 1) = (n : Int) - 1 := wi64_id (by omega) (by omega)
    obtain ⟨m, hm⟩ : ∃ m, m = n / 32 := ⟨_, rfl⟩
    obtain ⟨s, hs⟩ : ∃ s, s = n % 32 := ⟨_, rfl⟩
    have hn32 : n = 32 * m + s := by omega
    have hs32 : s < 32 := by omega
    have hml : m < (digs 4294967296 A).length := by omega
    have e2 : wi64 ((n : Int).tdiv 32) = (m : Int) := by
      rw [Int.tdiv_eq_ediv_of_nonneg (by omega), wi64_id (by omega) (by omega)]
      omega
    have e3 : (n : Int).tmod 32 = (s : Int) := by
      rw [Int.tmod_eq_emod_of_nonneg (by omega)]
      omega
    have hti : ((m : Int)).toNat = m := Int.toNat_natCast m
    have ht : A / 2 ^ n % 2 < 2 := Nat.mod_lt _ (by omega)
    have hh : A / 2 ^ n = 2 * (A / 2 ^ (n + 1)) + A / 2 ^ n % 2 := by
      have h1 : A / 2 ^ (n + 1) = A / 2 ^ n / 2 := by rw [Nat.pow_succ, Nat.div_div_eq_div_mul]
      rw [h1]
      omega
    obtain ⟨d1, d2⟩ := div_step hD rfl rfl ht (h := A / 2 ^ (n + 1))
    rw [← hh] at d1 d2
    have hr := Nat.mod_lt (A / 2 ^ (n + 1)) hD
    have hrl := hsmall _ hr
    have hbit : bitsI .and .u32 (shrI .u32 ((digs 4294967296 A).getD m 0) (s : Int)) 1 = ((A / 2 ^ n % 2 : Nat) : Int) := by
      rw [shr_u32 _ rfl (by omega), digs_at (b := 4294967296) (by decide) m A]
      have hlt := Nat.mod_lt (A / 4294967296 ^ m) (show 0 < 4294967296 by omega)
      have e : ((A / 4294967296 ^ m % 4294967296 : Nat) : Int) / 2 ^ s = ((A / 4294967296 ^ m % 4294967296 / 2 ^ s : Nat) : Int) := by
        rw [Int.natCast_ediv, Int.natCast_pow]
        rfl
      have hle2 : A / 4294967296 ^ m % 4294967296 / 2 ^ s ≤ A / 4294967296 ^ m % 4294967296 := Nat.div_le_self _ _
      have hb2 := bit_at A m s hs32
      rw [e, hn32, ← hb2]
      generalize A / 4294967296 ^ m % 4294967296 / 2 ^ s = u at *
      rw [and1 rfl (by decide) (by omega) (by simp only [IntKind.bits]; omega)]
      omega
    have ih' := ih
    rw [d1, d2] at ih'
    generalize A / 2 ^ n % 2 = t at *
    generalize A / 2 ^ (n + 1) / D = Q at *
    generalize A / 2 ^ (n + 1) % D = R at *
    obtain ⟨y, p1, p2, p3, p4⟩ := ev_sum _ _ (dD R) (dD R) (by omega) (by omega)
    rw [dV] at p4
    have hy0 : 0 < y.length := by omega
    have hyd := p2.at (by omega) 0
    have hyeven : y.getD 0 0 % 2 = 0 := by
      have := Vb_digit p2 0
      rw [this, p4]
      simp
      omega
    have hor : bitsI .or .u32 (y.getD 0 0) (t : Int) = y.getD 0 0 + t := by
      have := or_add (k := .u32) (x := y.getD 0 0 / 2) (y := (t : Int)) (i := 1) rfl (by omega) (by omega) (by simp only [IntKind.bits]; omega) (by omega)
      have e : y.getD 0 0 / 2 * 2 ^ 1 = y.getD 0 0 := by omega
      rwa [e] at this
    rw [e0]
    refine .step (fun k => whole_Int_By_c4_eq k _ _ _ _ _ _ _) (.ck (by omega) (.bind p1 (.ck (by omega) ?_)))
    simp only [e2, e3, hti, e1, hbit, hor]
    refine .ck (by omega) (.ck (by omega) (.ck (by omega) (.ck (by omega) (.bind (ev_trimmed _ (by rw [List.length_set]; omega) (p2.set _ (by omega) (by omega))) ?_))))
    have hyv : (Vb 4294967296 (y.set 0 (y.getD 0 0 + t))).toNat = 2 * R + t := by
      rw [Vb_set _ _ _ _ hy0, p4]
      simp
      omega
    rw [hyv]
    have hl2 : (digs 4294967296 (2 * R + t)).length ≤ 101 := by
      have h1 := Vb_lt (b := 4294967296) (by omega) (dD R)
      rw [dV] at h1
      have h2 : R < 4294967296 ^ (digs 4294967296 R).length := lt_pow_of (b := 4294967296) h1
      have h3 : (4294967296 : Nat) ^ (digs 4294967296 R).length ≤ 4294967296 ^ 100 := Nat.pow_le_pow_right (by omega) hrl
      have h4 : (4294967296 : Nat) ^ 101 = 4294967296 ^ 100 * 4294967296 := Nat.pow_succ _ _
      have h5 : 0 < (4294967296 : Nat) ^ 100 := Nat.pow_pos (by omega)
      generalize (4294967296 : Nat) ^ 100 = P at *
      exact digs_len (b := 4294967296) (by decide) 101 _ (by rw [h4]; omega)
    obtain ⟨c, c1, c2⟩ := ev_compare (2 * R + t) D (by omega) (by omega)
    refine .bind c1 ?_
    by_cases hc : D ≤ 2 * R + t
    · rw [if_pos hc, if_pos hc] at ih'
      refine .ck (c2.2 hc) (.bind (ev_less _ _ (by omega) hc) (.ck (by omega) (.ck (by omega) (.ck (by omega) (.ck (by omega) (.ck (by omega) ?_))))))
      rw [shl1_u32 rfl hs32]
      have hqm := hqd.at (by omega) m
      have hp2 : (0 : Int) < 2 ^ s := Int.pow_pos (by omega)
      -- the digit's lower bits are free
      have hqdig := Vb_digit hqd m
      rw [hqv, Int.toNat_natCast] at hqdig
      have e1' : (4294967296 : Nat) ^ m = 2 ^ (32 * m) := by rw [show (4294967296 : Nat) = 2 ^ 32 from rfl, ← Nat.pow_mul]
      have e2' : Q * 2 ^ (n + 1) / 4294967296 ^ m = Q * 2 ^ (s + 1) := by
        rw [e1', hn32, show 32 * m + s + 1 = (s + 1) + 32 * m by omega, Nat.pow_add, ← Nat.mul_assoc]
        exact Nat.mul_div_cancel _ (Nat.pow_pos (by omega))
      have e3' : (4294967296 : Nat) = 2 ^ (31 - s) * 2 ^ (s + 1) := by rw [← Nat.pow_add, show 31 - s + (s + 1) = 32 by omega]
      have e4' : Q * 2 ^ (s + 1) % 4294967296 = (Q % 2 ^ (31 - s)) * 2 ^ (s + 1) := by rw [e3', Nat.mul_mod_mul_right]
      rw [e2', e4'] at hqdig
      have hz := Nat.mod_lt Q (show 0 < 2 ^ (31 - s) from Nat.pow_pos (by omega))
      generalize Q % 2 ^ (31 - s) = z at *
      have hzb : z * 2 ^ (s + 1) + 2 ^ s < 4294967296 := by
        have h1 : (z + 1) * 2 ^ (s + 1) ≤ 2 ^ (31 - s) * 2 ^ (s + 1) := Nat.mul_le_mul_right _ hz
        rw [← e3', Nat.add_mul, Nat.one_mul] at h1
        have h2 : (2 : Nat) ^ (s + 1) = 2 ^ s * 2 := Nat.pow_succ _ _
        have h3 : 0 < (2 : Nat) ^ s := Nat.pow_pos (by omega)
        omega
      have hor2 : bitsI .or .u32 (q.getD m 0) (2 ^ s) = q.getD m 0 + 2 ^ s := by
        have hb : (z : Int) * 2 ^ (s + 1) + 2 ^ s < 2 ^ IntKind.u32.bits := by
          have hbN : ((z * 2 ^ (s + 1) + 2 ^ s : Nat) : Int) < 4294967296 := Int.ofNat_lt.2 hzb
          rw [Int.natCast_add, Int.natCast_mul, cp2, cp2] at hbN
          exact hbN
        have hb2 : (2 : Int) ^ s < 2 ^ (s + 1) := by rw [Int.pow_succ]; omega
        have := or_add (k := .u32) (x := (z : Int)) (y := 2 ^ s) (i := s + 1) rfl (by omega) (by omega) hb hb2
        have ez : ((z * 2 ^ (s + 1) : Nat) : Int) = (z : Int) * 2 ^ (s + 1) := by rw [Int.natCast_mul, cp2]
        rw [hqdig, ez]
        exact this
      rw [hor2]
      have hup : q.getD m 0 + 2 ^ s < 4294967296 := by
        rw [hqdig, ← cp2, ← Int.natCast_add]
        exact Int.ofNat_lt.2 hzb
      refine ih' _ (by omega) (by simpa using hql) (hqd.set _ (by omega) hup) ?_
      rw [Vb_set _ _ _ _ (by omega), hqv]
      have e5 : (4294967296 : Int) ^ m * (q.getD m 0 + 2 ^ s - q.getD m 0) = ((2 ^ n : Nat) : Int) := by
        rw [show q.getD m 0 + 2 ^ s - q.getD m 0 = 2 ^ s by omega]
        have : 4294967296 ^ m * 2 ^ s = 2 ^ n := by rw [e1', hn32, Nat.pow_add]
        rw [← this, Int.natCast_mul, Int.natCast_pow, Int.natCast_pow]
        rfl
      rw [e5]
      have : Q * 2 ^ (n + 1) + 2 ^ n = (2 * Q + 1) * 2 ^ n := by rw [Nat.pow_succ, Nat.add_mul, Nat.mul_comm (2 ^ n) 2, ← Nat.mul_assoc, Nat.mul_comm Q 2, Nat.one_mul]
      rw [← this, Int.natCast_add]
    · rw [if_neg hc, if_neg hc] at ih'
      refine .nk (fun z => hc (c2.1 z)) (ih' q (by omega) hql hqd ?_)
      rw [hqv]
      have : Q * 2 ^ (n + 1) = 2 * Q * 2 ^ n := by rw [Nat.pow_succ, Nat.mul_comm (2 ^ n) 2, ← Nat.mul_assoc, Nat.mul_comm Q 2]
      rw [this]

theorem ev_By (a b : Int) (ha : Sm a) (hb : Sm b) (h0 : b ≠ 0) : Ev (fun k => whole_Int_By k (W a) (W b)) (W ((a.natAbs / b.natAbs : Nat) : Int), W ((a.natAbs % b.natAbs : Nat) : Int)) := by
  have la := ha.len
  have lb := hb.len
  have e1 : wi64 (wi64 (((W a).2.length : Int) * 32) - 1) = ((32 * (W a).2.length : Nat) : Int) - 1 := by
    rw [wi64_id (x := _ * 32) (by omega) (by omega), wi64_id (by omega) (by omega)]
    omega
  refine .step (fun k => whole_Int_By_eq k _ _) ?_
  rw [e1, Int.toNat_natCast]
  have hlt : a.natAbs < 2 ^ (32 * (W a).2.length) := by
    have h1 := Vb_lt (b := 4294967296) (by omega) (W_dg a)
    rw [W_V] at h1
    have h2 : a.natAbs < 4294967296 ^ (W a).2.length := lt_pow_of (b := 4294967296) h1
    rwa [show (4294967296 : Nat) = 2 ^ 32 from rfl, ← Nat.pow_mul] at h2
  have hz : a.natAbs / 2 ^ (32 * (W a).2.length) = 0 := Nat.div_eq_of_lt hlt
  have := ev_By_c4 a.natAbs b.natAbs (W a).1 (W b).1 (false, []) (false, []) (by omega) la lb (32 * (W a).2.length) (List.replicate (W a).2.length 0) (Nat.le_refl _) (by simp [W]) (.zeros (by omega) _) (by rw [Vb_zeros, hz]; simp)
  rw [hz, Nat.zero_mod] at this
  exact .ck (by omega) (.ck (by omega) this)

theorem ev_Odd (a : Int) : Ev (fun k => whole_Int_Odd k (W a)) (decide (a % 2 = 1)) := by
  refine .step (fun k => whole_Int_Odd_eq k _) ?_
  rcases Nat.eq_zero_or_pos a.natAbs with h | h
  · have ha : a = 0 := by omega
    subst ha
    exact .tt rfl (.tt rfl (.pure _))
  · have hd := digs_pos (b := 4294967296) (n := a.natAbs) (by decide) h
    have hm := Nat.mod_lt a.natAbs (show 0 < 4294967296 by omega)
    have hlen : 0 < ((W a).2.length : Int) := by
      show 0 < ((digs 4294967296 a.natAbs).length : Int)
      rw [hd]
      simp
    refine .tt (by simp) (.tt (by simp) (.to (.pure _) ?_))
    have : (W a).2.getD 0 0 = ((a.natAbs % 4294967296 : Nat) : Int) := by
      show (digs 4294967296 a.natAbs).getD 0 0 = _
      rw [hd]
      rfl
    rw [this, and1 rfl (by decide) (by omega) (by simp [IntKind.bits]; omega)]
    have e : decide (((W a).2.length : Int) > 0) = true := by simpa using hlen
    rw [e]
    simp only [cond_true]
    by_cases h2 : a % 2 = 1
    · simp only [h2, decide_true, beq_iff_eq]
      omega
    · simp only [h2, decide_false, beq_eq_false_iff_ne, ne_eq]
      omega
end Go.Proofs.Ytoiahmmockgcbaa.Eq
