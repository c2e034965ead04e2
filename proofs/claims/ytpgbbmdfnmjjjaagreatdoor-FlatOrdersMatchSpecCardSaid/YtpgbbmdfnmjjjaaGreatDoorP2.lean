/- What the functions of this law compute, part 2. -/
import Derived.Test.YtpgbbmdfnmjjjaaGreatDoorP1
import Derived.Lib.SlTrimSet
import Derived.Lib.IndexBytes
import Derived.Lib.Replace
import Derived.Lib.Atoi
import Derived.Lib.Split
namespace Go.Proofs.YtpgbbmdfnmjjjaaGreatDoor.Eq
open Go Go.Ra
set_option linter.unusedVariables false

theorem ev_within (a b c : Int) : Ev (fun k => interchangeref1_within k a b c) (decide (b ≤ a ∧ a ≤ c)) := by
  refine .step (fun k => interchangeref1_within_eq k a b c) (.to (.pure _) ?_)
  by_cases h : b ≤ a <;> simp [h]

theorem ev_rCheck (d : Int × Int) : Ev (fun k => interchangeref1_CheckDecimal k d) (if okD d then 0 else 1) := by
  refine .step (fun k => interchangeref1_CheckDecimal_eq k d) (.bind (ev_within _ _ _) ?_)
  by_cases h : -1000000000000000 ≤ d.1 ∧ d.1 ≤ 1000000000000000
  · refine .bind (.tt (by simp [h]) (ev_within _ _ _)) ?_
    by_cases h2 : 0 ≤ d.2 ∧ d.2 ≤ 9
    · refine .ff (by simp [h, h2]) (.to (.pure _) ?_)
      rw [if_pos]
      unfold okD
      omega
    · refine .tt (by simp [h, h2]) (.to (.pure _) ?_)
      rw [if_neg]
      intro z
      unfold okD at z
      omega
  · refine .bind (x := false) (.ff (by simp [h]) (.pure _)) (.tt (by simp [h]) (.to (.pure _) ?_))
    rw [if_neg]
    intro z
    unfold okD at z
    omega

theorem Sr.pow10 {n : Nat} (h : n ≤ 130) : Sr (10 ^ n) := .of (by rw [pow10_abs]; exact pow10_le 130 h)

theorem ev_rAt (d : Int × Int) (p : Int) (h : okD d) (hp : d.2 ≤ p) (hp2 : p ≤ 20) : Ev (fun k => interchangeref1_At k d p) (N (sc d p)) := by
  have h' := h
  unfold okD at h'
  have e : wi64 (p - d.2) = (((p - d.2).toNat : Nat) : Int) := by rw [wi64_id (by omega) (by omega)]; omega
  refine .step (fun k => interchangeref1_At_eq k d p) (.bind (ev_rOf d.1 (by omega) (by omega)) ?_)
  rw [e]
  exact .bind (ev_rPower _ (by omega)) (.ret (ev_rTimes d.1 _ (.of (Nat.le_trans (show d.1.natAbs ≤ 10 ^ 15 by omega) (by decide))) (.pow10 (by omega))) rfl)

end Go.Proofs.YtpgbbmdfnmjjjaaGreatDoor.Eq
namespace Go.Proofs.YtpgbbmdfnmjjjaaGreatDoor.Eq
open Go Go.Ra
set_option linter.unusedVariables false

theorem lt_pow_of {x b k : Nat} (h : (x : Int) < (b : Int) ^ k) : x < b ^ k := by
  rw [← Int.natCast_pow] at h
  omega
theorem cp2 (n : Nat) : ((2 ^ n : Nat) : Int) = (2 : Int) ^ n := Int.natCast_pow 2 n

theorem bit_at (A m s : Nat) (hs : s < 32) : (A / 4294967296 ^ m % 4294967296) / 2 ^ s % 2 = A / 2 ^ (32 * m + s) % 2 := by
  have e1 : (4294967296 : Nat) ^ m = 2 ^ (32 * m) := by rw [show (4294967296 : Nat) = 2 ^ 32 from rfl, ← Nat.pow_mul]
  have e2 : (4294967296 : Nat) = 2 ^ s * 2 ^ (32 - s) := by rw [← Nat.pow_add, show s + (32 - s) = 32 by omega]
  rw [e1, Nat.pow_add, ← Nat.div_div_eq_div_mul]
  generalize A / 2 ^ (32 * m) = X
  rw [e2, Nat.mod_mul_right_div_self]
  exact Nat.mod_mod_of_dvd _ (Nat.dvd_trans (show 2 ∣ 2 ^ 1 by decide) (Nat.pow_dvd_pow 2 (by omega)))

theorem Vb_digit {l : List Int} (h : Dg 4294967296 l) : ∀ m : Nat, l.getD m 0 = (((Vb 4294967296 l).toNat / 4294967296 ^ m % 4294967296 : Nat) : Int) := by
  induction l with
  | nil => intro m; simp [Vb]
  | cons d l ih =>
    intro m
    obtain ⟨⟨h1, h2⟩, h3⟩ := h.cons
    have hv := Vb_nonneg (b := 4294967296) (by omega) h3
    have hn : (Vb 4294967296 (d :: l)).toNat = d.toNat + 4294967296 * (Vb 4294967296 l).toNat := by
      simp only [Vb]
      omega
    rw [hn]
    cases m with
    | zero =>
      simp
      omega
    | succ m =>
      rw [List.getD_cons_succ, ih h3 m, Nat.pow_succ', ← Nat.div_div_eq_div_mul, Nat.add_mul_div_left _ _ (show 0 < 4294967296 by omega), Nat.div_eq_of_lt (show d.toNat < 4294967296 by omega), Nat.zero_add]

theorem shr_u32 (x : Int) {s : Int} {n : Nat} (hs : s = n) (hn : n ≤ 32) : shrI .u32 x s = x / 2 ^ n := by
  subst hs
  show x / 2 ^ (min ((n : Int)).toNat 32) = _
  rw [Int.toNat_natCast, Nat.min_eq_left hn]
theorem shl1_u32 {s : Int} {n : Nat} (hs : s = n) (hn : n < 32) : shlI .u32 1 s = 2 ^ n := by
  subst hs
  show wu32 (1 * 2 ^ (min ((n : Int)).toNat 32)) = _
  rw [Int.toNat_natCast, Nat.min_eq_left (by omega), Int.one_mul]
  have h : (2 : Nat) ^ n ≤ 2 ^ 31 := Nat.pow_le_pow_right (by omega) (by omega)
  rw [← cp2]
  generalize 2 ^ n = u at h ⊢
  exact wu32_id (by omega) (by omega)

theorem ev_By_c4 (A D : Nat) (s2n s3n : Bool) (s4 s5 : Bool × List Int) (hD : 0 < D) (hA : (digs 4294967296 A).length ≤ 100) (hDl : (digs 4294967296 D).length ≤ 100) : ∀ (n : Nat) (q : List Int), n ≤ 32 * (digs 4294967296 A).length → q.length = (digs 4294967296 A).length → Dg 4294967296 q → Vb 4294967296 q = ((A / 2 ^ n / D * 2 ^ n : Nat) : Int) →
    Ev (fun k => whole_Int_By_c4 k (s2n, digs 4294967296 A) (s3n, digs 4294967296 D) s4 s5 q (digs 4294967296 (A / 2 ^ n % D)) ((n : Int) - 1)) (W ((A / D : Nat) : Int), W ((A % D : Nat) : Int)) := by
  have hsmall : ∀ x : Nat, x < D → (digs 4294967296 x).length ≤ 100 := by
    intro x hx
    have h1 := Vb_lt (b := 4294967296) (by omega) (dD D)
    rw [dV] at h1
    have h2 : D < 4294967296 ^ (digs 4294967296 D).length := lt_pow_of (b := 4294967296) h1
    have h3 : (4294967296 : Nat) ^ (digs 4294967296 D).length ≤ 4294967296 ^ 100 := Nat.pow_le_pow_right (by omega) hDl
    exact digs_len (b := 4294967296) (by decide) 100 x (Nat.lt_trans hx (Nat.lt_of_lt_of_le h2 h3))
  intro n
  induction n with
  | zero =>
    intro q hle hql hqd hqv
    refine .step (fun k => whole_Int_By_c4_eq k _ _ _ _ _ _ _) (.nk (by omega) (.bind (ev_made false q (by omega) hqd) (.bind (ev_made_digs false _ ?_) (.to (.pure _) ?_))))
    · have := hsmall (A / 2 ^ 0 % D) (Nat.mod_lt _ hD)
      omega
    · rw [hqv]
      simp only [cond_false, Nat.pow_zero, Nat.mul_one, Nat.div_one]
  | succ n ih =>
    intro q hle hql hqd hqv
    have e0 : (((n + 1 : Nat) : Int) - 1) = (n : Int) := by omega
    have e1 : wi64 ((n : Int) - 1) = (n : Int) - 1 := wi64_id (by omega) (by omega)
    obtain ⟨m, hm⟩ : ∃ m, m = n / 32 := ⟨_, rfl⟩
    obtain ⟨s, hs⟩ : ∃ s, s = n % 32 := ⟨_, rfl⟩
    have hn32 : n = 32 * m + s := by omega
    have hs32 : s < 32 := by omega
    have hml : m < (digs 4294967296 A).length := by omega
    have e2 : wi64 ((n : Int).tdiv 32) = (m : Int) := by
      rw [Int.tdiv_eq_ediv_of_nonneg (by omega), wi64_id (by omega) (by omega)]
      omega
    have e3 : (n : Int).tmod 32 = (s : Int) := by
      rw [Int.tmod_eq_emod_of_nonneg (by omega)]
      omega
    have hti : ((m : Int)).toNat = m := Int.toNat_natCast m
    have ht : A / 2 ^ n % 2 < 2 := Nat.mod_lt _ (by omega)
    have hh : A / 2 ^ n = 2 * (A / 2 ^ (n + 1)) + A / 2 ^ n % 2 := by
      have h1 : A / 2 ^ (n + 1) = A / 2 ^ n / 2 := by rw [Nat.pow_succ, Nat.div_div_eq_div_mul]
      rw [h1]
      omega
    obtain ⟨d1, d2⟩ := div_step hD rfl rfl ht (h := A / 2 ^ (n + 1))
    rw [← hh] at d1 d2
    have hr := Nat.mod_lt (A / 2 ^ (n + 1)) hD
    have hrl := hsmall _ hr
    have hbit : bitsI .and .u32 (shrI .u32 ((digs 4294967296 A).getD m 0) (s : Int)) 1 = ((A / 2 ^ n % 2 : Nat) : Int) := by
      rw [shr_u32 _ rfl (by omega), digs_at (b := 4294967296) (by decide) m A]
      have hlt := Nat.mod_lt (A / 4294967296 ^ m) (show 0 < 4294967296 by omega)
      have e : ((A / 4294967296 ^ m % 4294967296 : Nat) : Int) / 2 ^ s = ((A / 4294967296 ^ m % 4294967296 / 2 ^ s : Nat) : Int) := by
        rw [Int.natCast_ediv, Int.natCast_pow]
        rfl
      have hle2 : A / 4294967296 ^ m % 4294967296 / 2 ^ s ≤ A / 4294967296 ^ m % 4294967296 := Nat.div_le_self _ _
      have hb2 := bit_at A m s hs32
      rw [e, hn32, ← hb2]
      generalize A / 4294967296 ^ m % 4294967296 / 2 ^ s = u at *
      rw [and1 rfl (by decide) (by omega) (by simp only [IntKind.bits]; omega)]
      omega
    have ih' := ih
    rw [d1, d2] at ih'
    generalize A / 2 ^ n % 2 = t at *
    generalize A / 2 ^ (n + 1) / D = Q at *
    generalize A / 2 ^ (n + 1) % D = R at *
    obtain ⟨y, p1, p2, p3, p4⟩ := ev_sum _ _ (dD R) (dD R) (by omega) (by omega)
    rw [dV] at p4
    have hy0 : 0 < y.length := by omega
    have hyd := p2.at (by omega) 0
    have hyeven : y.getD 0 0 % 2 = 0 := by
      have := Vb_digit p2 0
      rw [this, p4]
      simp
      omega
    have hor : bitsI .or .u32 (y.getD 0 0) (t : Int) = y.getD 0 0 + t := by
      have := or_add (k := .u32) (x := y.getD 0 0 / 2) (y := (t : Int)) (i := 1) rfl (by omega) (by omega) (by simp only [IntKind.bits]; omega) (by omega)
      have e : y.getD 0 0 / 2 * 2 ^ 1 = y.getD 0 0 := by omega
      rwa [e] at this
    rw [e0]
    refine .step (fun k => whole_Int_By_c4_eq k _ _ _ _ _ _ _) (.ck (by omega) (.bind p1 (.ck (by omega) ?_)))
    simp only [e2, e3, hti, e1, hbit, hor]
    refine .ck (by omega) (.ck (by omega) (.ck (by omega) (.ck (by omega) (.bind (ev_trimmed _ (by rw [List.length_set]; omega) (p2.set _ (by omega) (by omega))) ?_))))
    have hyv : (Vb 4294967296 (y.set 0 (y.getD 0 0 + t))).toNat = 2 * R + t := by
      rw [Vb_set _ _ _ _ hy0, p4]
      simp
      omega
    rw [hyv]
    have hl2 : (digs 4294967296 (2 * R + t)).length ≤ 101 := by
      have h1 := Vb_lt (b := 4294967296) (by omega) (dD R)
      rw [dV] at h1
      have h2 : R < 4294967296 ^ (digs 4294967296 R).length := lt_pow_of (b := 4294967296) h1
      have h3 : (4294967296 : Nat) ^ (digs 4294967296 R).length ≤ 4294967296 ^ 100 := Nat.pow_le_pow_right (by omega) hrl
      have h4 : (4294967296 : Nat) ^ 101 = 4294967296 ^ 100 * 4294967296 := Nat.pow_succ _ _
      have h5 : 0 < (4294967296 : Nat) ^ 100 := Nat.pow_pos (by omega)
      generalize (4294967296 : Nat) ^ 100 = P at *
      exact digs_len (b := 4294967296) (by decide) 101 _ (by rw [h4]; omega)
    obtain ⟨c, c1, c2⟩ := ev_compare (2 * R + t) D (by omega) (by omega)
    refine .bind c1 ?_
    by_cases hc : D ≤ 2 * R + t
    · rw [if_pos hc, if_pos hc] at ih'
      refine .ck (c2.2 hc) (.bind (ev_less _ _ (by omega) hc) (.ck (by omega) (.ck (by omega) (.ck (by omega) (.ck (by omega) (.ck (by omega) ?_))))))
      rw [shl1_u32 rfl hs32]
      have hqm := hqd.at (by omega) m
      have hp2 : (0 : Int) < 2 ^ s := Int.pow_pos (by omega)
      -- the digit's lower bits are free
      have hqdig := Vb_digit hqd m
      rw [hqv, Int.toNat_natCast] at hqdig
      have e1' : (4294967296 : Nat) ^ m = 2 ^ (32 * m) := by rw [show (4294967296 : Nat) = 2 ^ 32 from rfl, ← Nat.pow_mul]
      have e2' : Q * 2 ^ (n + 1) / 4294967296 ^ m = Q * 2 ^ (s + 1) := by
        rw [e1', hn32, show 32 * m + s + 1 = (s + 1) + 32 * m by omega, Nat.pow_add, ← Nat.mul_assoc]
        exact Nat.mul_div_cancel _ (Nat.pow_pos (by omega))
      have e3' : (4294967296 : Nat) = 2 ^ (31 - s) * 2 ^ (s + 1) := by rw [← Nat.pow_add, show 31 - s + (s + 1) = 32 by omega]
      have e4' : Q * 2 ^ (s + 1) % 4294967296 = (Q % 2 ^ (31 - s)) * 2 ^ (s + 1) := by rw [e3', Nat.mul_mod_mul_right]
      rw [e2', e4'] at hqdig
      have hz := Nat.mod_lt Q (show 0 < 2 ^ (31 - s) from Nat.pow_pos (by omega))
      generalize Q % 2 ^ (31 - s) = z at *
      have hzb : z * 2 ^ (s + 1) + 2 ^ s < 4294967296 := by
        have h1 : (z + 1) * 2 ^ (s + 1) ≤ 2 ^ (31 - s) * 2 ^ (s + 1) := Nat.mul_le_mul_right _ hz
        rw [← e3', Nat.add_mul, Nat.one_mul] at h1
        have h2 : (2 : Nat) ^ (s + 1) = 2 ^ s * 2 := Nat.pow_succ _ _
        have h3 : 0 < (2 : Nat) ^ s := Nat.pow_pos (by omega)
        omega
      have hor2 : bitsI .or .u32 (q.getD m 0) (2 ^ s) = q.getD m 0 + 2 ^ s := by
        have hb : (z : Int) * 2 ^ (s + 1) + 2 ^ s < 2 ^ IntKind.u32.bits := by
          have hbN : ((z * 2 ^ (s + 1) + 2 ^ s : Nat) : Int) < 4294967296 := Int.ofNat_lt.2 hzb
          rw [Int.natCast_add, Int.natCast_mul, cp2, cp2] at hbN
          exact hbN
        have hb2 : (2 : Int) ^ s < 2 ^ (s + 1) := by rw [Int.pow_succ]; omega
        have := or_add (k := .u32) (x := (z : Int)) (y := 2 ^ s) (i := s + 1) rfl (by omega) (by omega) hb hb2
        have ez : ((z * 2 ^ (s + 1) : Nat) : Int) = (z : Int) * 2 ^ (s + 1) := by rw [Int.natCast_mul, cp2]
        rw [hqdig, ez]
        exact this
      rw [hor2]
      have hup : q.getD m 0 + 2 ^ s < 4294967296 := by
        rw [hqdig, ← cp2, ← Int.natCast_add]
        exact Int.ofNat_lt.2 hzb
      refine ih' _ (by omega) (by simpa using hql) (hqd.set _ (by omega) hup) ?_
      rw [Vb_set _ _ _ _ (by omega), hqv]
      have e5 : (4294967296 : Int) ^ m * (q.getD m 0 + 2 ^ s - q.getD m 0) = ((2 ^ n : Nat) : Int) := by
        rw [show q.getD m 0 + 2 ^ s - q.getD m 0 = 2 ^ s by omega]
        have : 4294967296 ^ m * 2 ^ s = 2 ^ n := by rw [e1', hn32, Nat.pow_add]
        rw [← this, Int.natCast_mul, Int.natCast_pow, Int.natCast_pow]
        rfl
      rw [e5]
      have : Q * 2 ^ (n + 1) + 2 ^ n = (2 * Q + 1) * 2 ^ n := by rw [Nat.pow_succ, Nat.add_mul, Nat.mul_comm (2 ^ n) 2, ← Nat.mul_assoc, Nat.mul_comm Q 2, Nat.one_mul]
      rw [← this, Int.natCast_add]
    · rw [if_neg hc, if_neg hc] at ih'
      refine .nk (fun z => hc (c2.1 z)) (ih' q (by omega) hql hqd ?_)
      rw [hqv]
      have : Q * 2 ^ (n + 1) = 2 * Q * 2 ^ n := by rw [Nat.pow_succ, Nat.mul_comm (2 ^ n) 2, ← Nat.mul_assoc, Nat.mul_comm Q 2]
      rw [this]

theorem ev_By (a b : Int) (ha : Sm a) (hb : Sm b) (h0 : b ≠ 0) : Ev (fun k => whole_Int_By k (W a) (W b)) (W ((a.natAbs / b.natAbs : Nat) : Int), W ((a.natAbs % b.natAbs : Nat) : Int)) := by
  have la := ha.len
  have lb := hb.len
  have e1 : wi64 (wi64 (((W a).2.length : Int) * 32) - 1) = ((32 * (W a).2.length : Nat) : Int) - 1 := by
    rw [wi64_id (x := _ * 32) (by omega) (by omega), wi64_id (by omega) (by omega)]
    omega
  refine .step (fun k => whole_Int_By_eq k _ _) ?_
  rw [e1, Int.toNat_natCast]
  have hlt : a.natAbs < 2 ^ (32 * (W a).2.length) := by
    have h1 := Vb_lt (b := 4294967296) (by omega) (W_dg a)
    rw [W_V] at h1
    have h2 : a.natAbs < 4294967296 ^ (W a).2.length := lt_pow_of (b := 4294967296) h1
    rwa [show (4294967296 : Nat) = 2 ^ 32 from rfl, ← Nat.pow_mul] at h2
  have hz : a.natAbs / 2 ^ (32 * (W a).2.length) = 0 := Nat.div_eq_of_lt hlt
  have := ev_By_c4 a.natAbs b.natAbs (W a).1 (W b).1 (false, []) (false, []) (by omega) la lb (32 * (W a).2.length) (List.replicate (W a).2.length 0) (Nat.le_refl _) (by simp [W]) (.zeros (by omega) _) (by rw [Vb_zeros, hz]; simp)
  rw [hz, Nat.zero_mod] at this
  exact .ck (by omega) (.ck (by omega) this)

end Go.Proofs.YtpgbbmdfnmjjjaaGreatDoor.Eq
namespace Go.Proofs.YtpgbbmdfnmjjjaaGreatDoor.Eq
open Go Go.Ra
set_option linter.unusedVariables false

theorem ev_ReverseB_c1 (n : Nat) (hn : n < 1125899906842624) : ∀ (m i : Nat) (l : List Int), n - i = m → i ≤ n → l.length = n →
    ∃ r, Ev (fun k => slices_Reverse_Lbyte_byte_c1 k l (i : Int) ((n : Int) - 1 - i)) r ∧ r.length = n ∧ ∀ p, r[p]? = if i ≤ p ∧ p + i < n then l[n - 1 - p]? else l[p]? := by
  intro m
  induction m using Nat.strongRecOn with
  | ind m ih =>
    intro i l hm hi hl
    by_cases h : (i : Int) < (n : Int) - 1 - i
    · have h1 : i < l.length := by omega
      have hj : ((n : Int) - 1 - i) = ((n - 1 - i : Nat) : Int) := by omega
      have hjl : n - 1 - i < l.length := by omega
      have e1 : wi64 ((i : Int) + 1) = ((i + 1 : Nat) : Int) := (by rw [wi64_id (by omega) (by omega)]; rfl)
      have e2 : wi64 ((n : Int) - 1 - i - 1) = (n : Int) - 1 - ((i + 1 : Nat) : Int) := by rw [wi64_id (by omega) (by omega)]; omega
      obtain ⟨r, q1, q2, q3⟩ := ih (n - (i + 1)) (by omega) (i + 1) ((l.set i (l.getD (n - 1 - i) 0)).set (n - 1 - i) (l.getD i 0)) rfl (by omega) (by simpa using hl)
      refine ⟨r, .step (fun k => slices_Reverse_Lbyte_byte_c1_eq k _ _ _) (.ck h (.ck (by omega) (.ck (by omega) (.ck (by omega) (.ck (by omega) (.ck (by omega) (.ck (by omega) (.ck (by omega) (.ck (by rw [List.length_set]; omega) ?_))))))))), q2, fun p => ?_⟩
      · rw [e1, e2, hj, Int.toNat_natCast, Int.toNat_natCast]
        exact q1
      · rw [q3 p]
        have g1 : l[i]? = some (l.getD i 0) := by rw [List.getD_eq_getElem?_getD, List.getElem?_eq_getElem h1]; rfl
        have g2 : l[n - 1 - i]? = some (l.getD (n - 1 - i) 0) := by rw [List.getD_eq_getElem?_getD, List.getElem?_eq_getElem hjl]; rfl
        by_cases hp : i ≤ p ∧ p + i < n
        · rw [if_pos hp]
          by_cases hpi : p = i
          · subst hpi
            rw [if_neg (by omega), List.getElem?_set_ne (by omega), List.getElem?_set_self h1, g2]
          · by_cases hpj : p = n - 1 - i
            · subst hpj
              rw [if_neg (by omega), List.getElem?_set_self (by simpa using hjl), show n - 1 - (n - 1 - i) = i by omega, g1]
            · rw [if_pos (by omega), List.getElem?_set_ne (by omega), List.getElem?_set_ne (by omega)]
        · rw [if_neg hp, if_neg (by omega), List.getElem?_set_ne (by omega), List.getElem?_set_ne (by omega)]
    · refine ⟨l, .step (fun k => slices_Reverse_Lbyte_byte_c1_eq k _ _ _) (.nk h (.pure _)), hl, fun p => ?_⟩
      by_cases hp : i ≤ p ∧ p + i < n
      · rw [if_pos hp]
        have : n - 1 - p = p := by omega
        rw [this]
      · rw [if_neg hp]

theorem ev_ReverseB (l : List Int) (hn : l.length < 1125899906842624) : Ev (fun k => slices_Reverse_Lbyte_byte k l) l.reverse := by
  obtain ⟨r, q1, q2, q3⟩ := ev_ReverseB_c1 l.length hn _ 0 l rfl (by omega) rfl
  have : r = l.reverse := by
    apply List.ext_getElem?
    intro p
    rw [q3 p]
    by_cases hp : p < l.length
    · rw [if_pos (by omega), List.getElem?_reverse hp]
    · rw [if_neg (by omega), List.getElem?_eq_none (by omega), List.getElem?_eq_none (by simp; omega)]
  rw [this] at q1
  refine .step (fun k => slices_Reverse_Lbyte_byte_eq k l) ?_
  rw [wi64_id (by omega) (by omega)]
  have e : ((l.length : Int) - 1 - ((0 : Nat) : Int)) = (l.length : Int) - 1 := by omega
  rw [e] at q1
  exact q1


theorem ev_CloneU (a : List Int) (h : a.length < 8796093022208) : Ev (fun k => slices_Clone_Luint32_uint32 k a) a := by
  cases a with
  | nil => exact .step (fun k => slices_Clone_Luint32_uint32_eq k _) (.pure _)
  | cons x a => exact .step (fun k => slices_Clone_Luint32_uint32_eq k _) (.ff rfl (.ck (by omega) (.pure _)))

theorem bl_rev (l : List UInt8) : (bl l).reverse = bl l.reverse := by simp [bl]
theorem dig_byte (n : Nat) : (((UInt8.ofNat (48 + n % 10)).toNat : Nat) : Int) = 48 + (n : Int) % 10 := by
  rw [UInt8.toNat_ofNat']
  omega

theorem ev_WText (a : Int) (ha : Sm a) (h0 : 0 ≤ a) : Ev (fun k => whole_Int_Text k (W a)) (B (Lib.itoa a)) := by
  obtain ⟨n, rfl⟩ : ∃ n : Nat, a = n := ⟨a.toNat, by omega⟩
  have hlen := ha.len
  rcases Nat.eq_zero_or_pos n with rfl | hn
  · refine .step (fun k => whole_Int_Text_eq k _) (.tt rfl (.to (.pure _) ?_))
    rw [itoa_nat, Lib.decDigits_one (by decide)]
    rfl
  · have hW : W (n : Int) = (false, digs 4294967296 n) := by unfold W; simp
    have hne := digs_ne (b := 4294967296) (by decide) hn
    rw [hW] at hlen
    simp only at hlen
    refine .step (fun k => whole_Int_Text_eq k _) ?_
    rw [hW]
    have hl0 : (((digs 4294967296 n).length : Int) == 0) = false := by
      have := List.length_pos_iff.2 hne
      simpa using hne
    refine .ff hl0 (.bind (ev_CloneU _ (by simp only; omega)) ?_)
    have key : ∀ (m c : Nat) (acc : List UInt8), c ≤ m → c ≤ n → acc.length + c ≤ acc.length + n → acc.length ≤ 1000 → acc ++ revDig c c = revDig n n → Ev (fun k => whole_Int_Text_c5 k (false, digs 4294967296 n) (bl acc) (digs 4294967296 c)) (B (Lib.decDigits n)) := by
      intro m
      induction m with
      | zero =>
        intro c acc h1 h2 _ h3 h4
        have : c = 0 := by omega
        subst this
        have e : acc = revDig n n := by simpa [revDig] using h4
        refine .step (fun k => whole_Int_Text_c5_eq k _ _ _) (.nk (by simp [digs_zero]) (.ff rfl (.bind (ev_ReverseB _ (by rw [bl_len]; omega)) (.to (.pure _) ?_))))
        rw [bl_rev, strOf_bl, e, dec_rev n n (Nat.le_refl _) hn]
      | succ m ih =>
        intro c acc h1 h2 _ h3 h4
        rcases Nat.eq_zero_or_pos c with rfl | hc
        · exact ih 0 acc (by omega) (by omega) (by omega) h3 h4
        · have hcn : (digs 4294967296 c).length ≤ 100 := by
            refine digs_len (by decide) 100 c (Nat.lt_of_le_of_lt h2 ?_)
            have := ha
            unfold Sm at this
            rw [Int.natAbs_natCast] at this
            exact this
          have hcp := List.length_pos_iff.2 (digs_ne (b := 4294967296) (by decide) hc)
          refine .step (fun k => whole_Int_Text_c5_eq k _ _ _) (.ck (by omega) (ev_Text_c8 _ _ _ (dD c) (by omega) (by rw [bl_len]; omega) ?_))
          rw [dV c]
          have e1 : ((c : Int) / 10).toNat = c / 10 := by omega
          have e2 : bl acc ++ [48 + (c : Int) % 10] = bl (acc ++ [UInt8.ofNat (48 + c % 10)]) := by
            rw [bl_app]
            congr 1
            show _ = [((((UInt8.ofNat (48 + c % 10)).toNat : Nat)) : Int)]
            rw [dig_byte]
          rw [e1, e2]
          have hlen2 : acc.length + 1 ≤ (revDig n n).length := by
            rw [← h4, List.length_append, revDig_step hc]
            simp
          have hrl : (revDig n n).length ≤ 1000 := by
            have : (revDig n n).length = (Lib.decDigits n).length := by rw [← dec_rev n n (Nat.le_refl _) hn, List.length_reverse]
            rw [this, Lib.decDigits_length]
            refine nDig_le 1000 n (by decide) (Nat.lt_of_lt_of_le (m := 4294967296 ^ 100) ?_ (by decide +kernel))
            have := ha
            unfold Sm at this
            rw [Int.natAbs_natCast] at this
            exact this
          refine ih (c / 10) _ (by omega) (by omega) (by omega) (by rw [List.length_append]; simp; omega) ?_
          rw [List.append_assoc, List.singleton_append, ← revDig_step hc]
          exact h4
    rw [itoa_nat]
    exact key n n [] (Nat.le_refl _) (Nat.le_refl _) (by omega) (by simp) (by simp)

theorem ev_sign (d : Int × Int) : Ev (fun k => amount_sign k d) (B (if d.1 < 0 then [45] else [])) := by
  refine .step (fun k => amount_sign_eq k _) ?_
  by_cases h : d.1 < 0
  · rw [if_pos h]; exact .ck h (.pure _)
  · rw [if_neg h]; exact .nk h (.pure _)
def ptL (n : Nat) (p : Nat) : List UInt8 := List.replicate (p + 1 - (Lib.decDigits n).length) 48 ++ Lib.decDigits n
theorem ptL_len (n p : Nat) : p + 1 ≤ (ptL n p).length := by
  unfold ptL
  rw [List.length_append, List.length_replicate]
  omega
theorem ptL_le (n p : Nat) (h : (Lib.decDigits n).length ≤ 16) (hp : p ≤ 9) : (ptL n p).length ≤ 16 := by
  unfold ptL
  rw [List.length_append, List.length_replicate]
  omega
def befL (n p : Nat) : List UInt8 := (ptL n p).take ((ptL n p).length - p)
def behL (n p : Nat) : List UInt8 := (ptL n p).drop ((ptL n p).length - p)
theorem behL_len (n p : Nat) : (behL n p).length = p := by
  have := ptL_len n p
  unfold behL
  rw [List.length_drop]
  omega
theorem bef_beh (n p : Nat) : befL n p ++ behL n p = ptL n p := List.take_append_drop _ _
theorem dec16 {n : Nat} (h : n ≤ 1000000000000000) : (Lib.decDigits n).length ≤ 16 := by
  rw [Lib.decDigits_length]
  exact nDig_le 16 n (by decide) (Nat.lt_of_le_of_lt h (by decide))
theorem ev_Rep48' (n : Nat) (h2 : n ≤ 1000000) : Ev (fun k => strings_Repeat k (bs [48]) (n : Int)) (B (List.replicate n 48)) := by
  have := ev_Rep48 (n := (n : Int)) (by omega) (by omega)
  rwa [Int.toNat_natCast] at this
theorem ev_pointed (n p : Nat) (hn : n ≤ 1000000000000000) (hp : p ≤ 9) : Ev (fun k => amount_pointed k (B (Lib.decDigits n)) (p : Int)) (B (befL n p), B (behL n p)) := by
  have h16 := dec16 hn
  have hl := ptL_len n p
  have hle := ptL_le n p h16 hp
  have e : maxI 0 (wi64 (wi64 ((p : Int) + 1) - ((B (Lib.decDigits n)).size : Int))) = ((p + 1 - (Lib.decDigits n).length : Nat) : Int) := by
    rw [size_B, wi64_id (x := (p : Int) + 1) (by omega) (by omega), wi64_id (by omega) (by omega)]
    unfold maxI
    split <;> omega
  refine .step (fun k => amount_pointed_eq k _ _) ?_
  rw [e]
  refine .bind (ev_Rep48' _ (by omega)) (.ck (by rw [size_B, size_B, List.length_replicate]; omega) ?_)
  have e2 : B (List.replicate (p + 1 - (Lib.decDigits n).length) 48) ++ B (Lib.decDigits n) = B (ptL n p) := B_app _ _
  rw [e2, size_B]
  have e3 : wi64 (((ptL n p).length : Int) - (p : Int)) = (((ptL n p).length - p : Nat) : Int) := by
    rw [wi64_id (by omega) (by omega)]; omega
  rw [e3]
  refine .ck (by omega) (.ck (by omega) (.ck (by omega) (.ck (by omega) (.to (.pure _) ?_))))
  rw [Int.toNat_natCast, B_ext, B_ext, List.drop_zero, List.take_of_length_le (Nat.le_refl _)]
  rfl
def txL (d : Int × Int) : List UInt8 := (if d.1 < 0 then [45] else []) ++ befL d.1.natAbs d.2.toNat ++ (if d.2 = 0 then [] else 46 :: behL d.1.natAbs d.2.toNat)
theorem okD_nat {d : Int × Int} (h : okD d) : d.1.natAbs ≤ 1000000000000000 ∧ d.2.toNat ≤ 9 ∧ ((d.2.toNat : Nat) : Int) = d.2 := by unfold okD at h; omega
theorem bef_len {d : Int × Int} (h : okD d) : (befL d.1.natAbs d.2.toNat).length ≤ 16 := by
  obtain ⟨h1, h2, h3⟩ := okD_nat h
  have := ptL_le d.1.natAbs d.2.toNat (dec16 h1) h2
  unfold befL
  rw [List.length_take]
  omega
theorem ev_aText (d : Int × Int) : Ev (fun k => amount_Text k d) (if okD d then (B (txL d), 0) else (bs [], 1)) := by
  refine .step (fun k => amount_Text_eq k _) (.bind (ev_CheckDecimal d) ?_)
  by_cases h : okD d
  · rw [if_pos h, if_pos h]
    obtain ⟨h1, h2, h3⟩ := okD_nat h
    have hb := bef_len h
    have hh := behL_len d.1.natAbs d.2.toNat
    refine .ff rfl ?_
    have hs : Sm d.1 := .of (Nat.le_trans h1 (by decide))
    have hs2 : Sm (d.1.natAbs : Int) := .of (by rw [Int.natAbs_natCast]; exact Nat.le_trans h1 (by decide))
    have hp := ev_pointed d.1.natAbs d.2.toNat h1 h2
    rw [h3] at hp
    refine .bind (ev_Of d.1 (by unfold okD at h; omega) (by unfold okD at h; omega)) (.bind (ev_Abs d.1 hs) (.bind (ev_WText _ hs2 (by omega)) ?_))
    rw [itoa_nat]
    refine .bind hp ?_
    have hsg : (if d.1 < 0 then [45] else ([] : List UInt8)).length ≤ 1 := by split <;> simp
    unfold txL
    by_cases hz : d.2 = 0
    · refine .tt (by simp [hz]) (.bind (ev_sign d) (.ck (by rw [size_B, size_B]; omega) (.to (.pure _) ?_)))
      rw [B_app, if_pos hz, List.append_nil]
    · refine .ff (by simp [hz]) (.bind (ev_sign d) (.ck (by rw [size_B, size_B]; omega) ?_))
      simp only [B_app]
      have e46 : bs [46] = B [46] := rfl
      rw [e46]
      simp only [B_app]
      refine .ck (by rw [size_B, List.length_append]; omega) (.ck (by rw [size_B, size_B, List.length_append, List.length_append]; simp only [List.length_singleton]; omega) (.to (.pure _) ?_))
      rw [if_neg hz]
      simp
  · rw [if_neg h, if_neg h]
    exact .tt rfl (.pure _)
theorem ev_rText (d : Int × Int) : Ev (fun k => interchangeref1_Text k d) (if okD d then (B (txL d), 0) else (bs [], 1)) := by
  refine .step (fun k => interchangeref1_Text_eq k _) (.bind (ev_rCheck d) ?_)
  by_cases h : okD d
  · rw [if_pos h, if_pos h]
    obtain ⟨h1, h2, h3⟩ := okD_nat h
    have hb := bef_len h
    have hh := behL_len d.1.natAbs d.2.toNat
    have hpt := ptL_le d.1.natAbs d.2.toNat (dec16 h1) h2
    have hpl := ptL_len d.1.natAbs d.2.toNat
    have h16 := dec16 h1
    have em : maxI d.1 (wi64 (0 - d.1)) = (d.1.natAbs : Int) := by
      rw [wi64_id (by unfold okD at h; omega) (by unfold okD at h; omega)]
      unfold maxI
      split <;> omega
    refine .ff rfl ?_
    rw [em]
    refine .bind (ev_Itoa (by omega) (by omega)) ?_
    rw [itoa_nat]
    have e : maxI 0 (wi64 (wi64 (d.2 + 1) - ((B (Lib.decDigits d.1.natAbs)).size : Int))) = ((d.2.toNat + 1 - (Lib.decDigits d.1.natAbs).length : Nat) : Int) := by
      rw [size_B, wi64_id (x := d.2 + 1) (by omega) (by omega), wi64_id (by omega) (by omega)]
      unfold maxI
      split <;> omega
    rw [e]
    refine .bind (ev_Rep48' _ (by omega)) (.ck (by rw [size_B, size_B, List.length_replicate]; omega) ?_)
    have e2 : B (List.replicate (d.2.toNat + 1 - (Lib.decDigits d.1.natAbs).length) 48) ++ B (Lib.decDigits d.1.natAbs) = B (ptL d.1.natAbs d.2.toNat) := B_app _ _
    rw [e2, size_B]
    have e3 : wi64 (((ptL d.1.natAbs d.2.toNat).length : Int) - d.2) = (((ptL d.1.natAbs d.2.toNat).length - d.2.toNat : Nat) : Int) := by
      rw [wi64_id (by omega) (by omega)]; omega
    rw [e3]
    simp only [Int.toNat_natCast, B_ext, List.drop_zero, List.take_of_length_le (Nat.le_refl (ptL d.1.natAbs d.2.toNat).length)]
    have q1 : (ptL d.1.natAbs d.2.toNat).take ((ptL d.1.natAbs d.2.toNat).length - d.2.toNat) = befL d.1.natAbs d.2.toNat := rfl
    have q2 : (ptL d.1.natAbs d.2.toNat).drop ((ptL d.1.natAbs d.2.toNat).length - d.2.toNat) = behL d.1.natAbs d.2.toNat := rfl
    have e46 : bs [46] = B [46] := rfl
    have e45 : bs [45] = B [45] := rfl
    rw [q1, q2, e46, e45]
    simp only [B_app, size_B]
    unfold txL
    by_cases hz : d.2 = 0
    · have hb0 : behL d.1.natAbs d.2.toNat = [] := List.eq_nil_of_length_eq_zero (by rw [hh]; omega)
      have hpb : ptL d.1.natAbs d.2.toNat = befL d.1.natAbs d.2.toNat := by rw [← bef_beh, hb0, List.append_nil]
      refine .nk (by omega) ?_
      rw [hpb, if_pos hz, List.append_nil]
      by_cases hn : d.1 < 0
      · rw [if_pos hn]
        exact .ck hn (.ck (by omega) (.pure _))
      · rw [if_neg hn]
        exact .nk hn (.pure _)
    · refine .ck (by omega) (.ck (by omega) (.ck (by omega) (.ck (by omega) (.ck (by omega) (.ck (by omega) (.ck (by rw [List.length_append]; simp only [List.length_singleton]; omega) ?_))))))
      rw [if_neg hz]
      by_cases hn : d.1 < 0
      · rw [if_pos hn]
        refine .ck hn (.ck (by simp only [List.length_append, List.length_singleton]; omega) (.to (.pure _) ?_))
        simp
      · rw [if_neg hn]
        refine .nk hn (.to (.pure _) ?_)
        simp
  · rw [if_neg h, if_neg h]
    exact .tt rfl (.pure _)
end Go.Proofs.YtpgbbmdfnmjjjaaGreatDoor.Eq
namespace Go.Proofs.YtpgbbmdfnmjjjaaGreatDoor.Eq
open Go Go.Ra
set_option linter.unusedVariables false

end Go.Proofs.YtpgbbmdfnmjjjaaGreatDoor.Eq
namespace Go.Ra
open Go Go.Ra
def mkOk (b : Int) : Prop := ¬ ((48 ≤ b ∧ b ≤ 57) ∨ b = 45 ∨ b < 32 ∨ b > 126)
instance (b : Int) : Decidable (mkOk b) := by unfold mkOk; infer_instance
end Go.Ra
namespace Go.Proofs.YtpgbbmdfnmjjjaaGreatDoor.Eq
open Go Go.Ra
set_option linter.unusedVariables false

end Go.Proofs.YtpgbbmdfnmjjjaaGreatDoor.Eq
namespace Go.Ra
open Go Go.Ra
def bdB (b : UInt8) : Bool := (decide (65 ≤ b.toNat) && decide (b.toNat ≤ 90)) || dgB b
end Go.Ra
namespace Go.Proofs.YtpgbbmdfnmjjjaaGreatDoor.Eq
open Go Go.Ra
set_option linter.unusedVariables false

def alnum : List UInt8 := [65, 66, 67, 68, 69, 70, 71, 72, 73, 74, 75, 76, 77, 78, 79, 80, 81, 82, 83, 84, 85, 86, 87, 88, 89, 90, 48, 49, 50, 51, 52, 53, 54, 55, 56, 57]
theorem alnum_iff (b : UInt8) : alnum.contains b = bdB b := by
  have : ∀ k : Fin 256, alnum.contains (UInt8.ofNat k.val) = bdB (UInt8.ofNat k.val) := by decide +kernel
  have h := this ⟨b.toNat, b.toNat_lt⟩
  simpa using h
theorem dropW_nil {p : UInt8 → Bool} : ∀ l : List UInt8, l.dropWhile p = [] ↔ l.all p = true
  | [] => by simp
  | b :: l => by
    rw [List.dropWhile_cons, List.all_cons]
    cases h : p b with
    | true => simpa using dropW_nil (p := p) l
    | false => simp
theorem trimS_nil (l cs : List UInt8) : Lib.trimS l cs = [] ↔ l.all (cs.contains ·) = true := by
  unfold Lib.trimS Lib.trimLeftS Lib.trimRightS
  constructor
  · intro h
    have h1 := (dropW_nil _).1 h
    have h2 : l.reverse.dropWhile (cs.contains ·) = [] := by
      cases hd : l.reverse.dropWhile (cs.contains ·) with
      | nil => rfl
      | cons b t =>
        have h1 := List.all_eq_true.1 h1 b (by rw [hd]; simp)
        have h2 : cs.contains b = false := by
          have := List.head?_dropWhile_not (cs.contains ·) l.reverse
          rw [hd] at this
          simpa using this
        rw [h2] at h1
        cases h1
    have h3 := (dropW_nil _).1 h2
    rw [List.all_reverse] at h3
    exact h3
  · intro h
    refine (dropW_nil _).2 (List.all_eq_true.2 fun x hx => List.all_eq_true.1 h x ?_)
    have := List.mem_reverse.1 hx
    exact List.mem_reverse.1 ((List.dropWhile_sublist _).subset this)
end Go.Proofs.YtpgbbmdfnmjjjaaGreatDoor.Eq
namespace Go.Proofs.YtpgbbmdfnmjjjaaGreatDoor.Eq
open Go Go.Ra
set_option linter.unusedVariables false
abbrev Col : Type := ByteArray × Int × Int × Int × Int × Bool × Int × Bool
abbrev Knd : Type := ByteArray × List Col × Int × ByteArray
abbrev Fmt : Type := Int × Int × List Knd × ByteArray × ByteArray × ByteArray × ByteArray
abbrev Row : Type := ByteArray × List ByteArray
abbrev col0 : Col := (bs [], (0, (0, (0, (0, (false, (0, false)))))))
abbrev knd0 : Knd := (bs [], ([], (0, bs [])))
theorem col_eta (c : Col) : (c.1, (c.2.1, (c.2.2.1, (c.2.2.2.1, (c.2.2.2.2.1, (c.2.2.2.2.2.1, (c.2.2.2.2.2.2.1, c.2.2.2.2.2.2.2))))))) = c := rfl
theorem knd_eta (c : Knd) : (c.1, (c.2.1, (c.2.2.1, c.2.2.2))) = c := rfl
def ixI {α : Type} (p : α → Bool) (l : List α) : Int := if l.findIdx p < l.length then (l.findIdx p : Int) else -1
theorem ixI_none {α : Type} {p : α → Bool} {l : List α} : ixI p l < 0 ↔ ∀ x ∈ l, p x = false := by
  unfold ixI
  split
  · rename_i h
    have h2 := List.findIdx_lt_length.1 h
    obtain ⟨x, hx, hp⟩ := h2
    constructor
    · intro h0; omega
    · intro h0; rw [h0 x hx] at hp; cases hp
  · rename_i h
    constructor
    · intro _ x hx
      cases hp : p x with
      | false => rfl
      | true => exact absurd (List.findIdx_lt_length.2 ⟨x, hx, hp⟩) h
    · intro _; omega
theorem ixI_lt {α : Type} (p : α → Bool) (l : List α) : -1 ≤ ixI p l ∧ ixI p l < l.length := by
  unfold ixI
  split
  · omega
  · exact ⟨by omega, by omega⟩
theorem ixI_at {α : Type} {p : α → Bool} {l : List α} {i : Nat} (h : ixI p l = i) : ∃ hi : i < l.length, p l[i] = true ∧ ∀ j (hj : j < i), p (l[j]'(Nat.lt_trans hj hi)) = false := by
  unfold ixI at h
  split at h
  · rename_i hl
    have e : l.findIdx p = i := by omega
    subst e
    exact ⟨hl, List.findIdx_getElem, fun j hj => by simpa using List.not_of_lt_findIdx hj⟩
  · omega
theorem ixI_is {α : Type} {p : α → Bool} {l : List α} {i : Nat} (hi : i < l.length) (h1 : p l[i] = true) (h2 : ∀ j (hj : j < i), p (l[j]'(Nat.lt_trans hj hi)) = false) : ixI p l = i := by
  have e : l.findIdx p = i := (List.findIdx_eq hi).2 ⟨h1, h2⟩
  unfold ixI
  rw [e, if_pos hi]
theorem ixI_get {α : Type} {p : α → Bool} {l : List α} (h : 0 ≤ ixI p l) : ∃ i : Nat, ∃ hi : i < l.length, ixI p l = i ∧ p l[i] = true := by
  obtain ⟨i, hi⟩ : ∃ i : Nat, ixI p l = i := ⟨(ixI p l).toNat, by omega⟩
  obtain ⟨h1, h2, _⟩ := ixI_at hi
  exact ⟨i, h1, hi, h2⟩
theorem ev_loop {α : Type} (p : α → Bool) (l : List α) (c : Nat → Int → Option Int)
    (h1 : ∀ (i : Nat) (hi : i < l.length) (y : Int), (p l[i] = true → y = (i : Int)) → (p l[i] = false → Ev (fun k => c k ((i + 1 : Nat) : Int)) y) → Ev (fun k => c k (i : Int)) y)
    (h2 : Ev (fun k => c k (l.length : Int)) (-1)) : Ev (fun k => c k 0) (ixI p l) := by
  have key : ∀ (m i : Nat), l.length - i = m → i ≤ l.length → (∀ j (hj : j < l.length), j < i → p l[j] = false) → Ev (fun k => c k (i : Int)) (ixI p l) := by
    intro m
    induction m with
    | zero =>
      intro i hm hi hn
      have e : i = l.length := by omega
      subst e
      have : ixI p l = -1 := by
        have h3 : ixI p l < 0 := ixI_none.2 fun x hx => by
          obtain ⟨j, hj, rfl⟩ := List.getElem_of_mem hx
          exact hn j hj hj
        have := (ixI_lt p l).1
        omega
      rw [this]
      exact h2
    | succ m ih =>
      intro i hm hi hn
      have hil : i < l.length := by omega
      refine h1 i hil _ (fun hp => ixI_is hil hp fun j hj => hn j (by omega) hj) fun hp => ih (i + 1) (by omega) (by omega) fun j hj hji => ?_
      by_cases e : j = i
      · subst e; exact hp
      · exact hn j hj (by omega)
  exact key _ 0 rfl (Nat.zero_le _) fun j _ hj => absurd hj (Nat.not_lt_zero _)
theorem getD_at {α : Type} {l : List α} {i : Nat} (h : i < l.length) (d : α) : l.getD ((i : Nat) : Int).toNat d = l[i] := by
  rw [Int.toNat_natCast, List.getD_eq_getElem?_getD, List.getElem?_eq_getElem h]
  rfl
def tagP (t : ByteArray) (x : Knd) : Bool := eqS x.1 t
def colP (t : ByteArray) (x : Col) : Bool := eqS x.1 t
def kOf (ks : List Knd) (t : ByteArray) : Int := ixI (tagP t) ks
def cOf (cs : List Col) (t : ByteArray) : Int := ixI (colP t) cs
theorem ev_rkindOf (a : Fmt) (t : ByteArray) (hn : a.2.2.1.length < 1125899906842624) : Ev (fun k => interchangeref6_kindOf k a t) (kOf a.2.2.1 t) := by
  refine .step (fun k => interchangeref6_kindOf_eq k _ _) ?_
  generalize a.2.2.1 = l at *
  refine ev_loop (tagP t) l (fun k i => interchangeref6_kindOf_c2 k t l (l.length : Int) i) (fun i hi y q1 q2 => ?_) (.step (fun k => interchangeref6_kindOf_c2_eq k _ _ _ _) (.nk (by omega) (.pure _)))
  refine .step (fun k => interchangeref6_kindOf_c2_eq k _ _ _ _) (.ck (by omega) (.ck (by omega) (.ck (by omega) ?_)))
  rw [getD_at hi, wj hi hn]
  exact .cond (fun z => .to (.pure _) (q1 z).symm) q2
theorem ev_rcolumnOf (a : Knd) (t : ByteArray) (hn : a.2.1.length < 1125899906842624) : Ev (fun k => interchangeref6_columnOf k a t) (cOf a.2.1 t) := by
  refine .step (fun k => interchangeref6_columnOf_eq k _ _) ?_
  generalize a.2.1 = l at *
  refine ev_loop (colP t) l (fun k i => interchangeref6_columnOf_c2 k t l (l.length : Int) i) (fun i hi y q1 q2 => ?_) (.step (fun k => interchangeref6_columnOf_c2_eq k _ _ _ _) (.nk (by omega) (.pure _)))
  refine .step (fun k => interchangeref6_columnOf_c2_eq k _ _ _ _) (.ck (by omega) (.ck (by omega) (.ck (by omega) ?_)))
  rw [getD_at hi, wj hi hn]
  exact .cond (fun z => .to (.pure _) (q1 z).symm) q2
theorem ev_kf1 (a b : Knd) : Ev (fun k => flat_kindFault_1_r k a b) (tagP b.1 a) := .step (fun k => flat_kindFault_1_r_eq k _ _) (.pure _)
theorem ev_kf2 (a b : Knd) : Ev (fun k => flat_kindFault_2_r k a b) (tagP b.2.2.2 a) := .step (fun k => flat_kindFault_2_r_eq k _ _) (.pure _)
theorem ev_ka1 (a : Knd) (b : ByteArray) : Ev (fun k => flat_kindAt_1_r k a b) (tagP b a) := .step (fun k => flat_kindAt_1_r_eq k _ _) (.pure _)
theorem ev_cf1 (a b : Col) : Ev (fun k => flat_columnFault_1_r k a b) (colP b.1 a) := .step (fun k => flat_columnFault_1_r_eq k _ _) (.pure _)
theorem ev_ca1 (a : Col) (b : ByteArray) : Ev (fun k => flat_columnAt_1_r k a b) (colP b a) := .step (fun k => flat_columnAt_1_r_eq k _ _) (.pure _)
theorem ev_ixKf1 (l : List Knd) (b : Knd) (hn : l.length < 1125899906842624) : Ev (fun k => slices_IndexFunc_Lapi_RowKind_api_RowKind_of_flat_kindFault_1 k l b) (kOf l b.1) := by
  refine .step (fun k => slices_IndexFunc_Lapi_RowKind_api_RowKind_of_flat_kindFault_1_eq k _ _) ?_
  refine ev_loop (tagP b.1) l (fun k i => slices_IndexFunc_Lapi_RowKind_api_RowKind_of_flat_kindFault_1_c2 k l b (l.length : Int) i) (fun i hi y q1 q2 => ?_) (.step (fun k => slices_IndexFunc_Lapi_RowKind_api_RowKind_of_flat_kindFault_1_c2_eq k _ _ _ _) (.nk (by omega) (.pure _)))
  refine .step (fun k => slices_IndexFunc_Lapi_RowKind_api_RowKind_of_flat_kindFault_1_c2_eq k _ _ _ _) (.ck (by omega) (.ck (by omega) (.ck (by omega) ?_)))
  rw [getD_at hi, wj hi hn, knd_eta]
  exact .bind (ev_kf1 _ _) (.cond (fun z => .to (.pure _) (q1 z).symm) q2)
theorem ev_ixKf2 (l : List Knd) (b : Knd) (hn : l.length < 1125899906842624) : Ev (fun k => slices_IndexFunc_Lapi_RowKind_api_RowKind_of_flat_kindFault_2 k l b) (kOf l b.2.2.2) := by
  refine .step (fun k => slices_IndexFunc_Lapi_RowKind_api_RowKind_of_flat_kindFault_2_eq k _ _) ?_
  refine ev_loop (tagP b.2.2.2) l (fun k i => slices_IndexFunc_Lapi_RowKind_api_RowKind_of_flat_kindFault_2_c2 k l b (l.length : Int) i) (fun i hi y q1 q2 => ?_) (.step (fun k => slices_IndexFunc_Lapi_RowKind_api_RowKind_of_flat_kindFault_2_c2_eq k _ _ _ _) (.nk (by omega) (.pure _)))
  refine .step (fun k => slices_IndexFunc_Lapi_RowKind_api_RowKind_of_flat_kindFault_2_c2_eq k _ _ _ _) (.ck (by omega) (.ck (by omega) (.ck (by omega) ?_)))
  rw [getD_at hi, wj hi hn, knd_eta]
  exact .bind (ev_kf2 _ _) (.cond (fun z => .to (.pure _) (q1 z).symm) q2)
theorem ev_ixKa (l : List Knd) (b : ByteArray) (hn : l.length < 1125899906842624) : Ev (fun k => slices_IndexFunc_Lapi_RowKind_api_RowKind_of_flat_kindAt_1 k l b) (kOf l b) := by
  refine .step (fun k => slices_IndexFunc_Lapi_RowKind_api_RowKind_of_flat_kindAt_1_eq k _ _) ?_
  refine ev_loop (tagP b) l (fun k i => slices_IndexFunc_Lapi_RowKind_api_RowKind_of_flat_kindAt_1_c2 k l b (l.length : Int) i) (fun i hi y q1 q2 => ?_) (.step (fun k => slices_IndexFunc_Lapi_RowKind_api_RowKind_of_flat_kindAt_1_c2_eq k _ _ _ _) (.nk (by omega) (.pure _)))
  refine .step (fun k => slices_IndexFunc_Lapi_RowKind_api_RowKind_of_flat_kindAt_1_c2_eq k _ _ _ _) (.ck (by omega) (.ck (by omega) (.ck (by omega) ?_)))
  rw [getD_at hi, wj hi hn, knd_eta]
  exact .bind (ev_ka1 _ _) (.cond (fun z => .to (.pure _) (q1 z).symm) q2)
theorem ev_ixCf (l : List Col) (b : Col) (hn : l.length < 1125899906842624) : Ev (fun k => slices_IndexFunc_Lapi_Column_api_Column_of_flat_columnFault_1 k l b) (cOf l b.1) := by
  refine .step (fun k => slices_IndexFunc_Lapi_Column_api_Column_of_flat_columnFault_1_eq k _ _) ?_
  refine ev_loop (colP b.1) l (fun k i => slices_IndexFunc_Lapi_Column_api_Column_of_flat_columnFault_1_c2 k l b (l.length : Int) i) (fun i hi y q1 q2 => ?_) (.step (fun k => slices_IndexFunc_Lapi_Column_api_Column_of_flat_columnFault_1_c2_eq k _ _ _ _) (.nk (by omega) (.pure _)))
  refine .step (fun k => slices_IndexFunc_Lapi_Column_api_Column_of_flat_columnFault_1_c2_eq k _ _ _ _) (.ck (by omega) (.ck (by omega) (.ck (by omega) ?_)))
  rw [getD_at hi, wj hi hn, col_eta]
  exact .bind (ev_cf1 _ _) (.cond (fun z => .to (.pure _) (q1 z).symm) q2)
theorem ev_ixCa (l : List Col) (b : ByteArray) (hn : l.length < 1125899906842624) : Ev (fun k => slices_IndexFunc_Lapi_Column_api_Column_of_flat_columnAt_1 k l b) (cOf l b) := by
  refine .step (fun k => slices_IndexFunc_Lapi_Column_api_Column_of_flat_columnAt_1_eq k _ _) ?_
  refine ev_loop (colP b) l (fun k i => slices_IndexFunc_Lapi_Column_api_Column_of_flat_columnAt_1_c2 k l b (l.length : Int) i) (fun i hi y q1 q2 => ?_) (.step (fun k => slices_IndexFunc_Lapi_Column_api_Column_of_flat_columnAt_1_c2_eq k _ _ _ _) (.nk (by omega) (.pure _)))
  refine .step (fun k => slices_IndexFunc_Lapi_Column_api_Column_of_flat_columnAt_1_c2_eq k _ _ _ _) (.ck (by omega) (.ck (by omega) (.ck (by omega) ?_)))
  rw [getD_at hi, wj hi hn, col_eta]
  exact .bind (ev_ca1 _ _) (.cond (fun z => .to (.pure _) (q1 z).symm) q2)
theorem ev_hasKf1 (l : List Knd) (b : Knd) (hn : l.length < 1125899906842624) : Ev (fun k => slices_ContainsFunc_Lapi_RowKind_api_RowKind_of_flat_kindFault_1 k l b) (decide (0 ≤ kOf l b.1)) :=
  .step (fun k => slices_ContainsFunc_Lapi_RowKind_api_RowKind_of_flat_kindFault_1_eq k _ _) (.bind (ev_ixKf1 l b hn) (.pure _))
theorem ev_hasKf2 (l : List Knd) (b : Knd) (hn : l.length < 1125899906842624) : Ev (fun k => slices_ContainsFunc_Lapi_RowKind_api_RowKind_of_flat_kindFault_2 k l b) (decide (0 ≤ kOf l b.2.2.2)) :=
  .step (fun k => slices_ContainsFunc_Lapi_RowKind_api_RowKind_of_flat_kindFault_2_eq k _ _) (.bind (ev_ixKf2 l b hn) (.pure _))
theorem ev_hasCf (l : List Col) (b : Col) (hn : l.length < 1125899906842624) : Ev (fun k => slices_ContainsFunc_Lapi_Column_api_Column_of_flat_columnFault_1 k l b) (decide (0 ≤ cOf l b.1)) :=
  .step (fun k => slices_ContainsFunc_Lapi_Column_api_Column_of_flat_columnFault_1_eq k _ _) (.bind (ev_ixCf l b hn) (.pure _))
theorem ev_columnAt (a : Knd) (b : ByteArray) (hn : a.2.1.length < 1125899906842624) : Ev (fun k => flat_columnAt k a b) (cOf a.2.1 b) :=
  .step (fun k => flat_columnAt_eq k _ _) (.ret (ev_ixCa _ b hn) rfl)
def kAt (ks : List Knd) (t : ByteArray) : Knd × Bool := if 0 ≤ kOf ks t then (ks.getD (kOf ks t).toNat knd0, true) else (knd0, false)
theorem ev_kindAt (a : Fmt) (b : ByteArray) (hn : a.2.2.1.length < 1125899906842624) : Ev (fun k => flat_kindAt k a b) (kAt a.2.2.1 b) := by
  have hl := ixI_lt (tagP b) a.2.2.1
  refine .step (fun k => flat_kindAt_eq k _ _) (.bind (ev_ixKa _ b hn) ?_)
  unfold kAt kOf
  by_cases h : ixI (tagP b) a.2.2.1 < 0
  · rw [if_neg (by omega)]
    exact .ck h (.pure _)
  · rw [if_pos (by omega)]
    exact .nk h (.ck (by omega) (.ck (by omega) (.pure _)))
theorem ixI_take {α : Type} (p : α → Bool) (l : List α) (i : Nat) (hi : i ≤ l.length) : 0 ≤ ixI p (l.take i) ↔ (0 ≤ ixI p l ∧ ixI p l < i) := by
  constructor
  · intro h
    obtain ⟨j, hj, e, hp⟩ := ixI_get h
    have hj' : j < i := by rw [List.length_take] at hj; omega
    have hp' : p (l[j]'(by omega)) = true := by rw [List.getElem_take] at hp; exact hp
    obtain ⟨_, _, hmin⟩ := ixI_at e
    have : ixI p l = j := ixI_is (by omega) hp' fun q hq => by
      have := hmin q hq
      rw [List.getElem_take] at this
      exact this
    omega
  · rintro ⟨h1, h2⟩
    obtain ⟨j, hj, e, hp⟩ := ixI_get h1
    rcases Int.lt_or_le (ixI p (l.take i)) 0 with h | h
    · have := ixI_none.1 h (l[j]) (by
        rw [List.mem_take_iff_getElem]
        exact ⟨j, by omega, rfl⟩)
      rw [hp] at this
      cases this
    · exact h
theorem ixI_own {α : Type} (p : α → Bool) (l : List α) (i : Nat) (hi : i < l.length) (h : p l[i] = true) : ixI p l ≠ i ↔ 0 ≤ ixI p (l.take i) := by
  rw [ixI_take p l i (Nat.le_of_lt hi)]
  have hle : 0 ≤ ixI p l ∧ ixI p l ≤ i := by
    rcases Int.lt_or_le (ixI p l) 0 with h0 | h0
    · have := ixI_none.1 h0 l[i] (List.getElem_mem hi)
      rw [h] at this
      cases this
    · refine ⟨h0, ?_⟩
      obtain ⟨j, hj, e, hp⟩ := ixI_get h0
      obtain ⟨_, _, hmin⟩ := ixI_at e
      rcases Nat.lt_or_ge i j with hij | hij
      · have := hmin i hij
        rw [h] at this
        cases this
      · omega
  omega
end Go.Proofs.YtpgbbmdfnmjjjaaGreatDoor.Eq
namespace Go.Ra
open Go
theorem Ev.sel {α : Type} {c e : Bool} {a b : Nat → Option α} {x y : α} (h : c = e) (h1 : e = true → Ev a x) (h2 : e = false → Ev b y) : Ev (fun k => _root_.cond c (a k) (b k)) (_root_.cond e x y) := by
  subst h
  cases c with
  | true => exact h1 rfl
  | false => exact h2 rfl
theorem Ev.gd {α : Type} {c e : Bool} {a : Nat → Option α} {x d : α} (h : c = e) (h1 : e = true → Ev a x) : Ev (fun k => _root_.cond c (a k) (some d)) (_root_.cond e x d) := .sel h h1 fun _ => .pure _
end Go.Ra
namespace Go.Proofs.YtpgbbmdfnmjjjaaGreatDoor.Eq
open Go Go.Ra
set_option linter.unusedVariables false
theorem ev_up {β : Type} (n : Nat) (sp : Nat → β) (c : Nat → Int → Option β)
    (h1 : ∀ i : Nat, i < n → Ev (fun k => c k ((i + 1 : Nat) : Int)) (sp (i + 1)) → Ev (fun k => c k (i : Int)) (sp i)) (h2 : Ev (fun k => c k (n : Int)) (sp n)) : Ev (fun k => c k 0) (sp 0) := by
  have key : ∀ m i : Nat, n - i = m → i ≤ n → Ev (fun k => c k (i : Int)) (sp i) := by
    intro m
    induction m with
    | zero =>
      intro i hm hi
      have e : i = n := by omega
      subst e
      exact h2
    | succ m ih => exact fun i hm hi => h1 i (by omega) (ih (i + 1) (by omega) (by omega))
  exact key _ 0 rfl (Nat.zero_le _)
theorem ev_up2 {β : Type} (n : Nat) (P : Nat → β → Prop) (c d : Nat → Int → Option β)
    (h1 : ∀ i : Nat, i < n → (∃ y, Ev (fun k => c k ((i + 1 : Nat) : Int)) y ∧ Ev (fun k => d k ((i + 1 : Nat) : Int)) y ∧ P (i + 1) y) → ∃ y, Ev (fun k => c k (i : Int)) y ∧ Ev (fun k => d k (i : Int)) y ∧ P i y)
    (h2 : ∃ y, Ev (fun k => c k (n : Int)) y ∧ Ev (fun k => d k (n : Int)) y ∧ P n y) : ∃ y, Ev (fun k => c k 0) y ∧ Ev (fun k => d k 0) y ∧ P 0 y := by
  have key : ∀ m i : Nat, n - i = m → i ≤ n → ∃ y, Ev (fun k => c k (i : Int)) y ∧ Ev (fun k => d k (i : Int)) y ∧ P i y := by
    intro m
    induction m with
    | zero =>
      intro i hm hi
      have e : i = n := by omega
      subst e
      exact h2
    | succ m ih => exact fun i hm hi => h1 i (by omega) (ih (i + 1) (by omega) (by omega))
  exact key _ 0 rfl (Nat.zero_le _)
def nzF (f : Nat → Int) (d : Int) : Nat → Nat → Int
  | 0, _ => d
  | m + 1, i => cond (f i != 0) (f i) (nzF f d m (i + 1))
theorem nz_zero {f : Nat → Int} {d : Int} : ∀ {m i : Nat}, nzF f d m i = 0 → (∀ j, i ≤ j → j < i + m → f j = 0) ∧ d = 0
  | 0, i, h => ⟨fun j h1 h2 => by omega, h⟩
  | m + 1, i, h => by
    unfold nzF at h
    cases hf : (f i != 0) with
    | true =>
      rw [hf] at h
      have h' : f i = 0 := h
      rw [h'] at hf
      cases hf
    | false =>
      rw [hf] at h
      have h0 : f i = 0 := by simpa using hf
      obtain ⟨h1, h2⟩ := nz_zero (f := f) (d := d) (m := m) (i := i + 1) h
      refine ⟨fun j q1 q2 => ?_, h2⟩
      by_cases e : j = i
      · rw [e]; exact h0
      · exact h1 j (by omega) (by omega)
theorem ev_nz (n : Nat) (f : Nat → Int) (d : Int) (c : Nat → Int → Option Int)
    (h1 : ∀ i : Nat, i < n → ∀ y, Ev (fun k => c k ((i + 1 : Nat) : Int)) y → Ev (fun k => c k (i : Int)) (cond (f i != 0) (f i) y)) (h2 : Ev (fun k => c k (n : Int)) d) : Ev (fun k => c k 0) (nzF f d n 0) := by
  have := ev_up n (fun i => nzF f d (n - i) i) c (fun i hi h => by
    have e : n - i = (n - (i + 1)) + 1 := by omega
    show Ev _ (nzF f d (n - i) i)
    rw [e]
    exact h1 i hi _ h) (by
    show Ev _ (nzF f d (n - n) n)
    rw [Nat.sub_self]
    exact h2)
  exact this
def inB (a b c : Int) : Bool := decide (b ≤ a) && decide (a ≤ c)
theorem ev_within6 (a b c : Int) : Ev (fun k => interchangeref6_within k a b c) (inB a b c) := .step (fun k => interchangeref6_within_eq k _ _ _) (.to (.pure _) (by unfold inB; cases decide (b ≤ a) <;> rfl))
theorem ev_outF (a b c : Int) : Ev (fun k => kit_Outside k a b c) (!inB a b c) := .step (fun k => kit_Outside_eq k _ _ _) (.to (.pure _) (by
  unfold inB
  by_cases h1 : a < b
  · rw [decide_eq_true h1, decide_eq_false (by omega : ¬ b ≤ a)]; rfl
  · rw [decide_eq_false h1, decide_eq_true (by omega : b ≤ a)]
    by_cases h2 : a > c
    · rw [decide_eq_true h2, decide_eq_false (by omega : ¬ a ≤ c)]; rfl
    · rw [decide_eq_false h2, decide_eq_true (by omega : a ≤ c)]; rfl))
def markB (a : Int) : Bool := cond (cond (cond (cond (cond (cond (decide (a ≥ 32)) (decide (a ≤ 126)) false) (cond (decide (a < 48)) true (decide (a > 57))) false) (cond (decide (a < 65)) true (decide (a > 90))) false) (cond (decide (a < 97)) true (decide (a > 122))) false) (a != 45) false) (a != 46) false
theorem ev_rMark (a : Int) : Ev (fun k => interchangeref6_isMark k a) (markB a) := .step (fun k => interchangeref6_isMark_eq k _) (.pure _)
theorem enc_one {a : Int} (h1 : 0 ≤ a) (h2 : a < 128) : Utf8.encode a = B [UInt8.ofNat a.toNat] := by
  have : ∀ n : Fin 128, Utf8.encode (n.val : Int) = B [UInt8.ofNat n.val] := by decide +kernel
  have h := this ⟨a.toNat, by omega⟩
  have e : ((a.toNat : Nat) : Int) = a := Int.toNat_of_nonneg h1
  rw [e] at h
  exact h
theorem ev_alnum (l : List UInt8) (hn : l.length ≤ 9223372036854775807) : Ev (fun k => kit_IsTagPart k (B l)) (l.all bdB) := by
  refine .step (fun k => kit_IsTagPart_eq k _) (.bind (x := B (Lib.trimS l alnum)) ?_ (.to (.pure _) ?_))
  · refine .off (n := 0) fun k => ?_
    have e3 : (B l).data.toList = l := L_B l
    rw [strings_Trim_eq, size_B, e3, decide_eq_true hn]
    rfl
  · have ha : (fun x => alnum.contains x) = bdB := funext alnum_iff
    have := trimS_nil l alnum
    rw [ha] at this
    rw [eqS_nil, L_B]
    cases hl : l.all bdB with
    | true => rw [this.2 hl]; rfl
    | false =>
      have h2 : Lib.trimS l alnum ≠ [] := fun z => by rw [this.1 z] at hl; cases hl
      cases ht : Lib.trimS l alnum with
      | nil => exact absurd ht h2
      | cons => rfl
theorem mark_fin : ∀ n : Fin 128, (cond (cond (cond (cond (cond (decide ((n.val : Int) < 32)) true (decide ((n.val : Int) > 126))) true ([UInt8.ofNat n.val].all bdB)) true (([UInt8.ofNat n.val] : List UInt8).all fun b => decide ((97 : Int) ≤ (b.toNat : Int)) && decide ((b.toNat : Int) ≤ 122))) true ((n.val : Int) == 45)) true ((n.val : Int) == 46)) = !markB (n.val : Int) := by decide +kernel
theorem ev_mark (a : Int) : Ev (fun k => flat_markFault k a) (!markB a) := by
  refine .step (fun k => flat_markFault_eq k _) ?_
  by_cases h : a < 32 ∨ a > 126
  · have e : (cond (decide (a < 32)) true (decide (a > 126))) = true := by
      rcases h with h | h
      · rw [decide_eq_true h]; rfl
      · rw [decide_eq_true h]; cases decide (a < 32) <;> rfl
    rw [e]
    refine .bind (x := false) (.ff rfl (.pure _)) (.bind (x := false) (.ff rfl (.pure _)) (.to (.pure _) ?_))
    have : markB a = false := by
      unfold markB
      rcases h with h | h
      · rw [decide_eq_false (by omega : ¬ a ≥ 32)]; rfl
      · rw [decide_eq_false (by omega : ¬ a ≤ 126)]; cases decide (a ≥ 32) <;> rfl
    rw [this]
    rfl
  · have e : (cond (decide (a < 32)) true (decide (a > 126))) = false := by
      rw [decide_eq_false (by omega : ¬ a < 32), decide_eq_false (by omega : ¬ a > 126)]
      rfl
    have hm := mark_fin ⟨a.toNat, by omega⟩
    have ea : ((a.toNat : Nat) : Int) = a := Int.toNat_of_nonneg (by omega)
    rw [ea, e] at hm
    rw [e, enc_one (by omega) (by omega)]
    refine .bind (.tt rfl (ev_alnum _ (by simp))) ?_
    cases h1 : ([UInt8.ofNat a.toNat].all bdB) with
    | true =>
      rw [h1] at hm
      refine .bind (x := false) (.ff rfl (.pure _)) (.to (.pure _) ?_)
      rw [← hm]
      rfl
    | false =>
      rw [h1] at hm
      have h2 := ev_InBytes (B [UInt8.ofNat a.toNat]) 97 122 (by rw [size_B]; simp)
      rw [L_B] at h2
      exact .bind (.tt rfl h2) (.to (.pure _) hm)
def mk12 (a b : Int) : Bool := (a != 0) && (!markB a || ((b != 0) && !markB b) || (a == b))
def mk3 (a b : Int) : Bool := (a == 0) && (b != 0)
theorem ev_marks (a : Fmt) : Ev (fun k => flat_marksFault k a) (cond (mk12 a.1 a.2.1) 12 (cond (mk3 a.1 a.2.1) 3 0)) := by
  refine .step (fun k => flat_marksFault_eq k _) (.bind (.gd rfl fun _ => ev_mark _) (.bind (.gd rfl fun _ => ev_mark _) (.sel ?_ (fun _ => .pure _) fun _ => .sel ?_ (fun _ => .pure _) fun _ => .pure _)))
  · unfold mk12
    cases (a.1 != 0) <;> cases markB a.1 <;> cases (a.2.1 != 0) <;> cases markB a.2.1 <;> cases (a.1 == a.2.1) <;> rfl
  · unfold mk3
    cases (a.1 == 0) <;> rfl
def tagB (s : ByteArray) : Bool := inB (s.size : Int) 1 6 && (L s).all bdB
theorem bdB_int (b : UInt8) : cond (cond (decide (((b.toNat : Nat) : Int) < 65)) true (decide (((b.toNat : Nat) : Int) > 90))) (cond (decide (((b.toNat : Nat) : Int) < 48)) true (decide (((b.toNat : Nat) : Int) > 57))) false = !bdB b := by
  have : ∀ n : Fin 256, cond (cond (decide ((n.val : Int) < 65)) true (decide ((n.val : Int) > 90))) (cond (decide ((n.val : Int) < 48)) true (decide ((n.val : Int) > 57))) false = !bdB (UInt8.ofNat n.val) := by decide +kernel
  have h := this ⟨b.toNat, b.toNat_lt⟩
  simpa using h
theorem drop_at {l : List UInt8} {i : Nat} (hi : i < l.length) : l.drop i = l.getD i 0 :: l.drop (i + 1) := by
  rw [List.drop_eq_getElem_cons hi, List.getD_eq_getElem?_getD, List.getElem?_eq_getElem hi]
  rfl
theorem ev_rTag (s : ByteArray) (hs : s.size < 1125899906842624) : Ev (fun k => interchangeref6_isTag k s) (tagB s) := by
  have hsz := size_L s
  refine .step (fun k => interchangeref6_isTag_eq k _) ?_
  have := ev_up s.size (fun i => ((L s).drop i).all bdB && inB (s.size : Int) 1 6) (fun k i => interchangeref6_isTag_c2 k s (s.size : Int) i) (fun i hi h => ?_) ?_
  · refine this.to ?_
    unfold tagB
    simp only [List.drop_zero]
    cases (L s).all bdB <;> cases inB (s.size : Int) 1 6 <;> rfl
  · refine .step (fun k => interchangeref6_isTag_c2_eq k _ _ _) (.ck (by omega) (.ck (by omega) (.ck (by omega) ?_)))
    refine .tt (bor' fun _ => by simp) (.tt (bor' fun _ => by simp; omega) (.tt (bor' fun _ => by simp) (.tt (bor' fun _ => by simp; omega) (.tt (bor' fun _ => by simp) (.tt (bor' fun _ => by simp; omega) ?_)))))
    rw [bt_at hi, wj hi hs]
    show Ev _ (((L s).drop i).all bdB && inB (s.size : Int) 1 6)
    rw [drop_at (l := L s) (i := i) (by omega), List.all_cons]
    have eL : (L s).getD i 0 = s.data.toList.getD i 0 := rfl
    rw [eL, bdB_int]
    cases hb : bdB (s.data.toList.getD i 0) with
    | false => exact .pure _
    | true => exact h
  · refine .step (fun k => interchangeref6_isTag_c2_eq k _ _ _) (.nk (by omega) (.bind (ev_within6 _ _ _) (.to (.pure _) ?_)))
    show _ = (((L s).drop s.size).all bdB && inB (s.size : Int) 1 6)
    rw [List.drop_of_length_le (by omega)]
    rfl
def wOf (f : Int) : Int := cond (f == 1) 8 (cond (f == 3) 8 (cond (f == 4) 10 (cond (f == 5) 7 0)))
theorem ev_formWidth (f : Int) : Ev (fun k => flat_formWidth k f) (wOf f) := by
  refine .step (fun k => flat_formWidth_eq k _) ?_
  unfold wOf
  refine .sel rfl (fun h => .tt h (.pure _)) fun _ => .sel rfl (fun _ => .pure _) fun _ => .sel rfl (fun _ => .pure _) fun _ => .sel rfl (fun _ => .pure _) fun _ => .pure _
theorem wOf_zero (f : Int) : (wOf f == 0) = (!inB f 1 5 || (f == 2)) := by
  unfold wOf inB
  by_cases h1 : f = 1
  · subst h1; rfl
  by_cases h2 : f = 2
  · subst h2; rfl
  by_cases h3 : f = 3
  · subst h3; rfl
  by_cases h4 : f = 4
  · subst h4; rfl
  by_cases h5 : f = 5
  · subst h5; rfl
  rw [beq_false_of_ne h1, beq_false_of_ne h2, beq_false_of_ne h3, beq_false_of_ne h4, beq_false_of_ne h5]
  by_cases h : 1 ≤ f
  · rw [decide_eq_true h, decide_eq_false (by omega : ¬ f ≤ 5)]; rfl
  · rw [decide_eq_false h]; rfl
theorem ev_widthOf (f : Int) (h : (wOf f == 0) = false) : Ev (fun k => interchangeref6_widthOf k f) (wOf f) := by
  refine .step (fun k => interchangeref6_widthOf_eq k _) ?_
  unfold wOf at *
  by_cases h1 : f = 1
  · subst h1; exact .pure _
  by_cases h3 : f = 3
  · subst h3; exact .pure _
  by_cases h4 : f = 4
  · subst h4; exact .pure _
  by_cases h5 : f = 5
  · subst h5; exact .pure _
  rw [beq_false_of_ne h1, beq_false_of_ne h3, beq_false_of_ne h4, beq_false_of_ne h5] at h
  cases h
def busy (m : Int) (b : Col) : Bool := (!(b.2.1 == 2) && !(b.2.2.2.1 == 0)) || (!(b.2.1 == 3) && !(b.2.2.2.2.1 == 0)) || (((b.2.1 == 3) || !(m == 0)) && (b.2.2.2.2.2.1 || !(b.2.2.2.2.2.2.1 == 0)))
def colF (m : Int) (own : Bool) (b : Col) : Int :=
  cond (!nameB b.1) 5 (cond (!own) 7 (cond (!inB b.2.1 1 3) 4 (cond (!inB b.2.2.1 1 100) 1 (cond ((b.2.1 == 2) && !inB b.2.2.2.1 0 9) 1 (cond ((b.2.1 == 3) && (wOf b.2.2.2.2.1 == 0)) 4
    (cond (busy m b) 3 (cond (m != 0) 0 (cond (b.2.1 == 3) (cond (b.2.2.1 != wOf b.2.2.2.2.1) 12 0) (cond (!(b.2.2.2.2.2.2.1 == 32) && !((b.2.1 == 2) && (b.2.2.2.2.2.2.1 == 48) && b.2.2.2.2.2.1)) 3 0)))))))))
theorem ev_idle (a : Fmt) (b : Col) : Ev (fun k => flat_idle k a b) (!busy a.1 b) := by
  refine .step (fun k => flat_idle_eq k _ _) (.to (.pure _) ?_)
  unfold busy
  generalize (b.2.1 == 2) = x1
  generalize (b.2.2.2.1 == 0) = x2
  generalize (b.2.1 == 3) = x3
  generalize (b.2.2.2.2.1 == 0) = x4
  generalize (a.1 == 0) = x5
  generalize b.2.2.2.2.2.1 = x6
  generalize (b.2.2.2.2.2.2.1 == 0) = x7
  revert x1 x2 x3 x4 x5 x6 x7
  decide
theorem ev_IsNameR (s : ByteArray) : Ev (fun k => interchangeref1_IsName k s) (nameB s) := .step (fun k => interchangeref1_IsName_eq k _) (.ret (ev_isName s) rfl)
theorem ev_rColumn (a : Fmt) (kd : Knd) (i : Nat) (hi : i < kd.2.1.length) (hn : kd.2.1.length < 1125899906842624) : Ev (fun k => interchangeref6_checkColumn k a kd (i : Int)) (colF a.1 (cOf kd.2.1 (kd.2.1[i]).1 == (i : Int)) kd.2.1[i]) := by
  refine .step (fun k => interchangeref6_checkColumn_eq k _ _ _) (.ck (by omega) (.ck (by omega) ?_))
  rw [getD_at hi]
  generalize kd.2.1[i] = b
  unfold colF
  refine .bind (ev_IsNameR b.1) (.sel rfl (fun _ => .pure _) fun _ => .bind (ev_rcolumnOf kd b.1 hn) (.sel rfl (fun _ => .pure _) fun _ => .bind (ev_within6 _ _ _) (.sel rfl (fun _ => .pure _) fun _ => .bind (ev_within6 _ _ _) (.sel rfl (fun _ => .pure _) fun _ => ?_))))
  refine .bind (.gd rfl fun _ => ev_within6 _ _ _) (.sel ?_ (fun _ => .pure _) fun _ => .bind (.gd rfl fun _ => ev_within6 _ _ _) (.sel ?_ (fun _ => .pure _) fun hf => .sel ?_ (fun _ => .pure _) fun _ => .sel rfl (fun _ => .pure _) fun _ => .sel rfl (fun h3 => ?_) fun h3 => .sel ?_ (fun _ => .pure _) fun _ => .pure _))
  · cases (b.2.1 == 2) <;> rfl
  · rw [wOf_zero]
    cases (b.2.1 == 3) <;> cases inB b.2.2.2.2.1 1 5 <;> cases (b.2.2.2.2.1 == 2) <;> rfl
  · unfold busy bne
    generalize (b.2.1 == 2) = x1
    generalize (b.2.2.2.1 == 0) = x2
    generalize (b.2.1 == 3) = x3
    generalize (b.2.2.2.2.1 == 0) = x4
    generalize (a.1 == 0) = x5
    generalize b.2.2.2.2.2.1 = x6
    generalize (b.2.2.2.2.2.2.1 == 0) = x7
    revert x1 x2 x3 x4 x5 x6 x7
    decide
  · rw [h3, Bool.true_and] at hf
    exact .bind (ev_widthOf _ hf) (.sel rfl (fun _ => .pure _) fun _ => .pure _)
  · unfold bne
    generalize (b.2.1 == 2) = x1
    generalize b.2.2.2.2.2.1 = x6
    generalize (b.2.2.2.2.2.2.1 == 32) = x7
    generalize (b.2.2.2.2.2.2.1 == 48) = x8
    revert x1 x6 x7 x8
    decide
theorem ev_column (a : Fmt) (b : Col) (c : List Col) (hc : c.length < 1125899906842624) : Ev (fun k => flat_columnFault k a b c) (colF a.1 (!decide (0 ≤ cOf c b.1)) b) := by
  refine .step (fun k => flat_columnFault_eq k _ _ _) ?_
  unfold colF
  refine .bind (ev_IsName b.1) (.sel rfl (fun _ => .pure _) fun _ => .bind (ev_hasCf c b hc) (.sel (by simp) (fun _ => .pure _) fun _ => .bind (ev_outF _ _ _) (.sel rfl (fun _ => .pure _) fun _ => .bind (ev_outF _ _ _) (.sel rfl (fun _ => .pure _) fun _ => ?_))))
  refine .bind (.gd rfl fun _ => ev_outF _ _ _) (.sel ?_ (fun _ => .pure _) fun _ => .bind (.gd rfl fun _ => ev_formWidth _) (.sel ?_ (fun _ => .pure _) fun hf => .bind (ev_idle _ _) (.sel (by simp) (fun _ => .pure _) fun _ => .sel rfl (fun _ => .pure _) fun _ => ?_)))
  · cases (b.2.1 == 2) <;> rfl
  · cases (b.2.1 == 3) <;> rfl
  · cases h3 : (b.2.1 == 3) with
    | true =>
      show Ev _ (cond (b.2.2.1 != wOf b.2.2.2.2.1) 12 0)
      exact .ff rfl (.bind (.tt rfl (ev_formWidth _)) (.sel rfl (fun _ => .pure _) fun _ => .pure _))
    | false =>
      show Ev _ (cond (!(b.2.2.2.2.2.2.1 == 32) && !((b.2.1 == 2) && (b.2.2.2.2.2.2.1 == 48) && b.2.2.2.2.2.1)) 3 0)
      refine .sel ?_ (fun _ => .pure _) fun _ => .bind (x := 0) (.ff rfl (.pure _)) (.ff rfl (.pure _))
      unfold bne
      generalize (b.2.1 == 2) = x1
      generalize b.2.2.2.2.2.1 = x6
      generalize (b.2.2.2.2.2.2.1 == 32) = x7
      generalize (b.2.2.2.2.2.2.1 == 48) = x8
      revert x1 x6 x7 x8
      decide
end Go.Proofs.YtpgbbmdfnmjjjaaGreatDoor.Eq
namespace Go.Proofs.YtpgbbmdfnmjjjaaGreatDoor.Eq
open Go Go.Ra
set_option linter.unusedVariables false
structure FitF (a : Fmt) : Prop where
  n : a.2.2.1.length < 1125899906842624
  t : ∀ kd ∈ a.2.2.1, kd.1.size < 1125899906842624
  c : ∀ kd ∈ a.2.2.1, kd.2.1.length < 1125899906842624
def colAt (m : Int) (cs : List Col) (j : Nat) : Int := colF m (cOf cs (cs.getD j col0).1 == (j : Int)) (cs.getD j col0)
def kndT (a : Fmt) (i : Nat) (kd : Knd) : Int := cond (!inB kd.2.2.1 0 2000) 1 (cond (!(eqS kd.2.2.2 (bs [])) && (decide (kOf a.2.2.1 kd.2.2.2 < 0) || decide (kOf a.2.2.1 kd.2.2.2 ≥ (i : Int)))) 5 0)
def kndF (a : Fmt) (i : Nat) (kd : Knd) : Int :=
  cond (!tagB kd.1) 3 (cond (!(kOf a.2.2.1 kd.1 == (i : Int))) 7 (cond ((a.1 == 0) && ((kd.1.size : Int) != ((a.2.2.1.getD 0 knd0).1.size : Int))) 3 (cond (decide ((kd.2.1.length : Int) > 50)) 2 (nzF (colAt a.1 kd.2.1) (kndT a i kd) kd.2.1.length 0))))
theorem getD_nat {α : Type} {l : List α} {i : Nat} (h : i < l.length) (d : α) : l.getD i d = l[i] := by
  rw [List.getD_eq_getElem?_getD, List.getElem?_eq_getElem h]
  rfl
theorem ev_rKindF (a : Fmt) (i : Nat) (hi : i < a.2.2.1.length) (ha : FitF a) : Ev (fun k => interchangeref6_checkKind k a (i : Int)) (kndF a i a.2.2.1[i]) := by
  have hc := ha.c _ (List.getElem_mem hi)
  have ht := ha.t _ (List.getElem_mem hi)
  have hn := ha.n
  refine .step (fun k => interchangeref6_checkKind_eq k _ _) (.ck (by omega) (.ck (by omega) ?_))
  rw [getD_at hi]
  generalize a.2.2.1[i] = kd at *
  unfold kndF
  refine .bind (ev_rTag _ ht) (.sel rfl (fun _ => .pure _) fun _ => .bind (ev_rkindOf a _ hn) (.sel rfl (fun _ => .pure _) fun _ => .tt (by simp) (.tt (by simp; omega) (.sel ?_ (fun _ => .pure _) fun _ => .sel rfl (fun _ => .pure _) fun _ => ?_))))
  · cases (a.1 == 0) <;> rfl
  · refine ev_nz kd.2.1.length (colAt a.1 kd.2.1) (kndT a i kd) (fun k j => interchangeref6_checkKind_c11 k (i : Int) a kd (kd.2.1.length : Int) j) (fun j hj y hy => ?_) ?_
    · refine .step (fun k => interchangeref6_checkKind_c11_eq k _ _ _ _ _) (.ck (by omega) (.bind (ev_rColumn a kd j hj hc) ?_))
      rw [wj hj hc]
      unfold colAt
      rw [getD_nat hj]
      exact .sel rfl (fun _ => .pure _) fun _ => hy
    · unfold kndT
      refine .step (fun k => interchangeref6_checkKind_c11_eq k _ _ _ _ _) (.nk (by omega) (.bind (ev_within6 _ _ _) (.sel rfl (fun _ => .pure _) fun _ => .bind (ev_rkindOf a _ hn) (.sel ?_ (fun _ => .pure _) fun _ => .pure _))))
      cases eqS kd.2.2.2 (bs []) <;> cases decide (kOf a.2.2.1 kd.2.2.2 < 0) <;> rfl
theorem own_eq {α : Type} (p : α → Bool) (l : List α) (i : Nat) (hi : i < l.length) (h : p l[i] = true) : (!decide (0 ≤ ixI p (l.take i))) = (ixI p l == (i : Int)) := by
  have := ixI_own p l i hi h
  by_cases h2 : ixI p l = (i : Int)
  · rw [h2, beq_self_eq_true, decide_eq_false (fun z => this.2 z h2)]; rfl
  · rw [beq_false_of_ne h2, decide_eq_true (this.1 h2)]; rfl
theorem take_lt {α : Type} {l : List α} {i n : Nat} (h : l.length < n) : (l.take i).length < n := by
  rw [List.length_take]; omega
theorem ev_kind (a : Fmt) (i : Nat) (hi : i < a.2.2.1.length) (ha : FitF a) : Ev (fun k => flat_kindFault k a (i : Int)) (kndF a i a.2.2.1[i]) := by
  have hc := ha.c _ (List.getElem_mem hi)
  have ht := ha.t _ (List.getElem_mem hi)
  have hn := ha.n
  have hown := own_eq (tagP (a.2.2.1[i]).1) a.2.2.1 i hi (eqS_self _)
  refine .step (fun k => flat_kindFault_eq k _ _) (.ck (by omega) (.ck (by omega) ?_))
  rw [getD_at hi]
  generalize a.2.2.1[i] = kd at *
  unfold kndF
  have hin : (cond (decide ((kd.1.size : Int) < 1)) true (decide ((kd.1.size : Int) > 6))) = !inB (kd.1.size : Int) 1 6 := by
    unfold inB
    by_cases h1 : (kd.1.size : Int) < 1
    · rw [decide_eq_true h1, decide_eq_false (by omega : ¬ (1 : Int) ≤ (kd.1.size : Int))]; rfl
    · rw [decide_eq_false h1, decide_eq_true (by omega : (1 : Int) ≤ (kd.1.size : Int))]
      by_cases h2 : (kd.1.size : Int) > 6
      · rw [decide_eq_true h2, decide_eq_false (by omega : ¬ (kd.1.size : Int) ≤ 6)]; rfl
      · rw [decide_eq_false h2, decide_eq_true (by omega : (kd.1.size : Int) ≤ 6)]; rfl
  have htag := ev_alnum (L kd.1) (by have := size_L kd.1; omega)
  rw [B_L] at htag
  rw [hin]
  refine .bind (.gd rfl fun _ => htag) (.sel ?_ (fun _ => .pure _) fun _ => .ck (by omega) (.ck (by omega) ?_))
  · unfold tagB
    cases inB (kd.1.size : Int) 1 6 <;> cases (L kd.1).all bdB <;> rfl
  · rw [Int.toNat_natCast]
    refine .bind (ev_hasKf1 _ kd (take_lt hn)) (.sel ?_ (fun _ => .pure _) fun _ => .tt (by simp) (.tt (by simp; omega) (.sel ?_ (fun _ => .pure _) fun _ => .sel rfl (fun _ => .pure _) fun _ => ?_)))
    · show _ = !(ixI (tagP kd.1) a.2.2.1 == (i : Int))
      rw [← hown, Bool.not_not]
      rfl
    · cases (a.1 == 0) <;> rfl
    · refine ev_nz kd.2.1.length (colAt a.1 kd.2.1) (kndT a i kd) (fun k j => flat_kindFault_c12 k (i : Int) a kd kd.2.1 (kd.2.1.length : Int) j) (fun j hj y hy => ?_) ?_
      · have ho := own_eq (colP (kd.2.1[j]).1) kd.2.1 j hj (eqS_self _)
        have hcol := ev_column a kd.2.1[j] (kd.2.1.take j) (take_lt hc)
        have ho' : (!decide (0 ≤ cOf (kd.2.1.take j) (kd.2.1[j]).1)) = (cOf kd.2.1 (kd.2.1[j]).1 == (j : Int)) := ho
        rw [ho'] at hcol
        refine .step (fun k => flat_kindFault_c12_eq k _ _ _ _ _ _) (.ck (by omega) (.ck (by omega) (.ck (by omega) (.ck (by omega) (.ck (by omega) ?_)))))
        rw [getD_at hj, wj hj hc, Int.toNat_natCast]
        unfold colAt
        rw [getD_nat hj]
        exact .bind hcol (.sel rfl (fun _ => .pure _) fun _ => hy)
      · unfold kndT
        have htk := ixI_take (tagP kd.2.2.2) a.2.2.1 i (by omega)
        refine .step (fun k => flat_kindFault_c12_eq k _ _ _ _ _ _) (.nk (by omega) (.bind (ev_outF _ _ _) (.sel rfl (fun _ => .pure _) fun _ => .tt (by simp) (.tt (by simp; omega) ?_))))
        rw [Int.toNat_natCast]
        refine .bind (.gd rfl fun _ => ev_hasKf2 _ kd (take_lt hn)) (.sel ?_ (fun _ => .pure _) fun _ => .pure _)
        have e : decide (0 ≤ kOf (a.2.2.1.take i) kd.2.2.2) = !(decide (kOf a.2.2.1 kd.2.2.2 < 0) || decide (kOf a.2.2.1 kd.2.2.2 ≥ (i : Int))) := by
          unfold kOf
          by_cases h : 0 ≤ ixI (tagP kd.2.2.2) (a.2.2.1.take i)
          · have := htk.1 h
            rw [decide_eq_true h, decide_eq_false (by omega), decide_eq_false (by omega)]
            rfl
          · rw [decide_eq_false h]
            have h' : ¬ (0 ≤ ixI (tagP kd.2.2.2) a.2.2.1 ∧ ixI (tagP kd.2.2.2) a.2.2.1 < i) := fun z => h (htk.2 z)
            by_cases h1 : ixI (tagP kd.2.2.2) a.2.2.1 < 0
            · rw [decide_eq_true h1]; rfl
            · rw [decide_eq_false h1, decide_eq_true (by omega : ixI (tagP kd.2.2.2) a.2.2.1 ≥ (i : Int))]; rfl
        rw [e]
        cases eqS kd.2.2.2 (bs []) <;> cases (decide (kOf a.2.2.1 kd.2.2.2 < 0) || decide (kOf a.2.2.1 kd.2.2.2 ≥ (i : Int))) <;> rfl
def eB (s : ByteArray) : Bool := eqS s (bs [])
def cntB (cs : List Col) (c : ByteArray) (any : Bool) : Bool := decide (0 ≤ cOf cs c) && ((cs.getD (cOf cs c).toNat col0).2.1 == 2) && (any || ((cs.getD (cOf cs c).toNat col0).2.2.2.1 == 0))
def endF (a : Fmt) : Int :=
  cond ((!eB a.2.2.2.1 && decide (kOf a.2.2.1 a.2.2.2.1 < 0)) || (!eB a.2.2.2.2.1 && decide (kOf a.2.2.1 a.2.2.2.2.1 < 0))) 5 (cond (!eB a.2.2.2.1 && eqS a.2.2.2.1 a.2.2.2.2.1) 12 (cond (eB a.2.2.2.2.1 && (!eB a.2.2.2.2.2.1 || !eB a.2.2.2.2.2.2)) 3
    (cond ((!eB a.2.2.2.2.2.1 && !cntB (kAt a.2.2.1 a.2.2.2.2.1).1.2.1 a.2.2.2.2.2.1 false) || (!eB a.2.2.2.2.2.2 && !cntB (kAt a.2.2.1 a.2.2.2.2.1).1.2.1 a.2.2.2.2.2.2 true)) 5 (cond (!eB a.2.2.2.2.2.1 && eqS a.2.2.2.2.2.1 a.2.2.2.2.2.2) 12 0))))
theorem kAt_len (ks : List Knd) (t : ByteArray) (h : ∀ kd ∈ ks, kd.2.1.length < 1125899906842624) : (kAt ks t).1.2.1.length < 1125899906842624 := by
  unfold kAt
  split
  · rename_i h0
    obtain ⟨i, hi, e, _⟩ := ixI_get h0
    have e' : kOf ks t = (i : Int) := e
    rw [e']
    show (ks.getD ((i : Nat) : Int).toNat knd0).2.1.length < _
    rw [getD_at hi]
    exact h _ (List.getElem_mem hi)
  · exact Nat.zero_lt_succ _
theorem ev_rCount (a : Fmt) (ha : FitF a) (c : ByteArray) (any : Bool) (h0 : 0 ≤ kOf a.2.2.1 a.2.2.2.2.1) : Ev (fun k => interchangeref6_isCount k a c any) (cntB (kAt a.2.2.1 a.2.2.2.2.1).1.2.1 c any) := by
  have hlen := kAt_len a.2.2.1 a.2.2.2.2.1 ha.c
  have hl := ixI_lt (tagP a.2.2.2.2.1) a.2.2.1
  have e : (kAt a.2.2.1 a.2.2.2.2.1).1 = a.2.2.1.getD (kOf a.2.2.1 a.2.2.2.2.1).toNat knd0 := by unfold kAt; rw [if_pos h0]
  refine .step (fun k => interchangeref6_isCount_eq k _ _ _) (.bind (ev_rkindOf a _ ha.n) (.ck h0 (.ck hl.2 ?_)))
  rw [← e]
  generalize (kAt a.2.2.1 a.2.2.2.2.1).1 = kd at *
  have hcl := ixI_lt (colP c) kd.2.1
  have hcl' : cOf kd.2.1 c < kd.2.1.length := hcl.2
  refine .bind (ev_rcolumnOf kd c hlen) ?_
  refine .tt (bor' fun z => z) (.tt (bor' fun _ => by simpa using hcl') (.tt (bor' fun z => ?_) (.tt (bor' fun _ => by simpa using hcl') (.to (.pure _) ?_))))
  · cases h : decide (cOf kd.2.1 c ≥ 0) with
    | true => rfl
    | false => rw [h] at z; cases z
  · unfold cntB
    show _ = (decide (cOf kd.2.1 c ≥ 0) && _ && _)
    cases decide (cOf kd.2.1 c ≥ 0) <;> cases any <;> cases ((kd.2.1.getD (cOf kd.2.1 c).toNat col0).2.1 == 2) <;> rfl
theorem kAt_2 (ks : List Knd) (t : ByteArray) : (kAt ks t).2 = !decide (kOf ks t < 0) := by
  unfold kAt
  split
  · rw [decide_eq_false (by omega)]; rfl
  · rw [decide_eq_true (by omega)]; rfl
theorem ev_cnt {F : Nat → Option Int} {y : Int} (kd : Knd) (hl : kd.2.1.length < 1125899906842624) (c : ByteArray) (j : Int) (any : Bool) (hj : (j == 0) = !any) (hF : (!eB c && !cntB kd.2.1 c any) = false → Ev F y) :
    Ev (fun k => cond (eqS c (bs [])) (F k) ((flat_columnAt k kd c).bind fun y2 =>
      cond ((!(!(decide (y2 < 0)))) || (decide (0 ≤ y2))) (
      cond ((!(!(decide (y2 < 0)))) || (decide (y2 < (kd.2.1.length : Int)))) (
      cond ((!((!(cond (decide (y2 < 0)) true (((kd.2.1.getD y2.toNat col0).2).1 != 2))) && (j == 0))) || (decide (0 ≤ y2))) (
      cond ((!((!(cond (decide (y2 < 0)) true (((kd.2.1.getD y2.toNat col0).2).1 != 2))) && (j == 0))) || (decide (y2 < (kd.2.1.length : Int)))) (
      cond (cond (cond (decide (y2 < 0)) true (((kd.2.1.getD y2.toNat col0).2).1 != 2)) true (cond (j == 0) (((((kd.2.1.getD y2.toNat col0).2).2).2).1 != 0) false)) (
        some 5) (F k)) none) none) none) none)) (cond (!eB c && !cntB kd.2.1 c any) 5 y) := by
  have hcl := ixI_lt (colP c) kd.2.1
  have hcl' : cOf kd.2.1 c < kd.2.1.length := hcl.2
  have hneg : decide (0 ≤ cOf kd.2.1 c) = !decide (cOf kd.2.1 c < 0) := by
    by_cases h : cOf kd.2.1 c < 0
    · rw [decide_eq_true h, decide_eq_false (by omega)]; rfl
    · rw [decide_eq_false h, decide_eq_true (by omega)]; rfl
  cases he : eqS c (bs []) with
  | true =>
    have e2 : eB c = true := he
    rw [e2]
    rw [e2] at hF
    exact hF rfl
  | false =>
    have e2 : eB c = false := he
    rw [e2]
    rw [e2] at hF
    refine .bind (ev_columnAt kd c hl) (.tt (bor' fun z => ?_) (.tt (bor' fun _ => by simpa using hcl') (.tt (bor' fun z => ?_) (.tt (bor' fun _ => by simpa using hcl') (.sel ?_ (fun _ => .pure _) fun h => hF h)))))
    · rw [hneg]; simpa using z
    · rw [hneg]
      cases h : decide (cOf kd.2.1 c < 0) with
      | false => rfl
      | true => rw [h] at z; cases z
    · unfold cntB
      rw [hneg, hj]
      unfold bne
      cases decide (cOf kd.2.1 c < 0) <;> cases any <;> cases ((kd.2.1.getD (cOf kd.2.1 c).toNat col0).2.1 == 2) <;> cases ((kd.2.1.getD (cOf kd.2.1 c).toNat col0).2.2.2.1 == 0) <;> rfl
theorem ev_ends (a : Fmt) (ha : FitF a) : Ev (fun k => flat_endsFault k a) (endF a) := by
  have hlen := kAt_len a.2.2.1 a.2.2.2.2.1 ha.c
  refine .step (fun k => flat_endsFault_eq k _) (.step (fun k => flat_endsFault_c2_eq k _ _ _ _) (.ck (by decide) (.ck (by decide) (.ck (show (0 : Int) < ((2 : Nat) : Int) by decide) (.bind (ev_kindAt a a.2.2.2.1 ha.n) ?_)))))
  rw [kAt_2]
  unfold endF
  show Ev _ (cond ((!eB a.2.2.2.1 && decide (kOf a.2.2.1 a.2.2.2.1 < 0)) || (!eB a.2.2.2.2.1 && decide (kOf a.2.2.1 a.2.2.2.2.1 < 0))) 5 _)
  have e1 : ∀ (t : ByteArray), (cond (!(eqS t (bs []))) (!(!decide (kOf a.2.2.1 t < 0))) false) = (!eB t && decide (kOf a.2.2.1 t < 0)) := fun t => by
    show (cond (!eB t) _ false) = _
    cases eB t <;> cases decide (kOf a.2.2.1 t < 0) <;> rfl
  have g0 : ([a.2.2.2.1, a.2.2.2.2.1] : List ByteArray).getD (0 : Int).toNat (bs []) = a.2.2.2.1 := rfl
  have g1 : ([a.2.2.2.1, a.2.2.2.2.1] : List ByteArray).getD (wi64 (0 + 1)).toNat (bs []) = a.2.2.2.2.1 := rfl
  rw [g0, e1]
  cases hA : (!eB a.2.2.2.1 && decide (kOf a.2.2.1 a.2.2.2.1 < 0)) with
  | true => exact .pure _
  | false =>
    rw [Bool.false_or]
    refine .ff rfl (.step (fun k => flat_endsFault_c2_eq k _ _ _ _) (.ck (by decide) (.ck (by decide) (.ck (show (1 : Int) < ((2 : Nat) : Int) by decide) (.bind (ev_kindAt a _ ha.n) ?_)))))
    rw [kAt_2, g1, e1]
    refine .sel rfl (fun _ => .pure _) fun _ => .step (fun k => flat_endsFault_c2_eq k _ _ _ _) (.nk (by decide) (.sel ?_ (fun _ => .pure _) fun _ => .sel ?_ (fun _ => .pure _) fun _ => .bind (ev_kindAt a _ ha.n) ?_))
    · show (cond _ (!eB _) false) = _
      cases eB a.2.2.2.1 <;> cases eqS a.2.2.2.1 a.2.2.2.2.1 <;> rfl
    · show (cond (eB _) (cond (!eB _) true (!eB _)) false) = _
      cases eB a.2.2.2.2.1 <;> cases eB a.2.2.2.2.2.1 <;> cases eB a.2.2.2.2.2.2 <;> rfl
    · generalize (kAt a.2.2.1 a.2.2.2.2.1).1 = kd at *
      have key := ev_cnt (y := cond (!eB a.2.2.2.2.2.2 && !cntB kd.2.1 a.2.2.2.2.2.2 true) 5 (cond (!eB a.2.2.2.2.2.1 && eqS a.2.2.2.2.2.1 a.2.2.2.2.2.2) 12 0)) (F := fun k => flat_endsFault_c14 k a kd [a.2.2.2.2.2.1, a.2.2.2.2.2.2] 2 1) kd hlen a.2.2.2.2.2.1 0 false rfl fun _ => by
        refine .step (fun k => flat_endsFault_c14_eq k _ _ _ _ _) (.ck (by decide) (.ck (by decide) (.ck (show (1 : Int) < ((2 : Nat) : Int) by decide) ?_)))
        refine ev_cnt (F := fun k => flat_endsFault_c14 k a kd [a.2.2.2.2.2.1, a.2.2.2.2.2.2] 2 2) kd hlen a.2.2.2.2.2.2 1 true rfl fun _ => ?_
        refine .step (fun k => flat_endsFault_c14_eq k _ _ _ _ _) (.nk (by decide) (.sel ?_ (fun _ => .pure _) fun _ => .pure _))
        show (cond _ (!eB _) false) = _
        cases eB a.2.2.2.2.2.1 <;> cases eqS a.2.2.2.2.2.1 a.2.2.2.2.2.2 <;> rfl
      refine .step (fun k => flat_endsFault_c14_eq k _ _ _ _ _) (.ck (by decide) (.ck (by decide) (.ck (show (0 : Int) < ((2 : Nat) : Int) by decide) (key.to ?_))))
      cases (!eB a.2.2.2.2.2.1 && !cntB kd.2.1 a.2.2.2.2.2.1 false) <;> cases (!eB a.2.2.2.2.2.2 && !cntB kd.2.1 a.2.2.2.2.2.2 true) <;> rfl
def fmtF (a : Fmt) : Int := cond (mk12 a.1 a.2.1) 12 (cond (mk3 a.1 a.2.1) 3 (cond ((a.2.2.1.length : Int) == 0) 9 (cond (decide ((a.2.2.1.length : Int) > 30)) 2 (nzF (fun i => kndF a i (a.2.2.1.getD i knd0)) (endF a) a.2.2.1.length 0))))
theorem ev_CheckFormat (a : Fmt) (ha : FitF a) : Ev (fun k => flat_CheckFormat k a) (fmtF a) := by
  refine .step (fun k => flat_CheckFormat_eq k _) (.bind (ev_marks a) ?_)
  unfold fmtF
  cases mk12 a.1 a.2.1 with
  | true => exact .pure _
  | false =>
    cases mk3 a.1 a.2.1 with
    | true => exact .pure _
    | false =>
      show Ev _ (cond ((a.2.2.1.length : Int) == 0) 9 _)
      refine .ff rfl (.sel rfl (fun _ => .pure _) fun _ => .sel rfl (fun _ => .pure _) fun _ => ?_)
      refine ev_nz a.2.2.1.length _ _ (fun k i => flat_CheckFormat_c9 k a (a.2.2.1.length : Int) i) (fun i hi y hy => ?_) ?_
      · refine .step (fun k => flat_CheckFormat_c9_eq k _ _ _) (.ck (by omega) (.bind (ev_kind a i hi ha) ?_))
        rw [getD_nat hi, wj hi ha.n]
        exact .sel rfl (fun _ => .pure _) fun _ => hy
      · exact .step (fun k => flat_CheckFormat_c9_eq k _ _ _) (.nk (by omega) (.ret (ev_ends a ha) rfl))
theorem ev_rCheckFormat (a : Fmt) (ha : FitF a) : Ev (fun k => interchangeref6_CheckFormat k a) (fmtF a) := by
  refine .step (fun k => interchangeref6_CheckFormat_eq k _) (.bind (.gd rfl fun _ => ev_rMark _) (.bind (.gd rfl fun _ => ev_rMark _) ?_))
  unfold fmtF
  refine .sel ?_ (fun _ => .pure _) fun _ => .sel ?_ (fun _ => .pure _) fun _ => .sel rfl (fun _ => .pure _) fun _ => .sel rfl (fun _ => .pure _) fun _ => ?_
  · unfold mk12
    cases (a.1 != 0) <;> cases markB a.1 <;> cases (a.2.1 != 0) <;> cases markB a.2.1 <;> cases (a.1 == a.2.1) <;> rfl
  · unfold mk3
    cases (a.1 == 0) <;> rfl
  · refine ev_nz a.2.2.1.length _ _ (fun k i => interchangeref6_CheckFormat_c10 k a (a.2.2.1.length : Int) i) (fun i hi y hy => ?_) ?_
    · refine .step (fun k => interchangeref6_CheckFormat_c10_eq k _ _ _) (.ck (by omega) (.bind (ev_rKindF a i hi ha) ?_))
      rw [getD_nat hi, wj hi ha.n]
      exact .sel rfl (fun _ => .pure _) fun _ => hy
    · unfold endF
      refine .step (fun k => interchangeref6_CheckFormat_c10_eq k _ _ _) (.nk (by omega) (.bind (.gd (e := !eB a.2.2.2.1) rfl fun _ => ev_rkindOf a _ ha.n) (.bind (.gd rfl fun _ => ev_rkindOf a _ ha.n) (.sel ?_ (fun _ => .pure _) fun h5 => .sel ?_ (fun _ => .pure _) fun _ => .sel ?_ (fun _ => .pure _) fun h3 => ?_))))
      · show (cond (cond (!eB _) _ false) true (cond (!eB _) _ false)) = _
        cases h1 : eB a.2.2.2.1 <;> cases h2 : eB a.2.2.2.2.1 <;> cases h3 : decide (kOf a.2.2.1 a.2.2.2.1 < 0) <;> simp [h3, h1, h2, show eqS a.2.2.2.2.1 (bs []) = eB a.2.2.2.2.1 from rfl, show eqS a.2.2.2.1 (bs []) = eB a.2.2.2.1 from rfl]
      · show (cond (!eB _) _ false) = _
        cases eB a.2.2.2.1 <;> rfl
      · show (cond (eB _) (cond (!eB _) true (!eB _)) false) = _
        cases eB a.2.2.2.2.1 <;> cases eB a.2.2.2.2.2.1 <;> cases eB a.2.2.2.2.2.2 <;> rfl
      · have hk : ∀ c : ByteArray, (c = a.2.2.2.2.2.1 ∨ c = a.2.2.2.2.2.2) → (!eqS c (bs [])) = true → 0 ≤ kOf a.2.2.1 a.2.2.2.2.1 := fun c hc z => by
          have z' : eB c = false := by simpa [eB] using z
          have h3' : eB a.2.2.2.2.1 = false := by
            cases he : eB a.2.2.2.2.1 with
            | false => rfl
            | true =>
              rw [he] at h3
              rcases hc with hc | hc
              · rw [← hc, z'] at h3; cases h3
              · rw [← hc, z'] at h3
                cases hq : eB a.2.2.2.2.2.1 <;> rw [hq] at h3 <;> cases h3
          rw [h3'] at h5
          rcases Int.lt_or_le (kOf a.2.2.1 a.2.2.2.2.1) 0 with hlt | hge
          · rw [decide_eq_true hlt] at h5
            cases hq : (!eB a.2.2.2.1 && decide (kOf a.2.2.1 a.2.2.2.1 < 0)) <;> rw [hq] at h5 <;> cases h5
          · exact hge
        refine .bind (.gd rfl fun z => ev_rCount a ha _ false (hk _ (.inl rfl) z)) (.bind (.gd rfl fun z => ev_rCount a ha _ true (hk a.2.2.2.2.2.2 (.inr rfl) ?_)) (.sel ?_ (fun _ => .pure _) fun _ => .sel ?_ (fun _ => .pure _) fun _ => .pure _))
        · simp only [Bool.and_eq_true] at z
          exact z.2
        · show (cond (cond (!eB _) _ false) true (cond (!eB _) _ false)) = _
          have r1 : eqS a.2.2.2.2.2.1 (bs []) = eB a.2.2.2.2.2.1 := rfl
          have r2 : eqS a.2.2.2.2.2.2 (bs []) = eB a.2.2.2.2.2.2 := rfl
          rw [r1, r2]
          cases eB a.2.2.2.2.2.1 <;> cases eB a.2.2.2.2.2.2 <;> cases cntB (kAt a.2.2.1 a.2.2.2.2.1).1.2.1 a.2.2.2.2.2.1 false <;> rfl
        · show (cond (!eB _) _ false) = _
          cases eB a.2.2.2.2.2.1 <;> rfl
end Go.Proofs.YtpgbbmdfnmjjjaaGreatDoor.Eq
namespace Go.Proofs.YtpgbbmdfnmjjjaaGreatDoor.Eq
open Go Go.Ra
set_option linter.unusedVariables false

end Go.Proofs.YtpgbbmdfnmjjjaaGreatDoor.Eq
namespace Go.Proofs.YtpgbbmdfnmjjjaaGreatDoor.Eq
open Go Go.Ra
set_option linter.unusedVariables false

/- the reference -/
end Go.Proofs.YtpgbbmdfnmjjjaaGreatDoor.Eq
namespace Go.Ra
open Go Go.Ra
theorem dec_mul10 {n : Nat} (h : 0 < n) : Lib.decDigits (n * 10) = Lib.decDigits n ++ [48] := by
  rw [← dec_rev (n * 10) (n * 10) (Nat.le_refl _) (by omega), revDig_step (by omega), show n * 10 % 10 = 0 by omega, show n * 10 / 10 = n by omega, List.reverse_cons, dec_rev n n (Nat.le_refl _) h]
  rfl
theorem dec_mulP {n : Nat} (h : 0 < n) : ∀ k : Nat, Lib.decDigits (n * 10 ^ k) = Lib.decDigits n ++ List.replicate k 48
  | 0 => by simp
  | k + 1 => by
    rw [Nat.pow_succ, ← Nat.mul_assoc, dec_mul10 (Nat.mul_pos h (Nat.pow_pos (by decide))), dec_mulP h k, List.append_assoc, List.replicate_succ']
theorem dec_all (n : Nat) : ∀ b ∈ Lib.decDigits n, dgB b = true := digB_all (dec_dig n).1
end Go.Ra
namespace Go.Proofs.YtpgbbmdfnmjjjaaGreatDoor.Eq
open Go Go.Ra
set_option linter.unusedVariables false

theorem dg_ne {l : List UInt8} (h : ∀ b ∈ l, dgB b = true) {c : UInt8} (hc : dgB c = false) : c ∉ l := fun z => by rw [h c z] at hc; exact absurd hc (by decide)
theorem ev_TrimPre45 (s : ByteArray) : Ev (fun k => strings_TrimPrefix k s (B [45])) (B (cutP (L s)).1) := by
  have hsz := size_L s
  have h1 : (B [45]).size = 1 := rfl
  refine .step (fun k => strings_TrimPrefix_eq k _ _) (.ret (.step (fun k => stringslite_TrimPrefix_eq k _ _) (.bind (ev_HasPre s 45) ?_)) rfl)
  unfold cutP
  by_cases h : (L s).head? = some 45
  · rw [if_pos h, decide_eq_true h]
    have : 1 ≤ (L s).length := by
      cases hl : L s with
      | nil => rw [hl] at h; simp at h
      | cons => simp
    refine .tt rfl (.ck (by omega) (.ck (by rw [h1]; omega) (.to (.pure _) ?_)))
    rw [h1]
    rw [← B_L (s.extract _ _), L_ext, List.take_of_length_le (by omega)]
    rfl
  · rw [if_neg h, decide_eq_false h]
    refine .ff rfl (.to (.pure _) ?_)
    rw [B_L]
theorem cutP_itoa (n : Int) : (cutP (Lib.itoa n)).1 = Lib.decDigits n.natAbs := by
  unfold Lib.itoa cutP
  by_cases h : n < 0
  · simp [h]
  · rw [if_neg h]
    have e : n.toNat = n.natAbs := by omega
    rw [e]
    have := dg_ne (dec_all n.natAbs) (c := 45) (by decide)
    cases hd : Lib.decDigits n.natAbs with
    | nil => simp
    | cons b t =>
      rw [hd] at this
      have hb : b ≠ 45 := fun z => this (by simp [z])
      simp [hb]
end Go.Proofs.YtpgbbmdfnmjjjaaGreatDoor.Eq
namespace Go.Ra
open Go Go.Ra
end Go.Ra
namespace Go.Proofs.YtpgbbmdfnmjjjaaGreatDoor.Eq
open Go Go.Ra
set_option linter.unusedVariables false

def rdR (neg : Bool) (l m : List UInt8) : (Int × Int) × Int := if neg = true then (if dv (l ++ m) = 0 then ((0, 0), 10) else mk (-((dv (l ++ m) : Nat) : Int)) m.length) else mk ((dv (l ++ m) : Nat) : Int) m.length
theorem ev_aread (neg : Bool) (l m : List UInt8) (h : ∀ b ∈ l ++ m, dgB b = true) (hl : (l ++ m).length ≤ 60) : Ev (fun k => amount_read k neg (B l) (B m)) (rdR neg l m) := by
  have hl' := hl
  rw [List.length_append] at hl'
  refine .step (fun k => amount_read_eq k _ _ _) (.bind (ev_Of 0 (by decide) (by decide)) (.ck (by rw [size_B, size_B]; omega) ?_))
  rw [B_app, size_B]
  have sm : ∀ i, Sm ((dv ((l ++ m).take i) : Nat) : Int) := fun i => by
    refine .of ?_
    rw [Int.natAbs_natCast]
    have h1 : dv ((l ++ m).take i) < 10 ^ ((l ++ m).take i).length := dv_lt fun b hb => h b (List.mem_of_mem_take hb)
    have h2 : (10 : Nat) ^ ((l ++ m).take i).length ≤ 10 ^ 60 := Nat.pow_le_pow_right (by decide) (by rw [List.length_take]; omega)
    exact Nat.le_trans (Nat.le_of_lt h1) (Nat.le_trans h2 (by decide +kernel))
  have key : ∀ (j i : Nat), (l ++ m).length - i = j → i ≤ (l ++ m).length → Ev (fun k => amount_read_c3 k neg (B l) (B m) (0, 0) (W ((dv ((l ++ m).take i) : Nat) : Int)) ((l ++ m).length : Int) (i : Int)) (rdR neg l m) := by
    intro j
    induction j with
    | zero =>
      intro i hj hi
      have hsm := sm i
      refine .step (fun k => amount_read_c3_eq k _ _ _ _ _ _ _) (.nk (by omega) ?_)
      rw [List.take_of_length_le (by omega)] at hsm ⊢
      unfold rdR
      cases neg with
      | true =>
        rw [if_pos rfl]
        refine .tt rfl (.bind (ev_Sign _) ?_)
        by_cases hz : dv (l ++ m) = 0
        · rw [if_pos hz]
          exact .tt (by simp [hz]) (.pure _)
        · rw [if_neg hz]
          have hs : ((dv (l ++ m) : Nat) : Int).sign ≠ 0 := by
            rw [ne_eq, Int.sign_eq_zero_iff_zero]
            omega
          refine .ff (by simpa using hs) (.bind (ev_Minus _ hsm) ?_)
          rw [size_B]
          exact .ret (ev_Made _ _) rfl
      | false =>
        rw [if_neg (by decide), size_B]
        exact .ff rfl (.ret (ev_Made _ _) rfl)
    | succ j ih =>
      intro i hj hi
      have hil : i < (l ++ m).length := by omega
      have hdig : dgB ((l ++ m).getD i 0) = true := by
        rw [List.getD_eq_getElem?_getD, List.getElem?_eq_getElem hil]
        exact h _ (List.getElem_mem hil)
      have hb := dgB_iff.1 hdig
      have e : ((dv ((l ++ m).take (i + 1)) : Nat) : Int) = ((dv ((l ++ m).take i) : Nat) : Int) * 10 + ((((l ++ m).getD i 0).toNat - 48 : Nat) : Int) := by
        rw [take_succ' hil, dv_app, dv_one]
        simp
      have h10 : Sm (10 : Int) := .of (by decide +kernel)
      have s1 : Sm (((dv ((l ++ m).take i) : Nat) : Int) * 10) := by
        refine .of ?_
        have h1 : dv ((l ++ m).take i) < 10 ^ ((l ++ m).take i).length := dv_lt fun b hb => h b (List.mem_of_mem_take hb)
        have h2 : (10 : Nat) ^ ((l ++ m).take i).length ≤ 10 ^ 60 := Nat.pow_le_pow_right (by decide) (by rw [List.length_take]; omega)
        have : (((dv ((l ++ m).take i) : Nat) : Int) * 10).natAbs = dv ((l ++ m).take i) * 10 := by rw [Int.natAbs_mul, Int.natAbs_natCast]; rfl
        rw [this]
        exact Nat.le_trans (Nat.mul_le_mul_right 10 (Nat.le_trans (Nat.le_of_lt h1) h2)) (by decide +kernel)
      have s2 : Sm ((((l ++ m).getD i 0).toNat - 48 : Nat) : Int) := by
        refine .of ?_
        rw [Int.natAbs_natCast]
        exact Nat.le_trans (show _ ≤ 10 by omega) (by decide +kernel)
      refine .step (fun k => amount_read_c3_eq k _ _ _ _ _ _ _) (.ck (by omega) (.bind (ev_Of 10 (by decide) (by decide)) (.bind (ev_Times _ _ (sm i) h10) (.ck (by rw [size_B, size_B]; omega) ?_))))
      rw [B_app, size_B, bt_B hil, wu8_dig hdig]
      have hw : wi64 ((i : Int) + 1) = ((i + 1 : Nat) : Int) := by rw [wi64_id (by omega) (by omega)]; rfl
      refine .ck (by omega) (.ck (by omega) (.bind (ev_Of _ (by omega) (by omega)) (.bind (ev_Plus _ _ s1 s2) ?_)))
      rw [hw, ← e]
      exact ih (i + 1) (by omega) (by omega)
  exact key _ 0 rfl (Nat.zero_le _)

theorem ev_isWhole (l : List UInt8) (hl : l.length < 1125899906842624) : Ev (fun k => amount_isWhole k (B l)) (digB l && (decide (l.length = 1) || decide (l.head? ≠ some 48))) := by
  have hk := ev_kDig (B l) (by rw [size_B]; exact hl)
  rw [L_B] at hk
  refine .step (fun k => amount_isWhole_eq k _) (.bind hk ?_)
  rw [size_B]
  cases hd : digB l with
  | false =>
    refine .tt (by simp) (.tt (by simp) (.pure _))
  | true =>
    have hp := digB_len hd
    refine .tt (by simp) (.tt (by simp; omega) (.to (.pure _) ?_))
    have hb0 : bt (B l) 0 = (((l.getD 0 0).toNat : Nat) : Int) := bt_B (i := 0) (by omega)
    rw [hb0]
    cases l with
    | nil => simp at hp
    | cons b t =>
      by_cases h1 : t = []
      · subst h1; simp
      · have ht : 0 < t.length := List.length_pos_iff.2 h1
        have e1 : ((((b :: t).length : Nat) : Int) == 1) = false := by simp; omega
        rw [e1]
        simp only [cond_true, cond_false, List.getD_cons_zero, Bool.true_and]
        by_cases hb : b = 48
        · subst hb
          simp [h1]
        · have : ((b.toNat : Int)) ≠ 48 := fun z => hb (UInt8.toNat_inj.1 (by rw [show (48 : UInt8).toNat = 48 from rfl]; omega))
          simp [hb, this]
end Go.Proofs.YtpgbbmdfnmjjjaaGreatDoor.Eq
namespace Go.Proofs.YtpgbbmdfnmjjjaaGreatDoor.Eq
open Go Go.Ra
set_option linter.unusedVariables false

end Go.Proofs.YtpgbbmdfnmjjjaaGreatDoor.Eq
namespace Go.Proofs.YtpgbbmdfnmjjjaaGreatDoor.Eq
open Go Go.Ra
set_option linter.unusedVariables false

theorem decFrom_dvA : ∀ (l : List UInt8) (a : Nat), (∀ b ∈ l, dgB b = true) → Lib.decFrom a l = some (dvA a l)
  | [], a, _ => rfl
  | b :: l, a, h => by
    have hb := dgB_iff.1 (h b (by simp))
    unfold Lib.decFrom
    have e : Lib.digitVal b = some (b.toNat - 48) := by
      unfold Lib.digitVal
      rw [if_pos]
      exact hb
    rw [e]
    exact decFrom_dvA l _ fun x hx => h x (by simp [hx])
theorem atoi_dg {l : List UInt8} (h : digB l = true) : Lib.atoi l = some ((dv l : Nat) : Int) := by
  have hd := digB_all h
  cases l with
  | nil => simp [digB] at h
  | cons b r =>
    have hb := dgB_iff.1 (hd b (by simp))
    unfold Lib.atoi
    have h45 : (b == 45) = false := by
      have : b ≠ 45 := fun z => by rw [z] at hb; exact absurd hb.1 (by decide)
      simpa using this
    have h43 : (b == 43) = false := by
      have : b ≠ 43 := fun z => by rw [z] at hb; exact absurd hb.1 (by decide)
      simpa using this
    have e : Lib.decNat (b :: r) = some (dv (b :: r)) := decFrom_dvA (b :: r) 0 hd
    simp only [h45, h43, Bool.false_eq_true, if_false, e]
    rfl
theorem ev_Atoi (l : List UInt8) (h : digB l = true) (hl : l.length ≤ 18) : Ev (fun k => strconv_Atoi k (B l)) ((dv l : Int), true) := by
  refine .off (n := 0) fun k => ?_
  have e3 : (B l).data.toList = l := L_B l
  rw [strconv_Atoi_eq, e3, atoi_dg h, size_B, decide_eq_true hl]
  rfl
end Go.Proofs.YtpgbbmdfnmjjjaaGreatDoor.Eq
namespace Go.Ra
open Go Go.Ra
def okP : List Nat → List UInt8 → Bool
  | [], l => l.isEmpty
  | w :: ws, l => decide (w ≤ l.length) && (digB (l.take w) && okP ws (l.drop w))
def valP : List Nat → List UInt8 → List Int
  | [], _ => []
  | w :: ws, l => ((dv (l.take w) : Nat) : Int) :: valP ws (l.drop w)
def nmL (l : List UInt8) : Int := if digB l = true then ((dv l : Nat) : Int) else -1
theorem nmL_no {l : List UInt8} (h : digB l = false) : nmL l = -1 := by unfold nmL; rw [h]; rfl
theorem nmL_yes {l : List UInt8} (h : digB l = true) : nmL l = ((dv l : Nat) : Int) := if_pos h
end Go.Ra
namespace Go.Proofs.YtpgbbmdfnmjjjaaGreatDoor.Eq
open Go Go.Ra
set_option linter.unusedVariables false

def finD (y m d : Int) : Int × Int := if okDt y m d then ((⟨y, m.toNat, d⟩ : Dt).n, 0) else (0, 10)
theorem finD_no {y m d : Int} (h : y = -1 ∨ m = -1 ∨ d = -1) : finD y m d = (0, 10) := by
  unfold finD
  rw [if_neg]
  unfold okDt
  omega
theorem ev_partsAny (ws : List Nat) (hw : ∀ w ∈ ws, 1 ≤ w ∧ w ≤ 18) (hws : ws.length ≤ 10) : ∀ (j i : Nat) (acc : List Int) (l : List UInt8), ws.length - i = j → i ≤ ws.length → acc.length ≤ i → l.length < 1125899906842624 →
    ∃ q, Ev (fun k => amount_parts_c3 k (B l) acc (ws.map fun w => ((w : Nat) : Int)) (ws.length : Int) (i : Int)) q ∧ q.2 = okP (ws.drop i) l ∧ (q.2 = true → q.1 = acc ++ valP (ws.drop i) l) := by
  intro j
  induction j with
  | zero =>
    intro i acc l hj hi ha hl
    refine ⟨(acc, eqS (B l) (bs [])), .step (fun k => amount_parts_c3_eq k _ _ _ _ _) (.nk (by omega) (.pure _)), ?_, fun _ => ?_⟩
    · rw [List.drop_of_length_le (by omega), eqS_nil, L_B]; rfl
    · rw [List.drop_of_length_le (by omega)]
      show acc = acc ++ []
      rw [List.append_nil]
  | succ j ih =>
    intro i acc l hj hi ha hl
    have hil : i < ws.length := by omega
    have hwi := hw (ws.getD i 0) (by rw [List.getD_eq_getElem?_getD, List.getElem?_eq_getElem hil]; exact List.getElem_mem hil)
    have hg : (ws.map fun w => ((w : Nat) : Int)).getD ((i : Int)).toNat 0 = ((ws.getD i 0 : Nat) : Int) := by
      rw [Int.toNat_natCast, List.getD_eq_getElem?_getD, List.getElem?_map, List.getElem?_eq_getElem hil, List.getD_eq_getElem?_getD, List.getElem?_eq_getElem hil]
      rfl
    have hd : ws.drop i = ws.getD i 0 :: ws.drop (i + 1) := by
      rw [List.drop_eq_getElem_cons hil, List.getD_eq_getElem?_getD, List.getElem?_eq_getElem hil]
      rfl
    rw [hd]
    generalize hW : ws.getD i 0 = w at hwi hg
    have head : ∀ q, Ev (fun k => (cond (!(decide ((l.length : Int) < (w : Int)))) (kit_IsDigits k ((B l).extract 0 w)) (some false)).bind fun y0 =>
        cond (cond (decide ((l.length : Int) < (w : Int))) true (!y0)) (some ([], false)) (
          cond (decide ((0 : Int) ≤ (w : Int))) (cond (decide ((w : Int) ≤ (l.length : Int))) (
          (strconv_Atoi k ((B l).extract 0 w)).bind fun y1 =>
          cond (decide (acc.length + 1 < 17592186044416)) (cond (decide ((0 : Int) ≤ (w : Int))) (cond (decide ((w : Int) ≤ (l.length : Int))) (
          amount_parts_c3 k ((B l).extract w l.length) (acc ++ [y1.1]) (ws.map fun w => ((w : Nat) : Int)) (ws.length : Int) (wi64 ((i : Int) + 1))) none) none) none) none) none)) q →
        Ev (fun k => amount_parts_c3 k (B l) acc (ws.map fun w => ((w : Nat) : Int)) (ws.length : Int) (i : Int)) q := by
      intro q hq
      refine .step (fun k => amount_parts_c3_eq k _ _ _ _ _) (.ck (by omega) (.ck (by omega) (.ck (by rw [List.length_map]; omega) ?_)))
      rw [hg, size_B, Int.toNat_natCast]
      refine .tt (bor' fun _ => by simp) (.tt (bor' fun z => ?_) hq)
      rw [Bool.not_eq_true', decide_eq_false_iff_not] at z
      exact decide_eq_true (by omega)
    by_cases hlen : w ≤ l.length
    · have e1 : (B l).extract 0 w = B (l.take w) := by rw [B_ext, List.drop_zero]
      have e2 : (B l).extract w l.length = B (l.drop w) := by rw [B_ext, List.take_of_length_le (Nat.le_refl _)]
      rw [e1, e2, decide_eq_false (by omega : ¬ ((l.length : Int) < (w : Int)))] at head
      have htl : (l.take w).length = w := by rw [List.length_take]; omega
      have hk := ev_kDig (B (l.take w)) (by rw [size_B]; omega)
      rw [L_B] at hk
      cases hdg : digB (l.take w) with
      | false =>
        rw [hdg] at hk
        refine ⟨([], false), head _ (.bind (.tt rfl hk) (.tt rfl (.pure _))), ?_, fun z => by cases z⟩
        show false = (decide (w ≤ l.length) && (digB (l.take w) && _))
        rw [hdg]; simp
      | true =>
        rw [hdg] at hk
        obtain ⟨q, q1, q2, q3⟩ := ih (i + 1) (acc ++ [((dv (l.take w) : Nat) : Int)]) (l.drop w) (by omega) (by omega) (by simp; omega) (by rw [List.length_drop]; omega)
        refine ⟨q, head _ (.bind (.tt rfl hk) (.ff rfl (.ck (by omega) (.ck (by omega) (.bind (ev_Atoi (l.take w) hdg (by omega)) (.ck (by omega) (.ck (by omega) (.ck (by omega) ?_)))))))), ?_, fun z => ?_⟩
        · rw [show wi64 ((i : Int) + 1) = ((i + 1 : Nat) : Int) by rw [wi64_id (by omega) (by omega)]; rfl]
          exact q1
        · rw [q2]
          show _ = (decide (w ≤ l.length) && (digB (l.take w) && _))
          rw [hdg, decide_eq_true hlen]; rfl
        · rw [q3 z, List.append_assoc]; rfl
    · rw [decide_eq_true (by omega : ((l.length : Int) < (w : Int)))] at head
      refine ⟨([], false), head _ (.bind (x := false) (.ff rfl (.pure _)) (.tt rfl (.pure _))), ?_, fun z => by cases z⟩
      show false = (decide (w ≤ l.length) && _)
      rw [decide_eq_false hlen]; rfl
theorem ev_parts (a b c : Nat) (h : (1 ≤ a ∧ a ≤ 18) ∧ (1 ≤ b ∧ b ≤ 18) ∧ (1 ≤ c ∧ c ≤ 18)) (l : List UInt8) (hl : l.length < 1125899906842624) :
    ∃ q, Ev (fun k => amount_parts k (B l) [(a : Int), (b : Int), (c : Int)]) q ∧ q.2 = okP [a, b, c] l ∧ (q.2 = true → q.1 = valP [a, b, c] l) := by
  obtain ⟨q, q1, q2, q3⟩ := ev_partsAny [a, b, c] (by simp; omega) (by simp) _ 0 [] l rfl (by simp) (by simp) hl
  exact ⟨q, .step (fun k => amount_parts_eq k _ _) q1, q2, q3⟩
theorem okP3 {a b c : Nat} {l : List UInt8} : okP [a, b, c] l = true ↔ l.length = a + b + c ∧ digB (l.take a) = true ∧ digB ((l.drop a).take b) = true ∧ digB (l.drop (a + b)) = true := by
  simp only [okP, Bool.and_eq_true, decide_eq_true_eq, List.drop_drop, List.length_drop, List.isEmpty_iff, List.drop_eq_nil_iff]
  constructor
  · rintro ⟨h1, h2, h3, h4, h5, h6, h7⟩
    have hl : l.length = a + b + c := by omega
    refine ⟨hl, h2, h4, ?_⟩
    rwa [List.take_of_length_le (by rw [List.length_drop]; omega)] at h6
  · rintro ⟨h1, h2, h3, h4⟩
    refine ⟨by omega, h2, by omega, h3, by omega, ?_, by omega⟩
    rwa [List.take_of_length_le (by rw [List.length_drop]; omega)]
theorem valP3 {a b c : Nat} {l : List UInt8} (h : l.length = a + b + c) : valP [a, b, c] l = [((dv (l.take a) : Nat) : Int), ((dv ((l.drop a).take b) : Nat) : Int), ((dv (l.drop (a + b)) : Nat) : Int)] := by
  simp only [valP, List.drop_drop]
  rw [List.take_of_length_le (l := l.drop (a + b)) (by rw [List.length_drop]; omega)]
theorem ev_numB (l : List UInt8) (h : l.length ≤ 15) : Ev (fun k => interchangeref1_number k (B l)) (nmL l) := by
  have := ev_number (B l) (by rw [size_B]; exact h)
  rw [L_B] at this
  exact this
theorem ev_rFin (y m d : Int) : Ev (fun k => (interchangeref1_DayOf k y m d).bind fun y5 => cond (y5.2 != 0) (some (0, (10 : Int))) (some (y5.1, 0))) (finD y m d) := by
  refine .bind (ev_rDayOf y m d) ?_
  unfold finD
  by_cases h : okDt y m d
  · rw [if_pos h, if_pos h]; exact .ff rfl (.pure _)
  · rw [if_neg h, if_neg h]; exact .tt rfl (.pure _)
def fA (r : Int × Bool) : Int × Int := if r.2 = true then (r.1, 0) else (0, 10)
theorem ev_aFin (y m d : Int) : ∃ r, Ev (fun k => amount_dayOf k y m d) r ∧ fA r = finD y m d := by
  refine ⟨_, ev_adayOf y m d, ?_⟩
  unfold finD fA
  by_cases h : okDt y m d
  · rw [if_pos h, if_pos h]; rfl
  · rw [if_neg h, if_neg h]; rfl

theorem ev_aForm {a b c : Nat} (h : (1 ≤ a ∧ a ≤ 18) ∧ (1 ≤ b ∧ b ≤ 18) ∧ (1 ≤ c ∧ c ≤ 18)) (l : List UInt8) (hl : l.length < 1125899906842624) {f : Nat → List Int × Bool → Option (Int × Bool)} {t : Int × Int}
    (hf : ∀ q : List Int × Bool, q.2 = false → Ev (fun k => f k q) (0, false)) (hno : okP [a, b, c] l = false → t = (0, 10))
    (hyes : l.length = a + b + c → digB (l.take a) = true → digB ((l.drop a).take b) = true → digB (l.drop (a + b)) = true → ∃ r, Ev (fun k => f k ([((dv (l.take a) : Nat) : Int), ((dv ((l.drop a).take b) : Nat) : Int), ((dv (l.drop (a + b)) : Nat) : Int)], true)) r ∧ fA r = t) :
    ∃ r, Ev (fun k => (amount_parts k (B l) [(a : Int), (b : Int), (c : Int)]).bind fun y0 => f k y0) r ∧ fA r = t := by
  obtain ⟨⟨q1, q2⟩, e1, e2, e3⟩ := ev_parts a b c h l hl
  cases hq : q2 with
  | false =>
    subst hq
    exact ⟨(0, false), .bind e1 (hf _ rfl), (hno e2.symm).symm⟩
  | true =>
    subst hq
    obtain ⟨h1, h2, h3, h4⟩ := okP3.1 e2.symm
    obtain ⟨r, r1, r2⟩ := hyes h1 h2 h3 h4
    have e4 := e3 rfl
    rw [valP3 h1] at e4
    simp only at e4
    subst e4
    exact ⟨r, .bind e1 r1, r2⟩
theorem okP3_no {a b c : Nat} {l : List UInt8} (h : okP [a, b, c] l = false) (hl : l.length = a + b + c) : nmL (l.take a) = -1 ∨ nmL ((l.drop a).take b) = -1 ∨ nmL (l.drop (a + b)) = -1 := by
  cases h1 : digB (l.take a) with
  | false => exact .inl (nmL_no h1)
  | true =>
    cases h2 : digB ((l.drop a).take b) with
    | false => exact .inr (.inl (nmL_no h2))
    | true =>
      cases h3 : digB (l.drop (a + b)) with
      | false => exact .inr (.inr (nmL_no h3))
      | true =>
        rw [okP3.2 ⟨hl, h1, h2, h3⟩] at h
        cases h
end Go.Proofs.YtpgbbmdfnmjjjaaGreatDoor.Eq
namespace Go.Proofs.YtpgbbmdfnmjjjaaGreatDoor.Eq
open Go Go.Ra
set_option linter.unusedVariables false
set_option linter.unusedSimpArgs false

theorem sz_eq (n m : Nat) : ((n : Int) == (m : Int)) = decide (n = m) := by
  by_cases h : n = m
  · rw [h]; simp
  · rw [decide_eq_false h]
    have : (n : Int) ≠ (m : Int) := by omega
    simpa using this
theorem ev_rEnd : Ev (fun k => (interchangeref1_DayOf k (-1) (-1) (-1)).bind fun y20 => cond (y20.2 != 0) (some (0, (10 : Int))) (some (y20.1, 0))) (0, 10) :=
  (ev_rFin (-1) (-1) (-1)).to (finD_no (.inl rfl))
theorem ev_rdStart {l : List UInt8} {b c : Int} (hb : 1 ≤ b ∧ b ≤ 5) (hc : 1 ≤ c ∧ c ≤ 9900) : Ev (fun k => interchangeref1_within k b 1 5) true ∧ Ev (fun k => interchangeref1_within k c 1 9900) true := by
  have h1 := ev_within' b 1 5
  have h2 := ev_within' c 1 9900
  rw [decide_eq_true hb] at h1
  rw [decide_eq_true hc] at h2
  exact ⟨h1, h2⟩

theorem ev_rd1T (l : List UInt8) (c : Int) (hc : 1 ≤ c ∧ c ≤ 9900) (hl : l.length ≤ 140737488351232) : Ev (fun k => interchangeref1_ReadDay k (B l) 1 c) (if l.length = 8 then finD (nmL (l.take 4)) (nmL ((l.drop 4).take 2)) (nmL (l.drop 6)) else (0, 10)) ∧ ∃ r, Ev (fun k => amount_readDay k (B l) 1 c) r ∧ fA r = (if l.length = 8 then finD (nmL (l.take 4)) (nmL ((l.drop 4).take 2)) (nmL (l.drop 6)) else (0, 10)) := by
  obtain ⟨w1, w2⟩ := ev_rdStart (l := l) (b := 1) (by decide) hc
  refine ⟨.step (fun k => interchangeref1_ReadDay_eq k _ _ _) (.bind w1 (.ff rfl (.bind w2 (.ff rfl ?_)))), ?_⟩
  · simp only [size_B]
    have hs := sz_eq l.length 8
    rw [show ((8 : Nat) : Int) = 8 from rfl] at hs
    rw [hs]
    by_cases h8 : l.length = 8
    · rw [decide_eq_true h8, if_pos h8]
      have e1 : (B l).extract 0 4 = B (l.take 4) := by rw [B_ext, List.drop_zero]
      have e2 : (B l).extract 4 6 = B ((l.drop 4).take 2) := by rw [B_ext, List.drop_take]
      have e3 : (B l).extract 6 l.length = B (l.drop 6) := by rw [B_ext, List.take_of_length_le (Nat.le_refl _)]
      rw [e1, e2, e3]
      exact .tt rfl (.ck (by omega) (.bind (ev_numB _ (by rw [List.length_take]; omega)) (.ck (by omega) (.bind (ev_numB _ (by rw [List.length_take]; omega)) (.ck (by omega) (.bind (ev_numB _ (by rw [List.length_drop]; omega)) (ev_rFin _ _ _)))))))
    · rw [decide_eq_false h8, if_neg h8]
      exact .ff rfl (.ff rfl (.ff rfl (.tt rfl (.tt rfl (.tt rfl (.tt rfl (.ff rfl (.ff rfl ev_rEnd))))))))
  · obtain ⟨r, r1, r2⟩ := ev_aForm (a := 4) (b := 2) (c := 2) (by decide) l (by omega) (t := if l.length = 8 then finD (nmL (l.take 4)) (nmL ((l.drop 4).take 2)) (nmL (l.drop 6)) else (0, 10))
      (f := fun k y0 => cond (!y0.2) (some (0, false)) (cond (decide (0 < (y0.1.length : Int))) (cond (decide (1 < (y0.1.length : Int))) (cond (decide (2 < (y0.1.length : Int))) ((amount_dayOf k (y0.1.getD 0 0) (y0.1.getD 1 0) (y0.1.getD 2 0)).bind fun y1 => some y1) none) none) none))
      (fun q hq => by rw [hq]; exact .tt rfl (.pure _))
      (fun hno => by
        split
        · rename_i h8
          exact finD_no (okP3_no hno h8)
        · rfl)
      (fun h8 d1 d2 d3 => by
        obtain ⟨r, r1, r2⟩ := ev_aFin ((dv (l.take 4) : Nat) : Int) ((dv ((l.drop 4).take 2) : Nat) : Int) ((dv (l.drop (4 + 2)) : Nat) : Int)
        refine ⟨r, .ff rfl (.ck (by simp) (.ck (by simp) (.ck (by simp) (.ret r1 rfl)))), ?_⟩
        rw [r2, if_pos h8, nmL_yes d1, nmL_yes d2, nmL_yes d3])
    exact ⟨r, .step (fun k => amount_readDay_eq k _ _ _) (.tt rfl r1), r2⟩

end Go.Proofs.YtpgbbmdfnmjjjaaGreatDoor.Eq
namespace Go.Ra
open Go Go.Ra
end Go.Ra
namespace Go.Proofs.YtpgbbmdfnmjjjaaGreatDoor.Eq
open Go Go.Ra
set_option linter.unusedVariables false
set_option linter.unusedSimpArgs false

theorem ev_kDigB (l : List UInt8) (hn : l.length < 1125899906842624) : Ev (fun k => kit_IsDigits k (B l)) (digB l) := by
  have := ev_kDig (B l) (by rw [size_B]; exact hn)
  rwa [L_B] at this
theorem ev_rDigB (l : List UInt8) (hn : l.length < 1125899906842624) : Ev (fun k => interchangeref1_isDigits k (B l)) (digB l) := by
  have := ev_rDig (B l) (by rw [size_B]; exact hn)
  rwa [L_B] at this

end Go.Proofs.YtpgbbmdfnmjjjaaGreatDoor.Eq
namespace Go.Ra
open Go Go.Ra
end Go.Ra
namespace Go.Proofs.YtpgbbmdfnmjjjaaGreatDoor.Eq
open Go Go.Ra
set_option linter.unusedVariables false
set_option linter.unusedSimpArgs false

end Go.Proofs.YtpgbbmdfnmjjjaaGreatDoor.Eq
namespace Go.Proofs.YtpgbbmdfnmjjjaaGreatDoor.Eq
open Go Go.Ra
set_option linter.unusedVariables false
set_option linter.unusedSimpArgs false
def bad : (Int × Int) × Int := ((0, 0), 10)
def wholeL (w : List UInt8) : Bool := digB w && (decide (w.length = 1) || decide (w.head? ≠ some 48))
def rtc (neg : Bool) (w f : List UInt8) (has : Bool) : (Int × Int) × Int := if (wholeL w && (!has || (digB f && decide (f.length ≤ 9)))) = true then rdR neg w f else bad
def rtx (l : List UInt8) : (Int × Int) × Int := if 40 < l.length then bad else rtc (cutP l).2 (cutB (cutP l).1 46).1 (cutB (cutP l).1 46).2.1 (cutB (cutP l).1 46).2.2
theorem cutP_le (l : List UInt8) : (cutP l).1.length ≤ l.length := by
  unfold cutP
  split
  · simp
  · exact Nat.le_refl _
theorem cutB_le (l : List UInt8) (c : UInt8) : (cutB l c).1.length + (cutB l c).2.1.length ≤ l.length := by
  rcases cutB_cases l c with ⟨_, h⟩ | ⟨a, b, rfl, _, h⟩
  · rw [h]; simp
  · rw [h]; simp
theorem cutB_no (l : List UInt8) (c : UInt8) (h : (cutB l c).2.2 = false) : (cutB l c).2.1 = [] := by
  rcases cutB_cases l c with ⟨_, e⟩ | ⟨a, b, rfl, _, e⟩
  · rw [e]
  · rw [e] at h; cases h
theorem dv_zero : ∀ l : List UInt8, (∀ b ∈ l, dgB b = true) → (dv l = 0 ↔ l.all (fun b => b == 48) = true)
  | [], _ => ⟨fun _ => rfl, fun _ => rfl⟩
  | b :: l, h => by
    have hb := dgB_iff.1 (h b (by simp))
    have ih := dv_zero l fun x hx => h x (by simp [hx])
    have e : dv (b :: l) = (b.toNat - 48) * 10 ^ l.length + dv l := by
      have := dv_app [b] l
      rw [dv_one] at this
      exact this
    have hp : 0 < 10 ^ l.length := Nat.pow_pos (by decide)
    rw [List.all_cons, Bool.and_eq_true, ← ih, e]
    constructor
    · intro hz
      have h0 : (b.toNat - 48) * 10 ^ l.length = 0 := by omega
      have hb0 : b.toNat - 48 = 0 := by
        rcases Nat.mul_eq_zero.1 h0 with q | q
        · exact q
        · omega
      refine ⟨?_, by omega⟩
      have : b = 48 := UInt8.toNat_inj.1 (by rw [show (48 : UInt8).toNat = 48 from rfl]; omega)
      simp [this]
    · rintro ⟨h1, h2⟩
      have : b = 48 := by simpa using h1
      rw [this, h2]
      simp

theorem rdR_bad {neg : Bool} {w f : List UInt8} : rdR neg w f = (if neg = true ∧ dv (w ++ f) = 0 then bad else if dv (w ++ f) ≤ 1000000000000000 then (((if neg = true then -((dv (w ++ f) : Nat) : Int) else ((dv (w ++ f) : Nat) : Int)), ((f.length : Nat) : Int)), 0) else ((0, 0), 1)) := by
  unfold rdR mk bad
  cases neg with
  | true =>
    rw [if_pos rfl]
    by_cases hz : dv (w ++ f) = 0
    · rw [if_pos hz, if_pos ⟨rfl, hz⟩]
    · rw [if_neg hz, if_neg (show ¬ (true = true ∧ dv (w ++ f) = 0) from fun z => hz z.2)]
      by_cases hl : dv (w ++ f) ≤ 1000000000000000
      · rw [if_pos (by omega), if_pos hl, if_pos rfl]
      · rw [if_neg (by omega), if_neg hl]
  | false =>
    rw [if_neg (by decide), if_neg (show ¬ (false = true ∧ dv (w ++ f) = 0) from fun z => by cases z.1)]
    by_cases hl : dv (w ++ f) ≤ 1000000000000000
    · rw [if_pos (by omega), if_pos hl, if_neg (by decide)]
    · rw [if_neg (by omega), if_neg hl]
theorem whole_dg {w : List UInt8} (h : wholeL w = true) : digB w = true := by
  unfold wholeL at h
  rw [Bool.and_eq_true] at h
  exact h.1
theorem dg_both {w f : List UInt8} {has : Bool} (hw : wholeL w = true) (hf : (!has || (digB f && decide (f.length ≤ 9))) = true) (hno : has = false → f = []) : ∀ b ∈ w ++ f, dgB b = true := by
  intro b hb
  rcases List.mem_append.1 hb with hb | hb
  · exact digB_all (whole_dg hw) b hb
  · cases has with
    | false => rw [hno rfl] at hb; cases hb
    | true =>
      simp only [Bool.not_true, Bool.false_or, Bool.and_eq_true] at hf
      exact digB_all hf.1 b hb
theorem ev_aRead (l : List UInt8) (hl : l.length ≤ 140737488351232) : Ev (fun k => amount_ReadText k (B l)) (rtx l) := by
  have hcp := ev_CutPre (B l)
  rw [L_B] at hcp
  have hle := cutP_le l
  have hcb := ev_Cut (B (cutP l).1) 46 (by rw [size_B]; omega)
  rw [L_B] at hcb
  have hle2 := cutB_le (cutP l).1 46
  have hno := cutB_no (cutP l).1 46
  refine .step (fun k => amount_ReadText_eq k _) (.bind hcp (.bind hcb ?_))
  unfold rtx
  generalize (cutP l).2 = neg
  generalize (cutB (cutP l).1 46).2.2 = has at hno
  generalize (cutB (cutP l).1 46).2.1 = f at hno hle2
  generalize (cutB (cutP l).1 46).1 = w at hle2
  simp only [size_B]
  by_cases hX : 40 < l.length
  · rw [if_pos hX, decide_eq_true (by omega : ((l.length : Nat) : Int) > 40)]
    exact .bind (x := false) (.ff rfl (.pure _)) (.bind (x := false) (.ff rfl (.pure _)) (.tt rfl (.pure _)))
  · rw [if_neg hX, decide_eq_false (by omega : ¬ ((l.length : Nat) : Int) > 40)]
    refine .bind (.tt rfl (ev_isWhole w (by omega))) ?_
    have hwd : (digB w && (decide (w.length = 1) || decide (w.head? ≠ some 48))) = wholeL w := rfl
    rw [hwd]
    unfold rtc
    cases hw : wholeL w with
    | false =>
      exact .bind (x := false) (.ff rfl (.pure _)) (.tt rfl (.pure _))
    | true =>
      cases has with
      | false =>
        have hf := hno rfl
        subst hf
        refine .bind (x := false) (.ff rfl (.pure _)) (.ff rfl (.ret ?_ rfl))
        exact ev_aread neg w [] (dg_both (has := false) hw rfl (fun _ => rfl)) (by simp; omega)
      | true =>
        refine .bind (.tt rfl (ev_kDigB f (by omega))) ?_
        cases hd : digB f with
        | false => exact .tt rfl (.pure _)
        | true =>
          by_cases h9 : f.length ≤ 9
          · rw [decide_eq_false (by omega : ¬ ((f.length : Nat) : Int) > 9), decide_eq_true h9]
            refine .ff rfl (.ret ?_ rfl)
            exact ev_aread neg w f (dg_both (has := true) hw (by rw [hd, decide_eq_true h9]; rfl) (fun z => by cases z)) (by rw [List.length_append]; omega)
          · rw [decide_eq_true (by omega : ((f.length : Nat) : Int) > 9), decide_eq_false h9]
            exact .tt rfl (.pure _)
theorem ev_Trim48 (l : List UInt8) (hl : l.length ≤ 1000) : Ev (fun k => strings_Trim k (B l) (bs [48])) (B (Lib.trimS l [48])) := by
  refine .off (n := 0) fun k => ?_
  have e3 : (B l).data.toList = l := L_B l
  rw [strings_Trim_eq, size_B, e3, decide_eq_true (by omega)]
  rfl
theorem trim48 (l : List UInt8) : eqS (B (Lib.trimS l [48])) (bs []) = l.all (fun b => b == 48) := by
  have h1 : (fun x : UInt8 => [48].contains x) = fun b => b == 48 := funext fun b => by
    by_cases h : b = 48 <;> simp [h]
  have := trimS_nil l [48]
  rw [h1] at this
  rw [eqS_nil, L_B]
  cases hl : l.all (fun b => b == 48) with
  | true => rw [this.2 hl]; rfl
  | false =>
    have h2 : Lib.trimS l [48] ≠ [] := fun z => by rw [this.1 z] at hl; cases hl
    cases ht : Lib.trimS l [48] with
    | nil => exact absurd ht h2
    | cons => rfl
theorem ev_rRead (l : List UInt8) (hl : l.length ≤ 140737488351232) : Ev (fun k => interchangeref1_ReadText k (B l)) (rtx l) := by
  refine .step (fun k => interchangeref1_ReadText_eq k _) ?_
  rw [size_B]
  unfold rtx
  by_cases hX : 40 < l.length
  · rw [if_pos hX]
    exact .ck (by omega) (.pure _)
  rw [if_neg hX]
  refine .nk (by omega) ?_
  have hcp := ev_CutPre (B l)
  rw [L_B] at hcp
  have hle := cutP_le l
  have hcb := ev_Cut (B (cutP l).1) 46 (by rw [size_B]; omega)
  rw [L_B] at hcb
  have hle2 := cutB_le (cutP l).1 46
  have hno := cutB_no (cutP l).1 46
  refine .bind hcp (.bind hcb ?_)
  generalize (cutP l).2 = neg
  generalize (cutB (cutP l).1 46).2.2 = has at hno
  generalize (cutB (cutP l).1 46).2.1 = f at hno hle2
  generalize (cutB (cutP l).1 46).1 = w at hle2
  simp only [size_B]
  refine .bind (ev_rDigB w (by omega)) ?_
  have hz : (cond (decide (((w.length : Nat) : Int) > 1)) (bt (B w) 0 == 48) false) = (decide (1 < w.length) && decide (w.head? = some 48)) := by
    by_cases h1 : 1 < w.length
    · have hb0 : bt (B w) 0 = (((w.getD 0 0).toNat : Nat) : Int) := bt_B (i := 0) (by omega)
      rw [hb0, decide_eq_true h1, decide_eq_true (by omega : ((w.length : Nat) : Int) > 1)]
      cases w with
      | nil => simp at h1
      | cons b t =>
        simp only [List.getD_cons_zero, List.head?_cons, Option.some.injEq, cond_true, Bool.true_and]
        by_cases h : b = 48
        · rw [h]; rfl
        · rw [decide_eq_false h]
          have : ((b.toNat : Nat) : Int) ≠ 48 := fun z => h (UInt8.toNat_inj.1 (by rw [show (48 : UInt8).toNat = 48 from rfl]; omega))
          simpa using this
    · rw [decide_eq_false h1, decide_eq_false (by omega : ¬ ((w.length : Nat) : Int) > 1)]; rfl
  rw [hz]
  refine .tt (Bool.or_true _) (.tt (bor' fun q => ?_) ?_)
  · rw [Bool.and_eq_true] at q
    have := of_decide_eq_true q.2
    exact decide_eq_true (by omega)
  unfold rtc
  cases hd : digB w with
  | false =>
    have hw : wholeL w = false := by unfold wholeL; rw [hd]; rfl
    rw [hw]
    exact .bind (x := false) (.ff rfl (.pure _)) (.tt rfl (.pure _))
  | true =>
    have hww : wholeL w = !(decide (1 < w.length) && decide (w.head? = some 48)) := by
      unfold wholeL
      rw [hd]
      have := digB_len hd
      by_cases h1 : w.length = 1
      · rw [decide_eq_true h1, decide_eq_false (by omega : ¬ 1 < w.length)]; rfl
      · rw [decide_eq_false h1, decide_eq_true (by omega : 1 < w.length)]
        by_cases h2 : w.head? = some 48
        · simp [h2]
        · simp [h2]
    cases hq : (decide (1 < w.length) && decide (w.head? = some 48)) with
    | true =>
      rw [hq] at hww
      rw [hww]
      exact .bind (x := false) (.ff rfl (.pure _)) (.tt rfl (.pure _))
    | false =>
      rw [hq] at hww
      have hww' : wholeL w = true := hww
      rw [hww']
      have tail : (∀ b ∈ w ++ f, dgB b = true) → Ev (fun k => cond ((!neg) || (decide (w.length + f.length ≤ 9223372036854775807))) (
          (cond neg (strings_Trim k (B w ++ B f) (bs [48])) (some (bs []))).bind fun y4 =>
          cond (cond neg (eqS y4 (bs [])) false) (some ((0, 0), (10 : Int))) (
            cond (decide (w.length + f.length ≤ 9223372036854775807)) (
            (interchangeref1_ofDigits k (B w ++ B f)).bind fun y5 =>
            cond (!y5.2) (some ((0, 0), 1)) (
              cond neg (some (((wi64 (0 - y5.1)), ((f.length : Nat) : Int)), 0)) (some ((y5.1, ((f.length : Nat) : Int)), 0)))) none)) none) (rdR neg w f) := by
        intro hall
        rw [B_app]
        have hlen : (w ++ f).length ≤ 1000 := by rw [List.length_append]; omega
        have hod := ev_ofDigits (B (w ++ f)) (by rw [size_B]; exact hlen) (by rw [L_B]; exact hall)
        rw [L_B] at hod
        rw [rdR_bad]
        refine .tt (bor' fun _ => decide_eq_true (by omega)) ?_
        have fin : ¬ (neg = true ∧ dv (w ++ f) = 0) → Ev (fun k => cond (decide (w.length + f.length ≤ 9223372036854775807)) (
            (interchangeref1_ofDigits k (B (w ++ f))).bind fun y5 =>
            cond (!y5.2) (some ((0, 0), (1 : Int))) (
              cond neg (some (((wi64 (0 - y5.1)), ((f.length : Nat) : Int)), 0)) (some ((y5.1, ((f.length : Nat) : Int)), 0)))) none) (if neg = true ∧ dv (w ++ f) = 0 then bad else if dv (w ++ f) ≤ 1000000000000000 then (((if neg = true then -((dv (w ++ f) : Nat) : Int) else ((dv (w ++ f) : Nat) : Int)), ((f.length : Nat) : Int)), 0) else ((0, 0), 1)) := by
          intro hn
          rw [if_neg hn]
          refine .ck (by omega) (.bind hod ?_)
          by_cases hl : dv (w ++ f) ≤ 1000000000000000
          · rw [if_pos hl, if_pos hl]
            cases neg with
            | true =>
              refine .ff rfl (.tt rfl (.to (.pure _) ?_))
              rw [wi64_id (by simp only; omega) (by simp only; omega), if_pos rfl]
              simp
            | false => exact .ff rfl (.ff rfl (.pure _))
          · rw [if_neg hl, if_neg hl]
            exact .tt rfl (.pure _)
        cases neg with
        | true =>
          refine .bind (.tt rfl (ev_Trim48 _ hlen)) ?_
          rw [trim48]
          by_cases h0 : dv (w ++ f) = 0
          · rw [(dv_zero _ hall).1 h0, if_pos ⟨rfl, h0⟩]
            exact .tt rfl (.pure _)
          · have : ((w ++ f).all fun b => b == 48) = false := by
              cases hq2 : ((w ++ f).all fun b => b == 48) with
              | false => rfl
              | true => exact absurd ((dv_zero _ hall).2 hq2) h0
            rw [this]
            exact .ff rfl (fin (fun z => h0 z.2))
        | false =>
          exact .bind (x := bs []) (.ff rfl (.pure _)) (.ff rfl (fin (fun z => by cases z.1)))
      cases has with
      | false =>
        have hf := hno rfl
        subst hf
        refine .bind (x := false) (.ff rfl (.pure _)) (.ff rfl ?_)
        exact tail (dg_both (has := false) hww' rfl (fun _ => rfl))
      | true =>
        refine .bind (.tt rfl (ev_rDigB f (by omega))) ?_
        cases hdf : digB f with
        | false => exact .tt rfl (.pure _)
        | true =>
          by_cases h9 : f.length ≤ 9
          · rw [decide_eq_false (by omega : ¬ ((f.length : Nat) : Int) > 9), decide_eq_true h9]
            exact .ff rfl (tail (dg_both (has := true) hww' (by rw [hdf, decide_eq_true h9]; rfl) (fun z => by cases z)))
          · rw [decide_eq_true (by omega : ((f.length : Nat) : Int) > 9), decide_eq_false h9]
            exact .tt rfl (.pure _)

end Go.Proofs.YtpgbbmdfnmjjjaaGreatDoor.Eq
namespace Go.Proofs.YtpgbbmdfnmjjjaaGreatDoor.Eq
open Go Go.Ra
set_option linter.unusedVariables false
theorem ev_WTextN (n : Nat) (hn : 0 < n) (ha : Sm (-(n : Int))) : Ev (fun k => whole_Int_Text k (true, digs 4294967296 n)) (B (45 :: Lib.decDigits n)) := by
  have hlen := ha.len
  have hW : W (-(n : Int)) = (true, digs 4294967296 n) := by unfold W; simp; omega
  have hne := digs_ne (b := 4294967296) (by decide) hn
  rw [hW] at hlen
  simp only at hlen
  refine .step (fun k => whole_Int_Text_eq k _) ?_
  have hl0 : (((digs 4294967296 n).length : Int) == 0) = false := by
    have := List.length_pos_iff.2 hne
    simpa using hne
  refine .ff hl0 (.bind (ev_CloneU _ (by simp only; omega)) ?_)
  have key : ∀ (m c : Nat) (acc : List UInt8), c ≤ m → c ≤ n → acc.length + c ≤ acc.length + n → acc.length ≤ 1000 → acc ++ revDig c c = revDig n n → Ev (fun k => whole_Int_Text_c5 k (true, digs 4294967296 n) (bl acc) (digs 4294967296 c)) (B (45 :: Lib.decDigits n)) := by
    intro m
    induction m with
    | zero =>
      intro c acc h1 h2 _ h3 h4
      have : c = 0 := by omega
      subst this
      have e : acc = revDig n n := by simpa [revDig] using h4
      refine .step (fun k => whole_Int_Text_c5_eq k _ _ _) (.nk (by simp [digs_zero]) (.tt rfl (.ck (by rw [bl_len]; omega) (.bind (ev_ReverseB _ (by rw [List.length_append, bl_len]; simp; omega)) (.to (.pure _) ?_)))))
      have e45 : bl acc ++ [45] = bl (acc ++ [45]) := by rw [bl_app]; rfl
      rw [e45, bl_rev, strOf_bl, List.reverse_append, e, dec_rev n n (Nat.le_refl _) hn]
      rfl
    | succ m ih =>
      intro c acc h1 h2 _ h3 h4
      rcases Nat.eq_zero_or_pos c with rfl | hc
      · exact ih 0 acc (by omega) (by omega) (by omega) h3 h4
      · have hcn : (digs 4294967296 c).length ≤ 100 := by
          refine digs_len (by decide) 100 c (Nat.lt_of_le_of_lt h2 ?_)
          have := ha
          unfold Sm at this
          rw [Int.natAbs_neg, Int.natAbs_natCast] at this
          exact this
        have hcp := List.length_pos_iff.2 (digs_ne (b := 4294967296) (by decide) hc)
        refine .step (fun k => whole_Int_Text_c5_eq k _ _ _) (.ck (by omega) (ev_Text_c8 _ _ _ (dD c) (by omega) (by rw [bl_len]; omega) ?_))
        rw [dV c]
        have e1 : ((c : Int) / 10).toNat = c / 10 := by omega
        have e2 : bl acc ++ [48 + (c : Int) % 10] = bl (acc ++ [UInt8.ofNat (48 + c % 10)]) := by
          rw [bl_app]
          congr 1
          show _ = [((((UInt8.ofNat (48 + c % 10)).toNat : Nat)) : Int)]
          rw [dig_byte]
        rw [e1, e2]
        have hlen2 : acc.length + 1 ≤ (revDig n n).length := by
          rw [← h4, List.length_append, revDig_step hc]
          simp
        have hrl : (revDig n n).length ≤ 1000 := by
          have : (revDig n n).length = (Lib.decDigits n).length := by rw [← dec_rev n n (Nat.le_refl _) hn, List.length_reverse]
          rw [this, Lib.decDigits_length]
          refine nDig_le 1000 n (by decide) (Nat.lt_of_lt_of_le (m := 4294967296 ^ 100) ?_ (by decide +kernel))
          have := ha
          unfold Sm at this
          rw [Int.natAbs_neg, Int.natAbs_natCast] at this
          exact this
        refine ih (c / 10) _ (by omega) (by omega) (by omega) (by rw [List.length_append]; simp; omega) ?_
        rw [List.append_assoc, List.singleton_append, ← revDig_step hc]
        exact h4
  exact key n n [] (Nat.le_refl _) (Nat.le_refl _) (by omega) (by simp) (by simp)

theorem ev_WTextA (a : Int) (ha : Sm a) : Ev (fun k => whole_Int_Text k (W a)) (B (Lib.itoa a)) := by
  by_cases h : 0 ≤ a
  · exact ev_WText a ha h
  · obtain ⟨n, rfl⟩ : ∃ n : Nat, a = -(n : Int) := ⟨a.natAbs, by omega⟩
    have hW : W (-(n : Int)) = (true, digs 4294967296 n) := by unfold W; simp; omega
    have := ev_WTextN n (by omega) ha
    rw [hW]
    refine this.to ?_
    unfold Lib.itoa
    rw [if_pos (by omega)]
    have : (-(n : Int)).natAbs = n := by omega
    rw [this]
theorem ev_norms : ∀ (n : Nat) (d s : Int × Int), okD d → d.2.toNat = n → ∃ y, Ev (fun k => interchangeref1_Normal_c1 k d s) y ∧ Ev (fun k => amount_Least_c1 k d s) y := by
  intro n
  induction n with
  | zero =>
    intro d s h hn
    have h2 := h.2.2.1
    exact ⟨d, .step (fun k => interchangeref1_Normal_c1_eq k _ _) (.tt (bor' fun _ => rfl) (.ff (by rw [decide_eq_false (by omega)]; rfl) (.pure _))), .step (fun k => amount_Least_c1_eq k _ _) (.tt (bor' fun _ => rfl) (.ff (by rw [decide_eq_false (by omega)]; rfl) (.pure _)))⟩
  | succ n ih =>
    intro d s h hn
    have h' := h
    unfold okD at h'
    cases hc : (cond (decide (d.2 > 0)) ((d.1.tmod 10) == 0) false) with
    | false => exact ⟨d, .step (fun k => interchangeref1_Normal_c1_eq k _ _) (.tt (bor' fun _ => rfl) (.ff hc (.pure _))), .step (fun k => amount_Least_c1_eq k _ _) (.tt (bor' fun _ => rfl) (.ff hc (.pure _)))⟩
    | true =>
      have hb : -1000000000000000 ≤ d.1.tdiv 10 ∧ d.1.tdiv 10 ≤ 1000000000000000 := by
        have := Int.natAbs_tdiv d.1 10
        have h3 : (d.1.tdiv 10).natAbs ≤ d.1.natAbs := by
          rw [Int.natAbs_tdiv]
          exact Nat.div_le_self _ _
        omega
      have e1 : wi64 (d.1.tdiv 10) = d.1.tdiv 10 := wi64_id (by omega) (by omega)
      have e2 : wi64 (d.2 - 1) = d.2 - 1 := wi64_id (by omega) (by omega)
      obtain ⟨y, y1, y2⟩ := ih (d.1.tdiv 10, d.2 - 1) s (by unfold okD; simp only; omega) (by simp only; omega)
      refine ⟨y, .step (fun k => interchangeref1_Normal_c1_eq k _ _) (.tt (bor' fun _ => rfl) (.tt hc ?_)), .step (fun k => amount_Least_c1_eq k _ _) (.tt (bor' fun _ => rfl) (.tt hc ?_))⟩
      · rw [e1, e2]; exact y1
      · rw [e1, e2]; exact y2
theorem ev_norm (d : Int × Int) (h : okD d) : ∃ y, Ev (fun k => interchangeref1_Normal k d) y ∧ Ev (fun k => amount_Least k d) y := by
  obtain ⟨y, y1, y2⟩ := ev_norms _ d (0, 0) h rfl
  exact ⟨y, .step (fun k => interchangeref1_Normal_eq k _) y1, .step (fun k => amount_Least_eq k _) y2⟩
theorem rtx_ok (l : List UInt8) (h : (rtx l).2 = 0) : okD (rtx l).1 := by
  unfold rtx rtc at *
  split
  · rename_i h1
    rw [if_pos h1] at h
    exact absurd h (by decide)
  · rename_i h1
    rw [if_neg h1] at h
    split
    · rename_i h2
      rw [if_pos h2, rdR_bad] at h
      rw [rdR_bad]
      have hf : (cutB (cutP l).1 46).2.1.length ≤ 9 := by
        cases hh : (cutB (cutP l).1 46).2.2 with
        | false => rw [cutB_no _ _ hh]; simp
        | true =>
          rw [hh] at h2
          simp only [Bool.not_true, Bool.false_or, Bool.and_eq_true, decide_eq_true_eq] at h2
          exact h2.2.2
      split
      · rename_i h3
        rw [if_pos h3] at h
        exact absurd h (by decide)
      · rename_i h3
        rw [if_neg h3] at h
        split
        · rename_i h4
          unfold okD
          simp only
          split <;> omega
        · rename_i h4
          rw [if_neg h4] at h
          exact absurd h (by decide)
    · rename_i h2
      rw [if_neg h2] at h
      exact absurd h (by decide)
theorem itoa_sc {d : Int × Int} (h : okD d) {p : Int} (hp : d.2 ≤ p) (hz : d.1 ≠ 0) : Lib.itoa (sc d p) = (if d.1 < 0 then [45] else []) ++ (Lib.decDigits d.1.natAbs ++ List.replicate (p - d.2).toNat 48) := by
  have hn : 0 < d.1.natAbs := by omega
  have hpos : (0 : Int) < 10 ^ (p - d.2).toNat := Int.pow_pos (by omega)
  have ha : (sc d p).natAbs = d.1.natAbs * 10 ^ (p - d.2).toNat := by
    unfold sc
    rw [Int.natAbs_mul, Int.natAbs_pow]
    rfl
  unfold Lib.itoa
  by_cases hneg : d.1 < 0
  · have : sc d p < 0 := by unfold sc; exact Int.mul_neg_of_neg_of_pos hneg hpos
    rw [if_pos this, if_pos hneg]
    rw [ha, dec_mulP hn]
    rfl
  · have : ¬ sc d p < 0 := by
      have : 0 ≤ sc d p := by unfold sc; exact Int.mul_nonneg (by omega) (by omega)
      omega
    rw [if_neg this, if_neg hneg]
    have e : (sc d p).toNat = (sc d p).natAbs := by omega
    rw [e, ha, dec_mulP hn]
    rfl
def prB (b : UInt8) : Bool := decide ((32 : Int) ≤ (b.toNat : Int)) && decide ((b.toNat : Int) ≤ 126)
theorem dropW_self {p : UInt8 → Bool} : ∀ {l : List UInt8}, l.dropWhile p = l → ∀ b, l.head? = some b → p b = false
  | [], _, _, h => by cases h
  | x :: l, h, b, hb => by
    have e : x = b := by simpa using hb
    subst e
    cases hp : p x with
    | false => rfl
    | true =>
      rw [List.dropWhile_cons_of_pos hp] at h
      have := congrArg List.length h
      have h2 := (List.dropWhile_sublist p (l := l)).length_le
      simp at this
      omega
theorem dropW_id {p : UInt8 → Bool} : ∀ {l : List UInt8}, (∀ b, l.head? = some b → p b = false) → l.dropWhile p = l
  | [], _ => rfl
  | x :: l, h => by
    have := h x rfl
    rw [List.dropWhile_cons, this]
    rfl
theorem trim_self (l cs : List UInt8) : Lib.trimS l cs = l ↔ (∀ b, l.head? = some b → cs.contains b = false) ∧ (∀ b, l.getLast? = some b → cs.contains b = false) := by
  unfold Lib.trimS Lib.trimLeftS Lib.trimRightS
  constructor
  · intro h
    have l1 := (List.dropWhile_sublist (cs.contains ·) (l := (l.reverse.dropWhile (cs.contains ·)).reverse)).length_le
    have l2 := (List.dropWhile_sublist (cs.contains ·) (l := l.reverse)).length_le
    rw [h] at l1
    rw [List.length_reverse] at l1 l2
    have e1 : l.reverse.dropWhile (cs.contains ·) = l.reverse := List.Sublist.eq_of_length (List.dropWhile_sublist _) (by rw [List.length_reverse]; omega)
    rw [e1, List.reverse_reverse] at h
    refine ⟨dropW_self h, fun b hb => dropW_self e1 b ?_⟩
    rw [List.head?_reverse]
    exact hb
  · rintro ⟨h1, h2⟩
    have e1 : l.reverse.dropWhile (cs.contains ·) = l.reverse := dropW_id fun b hb => h2 b (by rw [List.head?_reverse] at hb; exact hb)
    rw [e1, List.reverse_reverse]
    exact dropW_id h1
def plB (l : List UInt8) : Bool := l.all prB && ((l.getD 0 0 != 32) && (l.getD (l.length - 1) 0 != 32))
theorem ne32 (b : UInt8) : (((b.toNat : Nat) : Int) != 32) = (b != 32) := by
  have : ∀ n : Fin 256, ((n.val : Int) != 32) = (UInt8.ofNat n.val != 32) := by decide +kernel
  have h := this ⟨b.toNat, b.toNat_lt⟩
  simpa using h
theorem ev_rPlain (s : ByteArray) (hs : s.size < 1125899906842624) (h0 : 0 < s.size) : Ev (fun k => interchangeref6_isPlain k s) (plB (L s)) := by
  have hsz := size_L s
  refine .step (fun k => interchangeref6_isPlain_eq k _) ?_
  refine ev_up s.size (fun i => ((L s).drop i).all prB && (((L s).getD 0 0 != 32) && ((L s).getD ((L s).length - 1) 0 != 32))) (fun k i => interchangeref6_isPlain_c2 k s (s.size : Int) i) (fun i hi h => ?_) ?_
  · refine .step (fun k => interchangeref6_isPlain_c2_eq k _ _ _) (.ck (by omega) (.ck (by omega) (.ck (by omega) (.tt (bor' fun _ => by simp) (.tt (bor' fun _ => by simp; omega) ?_)))))
    rw [bt_at hi, wj hi hs]
    show Ev _ (((L s).drop i).all prB && _)
    rw [drop_at (l := L s) (i := i) (by omega), List.all_cons]
    have eL : (L s).getD i 0 = s.data.toList.getD i 0 := rfl
    rw [eL]
    generalize s.data.toList.getD i 0 = b
    have e : (cond (decide (((b.toNat : Nat) : Int) < 32)) true (decide (((b.toNat : Nat) : Int) > 126))) = !prB b := by
      unfold prB
      by_cases h1 : ((b.toNat : Nat) : Int) < 32
      · rw [decide_eq_true h1, decide_eq_false (by omega : ¬ (32 : Int) ≤ ((b.toNat : Nat) : Int))]; rfl
      · rw [decide_eq_false h1, decide_eq_true (by omega : (32 : Int) ≤ ((b.toNat : Nat) : Int))]
        by_cases h2 : ((b.toNat : Nat) : Int) > 126
        · rw [decide_eq_true h2, decide_eq_false (by omega : ¬ ((b.toNat : Nat) : Int) ≤ 126)]; rfl
        · rw [decide_eq_false h2, decide_eq_true (by omega : ((b.toNat : Nat) : Int) ≤ 126)]; rfl
    rw [e]
    cases hb : prB b with
    | false => exact .pure _
    | true => exact h
  · have b0 := bt_at (s := s) (i := 0) (by omega)
    have b1 := bt_at (s := s) (i := s.size - 1) (by omega)
    have ew : wi64 ((s.size : Int) - 1) = ((s.size - 1 : Nat) : Int) := wj1 hs (by omega)
    refine .step (fun k => interchangeref6_isPlain_c2_eq k _ _ _) (.nk (by omega) (.ck (by omega) ?_))
    rw [ew]
    refine .tt (bor' fun _ => by simp) (.tt (bor' fun _ => by simp; omega) (.to (.pure _) ?_))
    have b0' : bt s 0 = (((s.data.toList.getD 0 0).toNat : Nat) : Int) := b0
    rw [b0', b1, ne32, ne32]
    show _ = (((L s).drop s.size).all prB && _)
    rw [List.drop_of_length_le (by omega), ← hsz]
    have eL : L s = s.data.toList := rfl
    rw [eL]
    cases (s.data.toList.getD 0 0 != 32) <;> rfl
theorem ev_Trim32 (s : ByteArray) (hs : s.size < 1125899906842624) : Ev (fun k => strings_Trim k s (bs [32])) (B (Lib.trimS (L s) [32])) := by
  refine .off (n := 0) fun k => ?_
  rw [strings_Trim_eq, decide_eq_true (by omega)]
  rfl
theorem plB_eq (l : List UInt8) (h0 : 0 < l.length) : plB l = (l.all prB && decide (Lib.trimS l [32] = l)) := by
  unfold plB
  congr 1
  have hc : ∀ b : UInt8, [32].contains b = (b == 32) := fun b => by by_cases h : b = 32 <;> simp [h]
  have hh : l.head? = some (l.getD 0 0) := by
    cases l with
    | nil => simp at h0
    | cons x l => rfl
  have hl : l.getLast? = some (l.getD (l.length - 1) 0) := by
    rw [List.getLast?_eq_getElem?, List.getD_eq_getElem?_getD, List.getElem?_eq_getElem (by omega)]
    rfl
  by_cases h : Lib.trimS l [32] = l
  · rw [decide_eq_true h]
    obtain ⟨h1, h2⟩ := (trim_self l [32]).1 h
    have q1 := h1 _ hh
    have q2 := h2 _ hl
    rw [hc] at q1 q2
    unfold bne
    rw [q1, q2]
    rfl
  · rw [decide_eq_false h]
    cases hb : ((l.getD 0 0 != 32) && (l.getD (l.length - 1) 0 != 32)) with
    | false => rfl
    | true =>
      refine absurd ((trim_self l [32]).2 ⟨fun b hb1 => ?_, fun b hb1 => ?_⟩) h
      · rw [hh] at hb1
        have e := Option.some.inj hb1
        rw [← e, hc]
        unfold bne at hb
        simp only [Bool.and_eq_true, Bool.not_eq_true'] at hb
        exact hb.1
      · rw [hl] at hb1
        have e := Option.some.inj hb1
        rw [← e, hc]
        unfold bne at hb
        simp only [Bool.and_eq_true, Bool.not_eq_true'] at hb
        exact hb.2
theorem ev_aPlain (s : ByteArray) (hs : s.size < 1125899906842624) (h0 : 0 < s.size) : Ev (fun k => (kit_InBytes k s 32 126).bind fun y3 => (cond y3 (strings_Trim k s (bs [32])) (some (bs []))).bind fun y4 => some (cond y3 (eqS y4 s) false)) (plB (L s)) := by
  have hsz := size_L s
  rw [plB_eq (L s) (by omega)]
  refine .bind (ev_InBytes s 32 126 hs) ?_
  have e : ((L s).all fun b => decide ((32 : Int) ≤ (b.toNat : Int)) && decide ((b.toNat : Int) ≤ 126)) = (L s).all prB := rfl
  rw [e]
  cases (L s).all prB with
  | false => exact .bind (x := bs []) (.ff rfl (.pure _)) (.pure _)
  | true =>
    refine .bind (.tt rfl (ev_Trim32 s hs)) (.to (.pure _) ?_)
    show eqS (B (Lib.trimS (L s) [32])) s = (true && decide (Lib.trimS (L s) [32] = L s))
    rw [eqS_L, L_B, Bool.true_and]
theorem ev_day (l : List UInt8) (hl : l.length ≤ 140737488351232) : ∃ t, Ev (fun k => interchangeref1_ReadDay k (B l) 1 1) t ∧ Ev (fun k => amount_ReadDay k (B l) 1 1) t ∧ (t.2 = 0 → 1 ≤ t.1 ∧ t.1 ≤ 3652059) := by
  obtain ⟨h1, r, h2, h3⟩ := ev_rd1T l 1 (by decide) hl
  refine ⟨_, h1, .step (fun k => amount_ReadDay_eq k _ _ _) (.bind (.step (fun k => amount_isForm_eq k _) (.bind (ev_outF _ _ _) (.pure _))) (.ff rfl (.bind (ev_outF _ _ _) (.ff rfl (.bind h2 ?_))))), fun h => ?_⟩
  · rw [← h3]
    unfold fA
    cases hr : r.2 with
    | true => exact .ff rfl (.pure _)
    | false => exact .tt rfl (.pure _)
  · split
    · rename_i h8
      rw [if_pos h8] at h
      unfold finD at *
      split
      · rename_i hok
        exact (okDt_ok hok).bound
      · rename_i hok
        rw [if_neg hok] at h
        exact absurd h (by decide)
    · rename_i h8
      rw [if_neg h8] at h
      exact absurd h (by decide)
theorem ev_dayTx {n form : Int} (hn : 1 ≤ n ∧ n ≤ 3652059) (hf : (wOf form == 0) = false) : ∃ w : ByteArray, Ev (fun k => interchangeref1_DayText k n form) (w, 0) ∧ Ev (fun k => amount_DayText k n form) (w, 0) ∧ (w.size : Int) = wOf form := by
  obtain ⟨t, h1, rfl⟩ := Dt.ex hn.1 hn.2
  have h3 := thu_in hn.1 hn.2
  obtain ⟨v, h4, h5⟩ := Dt.ex h3.1 h3.2
  have z := szs h1 h4 h5
  have s1 := pad_size z.y4
  have s3 := pad_size z.m2
  have s4 := pad_size z.d2
  have s5 := pad_size z.v4
  have s6 := pad_size z.w2
  have s7 := pad_size z.e1
  have s8 : (bs [45]).size = 1 := rfl
  have hfr : 1 ≤ form ∧ form ≤ 5 ∧ form ≠ 2 := by
    rw [wOf_zero] at hf
    unfold inB at hf
    simp at hf
    omega
  refine ⟨_, ev_rDayText h1 h4 h5 ⟨hfr.1, hfr.2.1⟩, ev_aDayText h1 h4 h5 ⟨hfr.1, hfr.2.1⟩, ?_⟩
  unfold dtx wOf
  by_cases f1 : form = 1
  · subst f1
    show (((pad t.y 4 ++ pad t.m 2) ++ pad t.d 2).size : Int) = 8
    rw [ByteArray.size_append, ByteArray.size_append]
    omega
  by_cases f3 : form = 3
  · subst f3
    show (((pad t.d 2 ++ pad t.m 2) ++ pad t.y 4).size : Int) = 8
    rw [ByteArray.size_append, ByteArray.size_append]
    omega
  by_cases f4 : form = 4
  · subst f4
    show (((((pad t.y 4 ++ bs [45]) ++ pad t.m 2) ++ bs [45]) ++ pad t.d 2).size : Int) = 10
    rw [ByteArray.size_append, ByteArray.size_append, ByteArray.size_append, ByteArray.size_append]
    omega
  have f5 : form = 5 := by omega
  subst f5
  show (((pad v.y 4 ++ pad (wk v.y t.n) 2) ++ pad ((t.n - 1) % 7 + 1) 1).size : Int) = 7
  rw [ByteArray.size_append, ByteArray.size_append]
  omega
end Go.Proofs.YtpgbbmdfnmjjjaaGreatDoor.Eq
namespace Go.Proofs.YtpgbbmdfnmjjjaaGreatDoor.Eq
open Go Go.Ra
set_option linter.unusedVariables false
structure ColOk (m : Int) (b : Col) : Prop where
  ty : b.2.1 = 1 ∨ b.2.1 = 2 ∨ b.2.1 = 3
  w1 : 1 ≤ b.2.2.1
  w2 : b.2.2.1 ≤ 100
  pl : b.2.1 = 2 → 0 ≤ b.2.2.2.1 ∧ b.2.2.2.1 ≤ 9
  fm : b.2.1 = 3 → (wOf b.2.2.2.2.1 == 0) = false
  idle : busy m b = false
  wd : m = 0 → b.2.1 = 3 → b.2.2.1 = wOf b.2.2.2.2.1
  pd : m = 0 → b.2.1 ≠ 3 → b.2.2.2.2.2.2.1 = 32 ∨ (b.2.2.2.2.2.2.1 = 48 ∧ b.2.2.2.2.2.1 = true)
theorem cond0 {c : Bool} {x y : Int} (hx : x ≠ 0) (h : cond c x y = 0) : c = false ∧ y = 0 := by
  cases c with
  | true => exact absurd h hx
  | false => exact ⟨rfl, h⟩
theorem inB_iff {a b c : Int} : inB a b c = true ↔ b ≤ a ∧ a ≤ c := by unfold inB; simp
theorem not_f {a : Bool} (h : (!a) = false) : a = true := by cases a <;> trivial
theorem colF_ok {m : Int} {own : Bool} {b : Col} (h : colF m own b = 0) : ColOk m b := by
  unfold colF at h
  obtain ⟨_, h⟩ := cond0 (by decide) h
  obtain ⟨_, h⟩ := cond0 (by decide) h
  obtain ⟨h1, h⟩ := cond0 (by decide) h
  obtain ⟨h2, h⟩ := cond0 (by decide) h
  obtain ⟨h3, h⟩ := cond0 (by decide) h
  obtain ⟨h4, h⟩ := cond0 (by decide) h
  obtain ⟨h5, h⟩ := cond0 (by decide) h
  have t1 := inB_iff.1 (not_f h1)
  have t2 := inB_iff.1 (not_f h2)
  refine ⟨by omega, t2.1, t2.2, fun z => ?_, fun z => ?_, h5, fun z z3 => ?_, fun z z3 => ?_⟩
  · rw [z] at h3
    exact inB_iff.1 (not_f (by simpa using h3))
  · rw [z] at h4
    simpa using h4
  · rw [z, z3] at h
    simp at h
    by_cases e : b.2.2.1 = wOf b.2.2.2.2.1
    · exact e
    · rw [show (b.2.2.1 != wOf b.2.2.2.2.1) = true by simpa using e] at h
      exact absurd h (by decide)
  · have e3 : (b.2.1 == 3) = false := by simpa using z3
    rw [z, e3] at h
    obtain ⟨h6, _⟩ := cond0 (c := (!(b.2.2.2.2.2.2.1 == 32) && !((b.2.1 == 2) && (b.2.2.2.2.2.2.1 == 48) && b.2.2.2.2.2.1))) (x := 3) (y := 0) (by decide) h
    by_cases e : b.2.2.2.2.2.2.1 = 32
    · exact .inl e
    · have e' : (b.2.2.2.2.2.2.1 == 32) = false := by simpa using e
      rw [e'] at h6
      have h7 : ((b.2.1 == 2) && (b.2.2.2.2.2.2.1 == 48) && b.2.2.2.2.2.1) = true := not_f (by simpa using h6)
      simp at h7
      exact .inr ⟨h7.1.2, h7.2⟩
theorem ne_size {c : ByteArray} (h : eqS c (bs []) = false) : 0 < c.size := by
  rcases Nat.eq_zero_or_pos c.size with h0 | h0
  · have hl : (L c).length = 0 := by have := size_L c; omega
    have : L c = [] := List.eq_nil_of_length_eq_zero hl
    rw [eqS_nil, this] at h
    cases h
  · exact h0
theorem ev_isOf (m : Int) (b : Col) (hb : ColOk m b) (c : ByteArray) (hc : c.size ≤ 140737488351232) (hne : eqS c (bs []) = false) :
    ∃ t : Bool, Ev (fun k => interchangeref6_isOf k b c) t ∧ Ev (fun k => flat_isValue k b c) t ∧
      (t = true → (b.2.1 = 2 → (rtx (L c)).2 = 0 ∧ (rtx (L c)).1.2 ≤ b.2.2.2.1) ∧ (b.2.1 = 3 → ∃ n : Int, (1 ≤ n ∧ n ≤ 3652059) ∧ Ev (fun k => interchangeref1_ReadDay k c 1 1) (n, 0) ∧ Ev (fun k => amount_ReadDay k c 1 1) (n, 0))) := by
  have hsz := size_L c
  have h0 := ne_size hne
  by_cases h2 : b.2.1 = 2
  · have e2 : (b.2.1 == 2) = true := by simpa using h2
    have hr := ev_rRead (L c) (by omega)
    have ha := ev_aRead (L c) (by omega)
    rw [B_L] at hr ha
    cases hz : ((rtx (L c)).2 == 0) with
    | false =>
      refine ⟨false, .step (fun k => interchangeref6_isOf_eq k _ _) (.tt e2 (.bind hr ?_)), .step (fun k => flat_isValue_eq k _ _) (.tt e2 (.bind ha ?_)), fun z => by cases z⟩
      · rw [hz]; exact .bind (x := (0, 0)) (.ff rfl (.pure _)) (.pure _)
      · rw [hz]; exact .bind (x := (0, 0)) (.ff rfl (.pure _)) (.pure _)
    | true =>
      have hz' : (rtx (L c)).2 = 0 := by simpa using hz
      obtain ⟨y, y1, y2⟩ := ev_norm _ (rtx_ok _ hz')
      by_cases hp : (rtx (L c)).1.2 ≤ b.2.2.2.1
      · refine ⟨(y.1 == (rtx (L c)).1.1) && ((y.2 == (rtx (L c)).1.2) && true), .step (fun k => interchangeref6_isOf_eq k _ _) (.tt e2 (.bind hr ?_)), .step (fun k => flat_isValue_eq k _ _) (.tt e2 (.bind ha ?_)), fun _ => ⟨fun _ => ⟨hz', hp⟩, fun z => by omega⟩⟩
        · rw [hz, decide_eq_true hp]
          refine .bind (.tt rfl y1) (.to (.pure _) ?_)
          cases ((y.1 == (rtx (L c)).1.1) && ((y.2 == (rtx (L c)).1.2) && true)) <;> rfl
        · rw [hz, decide_eq_true hp]
          exact .bind (.tt rfl y2) (.pure _)
      · refine ⟨false, .step (fun k => interchangeref6_isOf_eq k _ _) (.tt e2 (.bind hr ?_)), .step (fun k => flat_isValue_eq k _ _) (.tt e2 (.bind ha ?_)), fun z => by cases z⟩
        · rw [hz, decide_eq_false hp]
          refine .bind (.tt rfl y1) (.to (.pure _) ?_)
          cases ((y.1 == (rtx (L c)).1.1) && ((y.2 == (rtx (L c)).1.2) && true)) <;> rfl
        · rw [hz, decide_eq_false hp]
          exact .bind (x := (0, 0)) (.ff rfl (.pure _)) (.pure _)
  · have e2 : (b.2.1 == 2) = false := by simpa using h2
    by_cases h3 : b.2.1 = 3
    · have e3 : (b.2.1 == 3) = true := by simpa using h3
      obtain ⟨t, t1, t2, t3⟩ := ev_day (L c) (by omega)
      rw [B_L] at t1 t2
      refine ⟨t.2 == 0, .step (fun k => interchangeref6_isOf_eq k _ _) (.ff e2 (.tt e3 (.bind t1 (.pure _)))), .step (fun k => flat_isValue_eq k _ _) (.ff e2 (.tt e3 (.bind t2 (.pure _)))), fun z => ⟨fun q => absurd q h2, fun _ => ⟨t.1, ?_⟩⟩⟩
      have hz : t.2 = 0 := by simpa using z
      have ht : t = (t.1, 0) := by rw [← hz]
      rw [ht] at t1 t2
      exact ⟨t3 hz, t1, t2⟩
    · have e3 : (b.2.1 == 3) = false := by simpa using h3
      exact ⟨_, .step (fun k => interchangeref6_isOf_eq k _ _) (.ff e2 (.ff e3 (.ret (ev_rPlain c (by omega) h0) rfl))), .step (fun k => flat_isValue_eq k _ _) (.ff e2 (.ff e3 (ev_aPlain c (by omega) h0))), fun _ => ⟨fun q => absurd q h2, fun q => absurd q h3⟩⟩
theorem ev_written (a : Fmt) (b : Col) (hb : ColOk a.1 b) (c : ByteArray) (hc : c.size ≤ 140737488351232) (hne : eqS c (bs []) = false)
    (h2 : b.2.1 = 2 → (rtx (L c)).2 = 0 ∧ (rtx (L c)).1.2 ≤ b.2.2.2.1) (h3 : b.2.1 = 3 → ∃ n : Int, (1 ≤ n ∧ n ≤ 3652059) ∧ Ev (fun k => interchangeref1_ReadDay k c 1 1) (n, 0) ∧ Ev (fun k => amount_ReadDay k c 1 1) (n, 0)) :
    ∃ w : ByteArray, Ev (fun k => interchangeref6_written k a b c) w ∧ Ev (fun k => flat_written k a b c) w ∧ (b.2.1 = 3 → (w.size : Int) = wOf b.2.2.2.2.1) := by
  have hsz := size_L c
  rcases hb.ty with t1 | t2 | t3
  · have e1 : (b.2.1 == 1) = true := by simpa using t1
    have e2 : (b.2.1 == 2) = false := by rw [t1]; rfl
    have e3 : (b.2.1 == 3) = false := by rw [t1]; rfl
    exact ⟨c, .step (fun k => interchangeref6_written_eq k _ _ _) (.tt (by rw [hne, e1]; rfl) (.pure _)), .step (fun k => flat_written_eq k _ _ _) (.ff hne (.ff (by rw [e2]; rfl) (.ff e3 (.pure _)))), fun z => by omega⟩
  · have e1 : (b.2.1 == 1) = false := by rw [t2]; rfl
    have e2 : (b.2.1 == 2) = true := by simpa using t2
    have e3 : (b.2.1 == 3) = false := by rw [t2]; rfl
    by_cases hm : a.1 = 0
    · obtain ⟨hz, hp⟩ := h2 t2
      have hok := rtx_ok _ hz
      have hpl := hb.pl t2
      have hr := ev_rRead (L c) (by omega)
      have ha := ev_aRead (L c) (by omega)
      rw [B_L] at hr ha
      generalize hd : (rtx (L c)).1 = d at *
      have hok' := hok
      unfold okD at hok'
      have hsm : Sm (sc d b.2.2.2.1) := .of (Nat.le_trans (sc_abs hok (by omega)) (Nat.pow_le_pow_right (by decide) (by decide)))
      refine ⟨B (Lib.itoa (sc d b.2.2.2.1)), .step (fun k => interchangeref6_written_eq k _ _ _) (.ff (by rw [hne, e1, e2, hm]; rfl) (.ff e3 (.bind hr ?_))), .step (fun k => flat_written_eq k _ _ _) (.ff hne (.tt (by rw [e2, hm]; rfl) (.bind ha ?_))), fun z => by omega⟩
      · rw [hd]
        have ht := ev_TrimPre45 (B (Lib.itoa d.1))
        rw [L_B, cutP_itoa] at ht
        have e45 : bs [45] = B [45] := rfl
        have h16 := dec16 (show d.1.natAbs ≤ 1000000000000000 by omega)
        have hwb : wi64 (b.2.2.2.1 - d.2) = (((b.2.2.2.1 - d.2).toNat : Nat) : Int) := by rw [wi64_id (by omega) (by omega)]; omega
        refine .bind (ev_Itoa (by omega) (by omega)) (.bind ht ?_)
        rw [hwb, e45]
        by_cases hz0 : d.1 = 0
        · refine .ff (by simp [hz0]) (.nk (by omega) (.to (.pure _) ?_))
          have hs0 : sc d b.2.2.2.1 = 0 := by unfold sc; rw [hz0, Int.zero_mul]
          rw [hs0, hz0]
          rfl
        · rw [itoa_sc hok hp hz0]
          refine .tt (by simp [hz0]) (.bind (ev_Rep48' _ (by omega)) ?_)
          simp only [B_app, size_B]
          refine .ck (by rw [List.length_replicate]; omega) ?_
          by_cases hn : d.1 < 0
          · rw [if_pos hn]
            exact .ck hn (.ck (by rw [List.length_append, List.length_replicate]; omega) (.pure _))
          · rw [if_neg hn]
            exact .nk hn (.pure _)
      · rw [hd]
        exact .bind (ev_Scaled d _ hok hp (by omega)) (.ret (ev_WTextA _ hsm) rfl)
    · have hm' : (a.1 == 0) = false := by simpa using hm
      exact ⟨c, .step (fun k => interchangeref6_written_eq k _ _ _) (.tt (by unfold bne; rw [hne, e1, e2, hm']; rfl) (.pure _)), .step (fun k => flat_written_eq k _ _ _) (.ff hne (.ff (by rw [e2, hm']; rfl) (.ff e3 (.pure _)))), fun z => by omega⟩
  · have e1 : (b.2.1 == 1) = false := by rw [t3]; rfl
    have e2 : (b.2.1 == 2) = false := by rw [t3]; rfl
    have e3 : (b.2.1 == 3) = true := by simpa using t3
    obtain ⟨n, hn, n1, n2⟩ := h3 t3
    obtain ⟨w, w1, w2, w3⟩ := ev_dayTx hn (hb.fm t3)
    exact ⟨w, .step (fun k => interchangeref6_written_eq k _ _ _) (.ff (by rw [hne, e1, e2]; rfl) (.tt e3 (.bind n1 (.bind w1 (.pure _))))), .step (fun k => flat_written_eq k _ _ _) (.ff hne (.ff (by rw [e2]; rfl) (.tt e3 (.bind n2 (.bind w2 (.pure _)))))), fun _ => w3⟩
def ValOk (a : Fmt) (b : Col) (c : ByteArray) : Prop :=
  ∃ w : ByteArray, Ev (fun k => interchangeref6_written k a b c) w ∧ Ev (fun k => flat_written k a b c) w ∧ (w.size : Int) ≤ b.2.2.1 ∧ (eqS c (bs []) = true → w = bs []) ∧ (eqS c (bs []) = false → b.2.1 = 3 → (w.size : Int) = wOf b.2.2.2.2.1) ∧ (eqS c (bs []) = false → b.2.1 = 2 → (rtx (L c)).2 = 0)
theorem eqS_emp {c : ByteArray} (h : eqS c (bs []) = true) : c = bs [] := (eqS_iff _ _).1 h
theorem ev_IdxB (s : ByteArray) (c : Int) : ∃ y : Int, Ev (fun k => strings_IndexByte k s c) y ∧ -1 ≤ y :=
  ⟨Lib.indexByte (L s) c.toNat.toUInt8, .step (fun k => strings_IndexByte_eq k _ _) (.bind (x := Lib.indexByte (L s) c.toNat.toUInt8) (.off (n := 0) fun k => by rw [stringslite_IndexByte_eq]) (.pure _)), Lib.indexByte_ge _ _⟩
theorem ev_value (a : Fmt) (b : Col) (hb : ColOk a.1 b) (c : ByteArray) (hc : c.size ≤ 140737488351232) :
    ∃ f : Int, Ev (fun k => flat_valueFault k a b c) f ∧ (f = 0 → ValOk a b c) ∧ ∀ (F : Nat → Option (Int × Int)) (i : Int) (y : Int × Int), (f = 0 → Ev F y) →
      Ev (fun k => cond (cond (eqS c (bs [])) b.2.2.2.2.2.2.2 false) (some (i, 13)) (cond (eqS c (bs [])) (F k) ((interchangeref6_isOf k b c).bind fun y1 => cond (!y1) (some (i, 6)) (
        (interchangeref6_written k a b c).bind fun y2 => cond (decide ((y2.size : Int) > b.2.2.1)) (some (i, 16)) (
        (cond (cond (a.1 != 0) (a.2.1 == 0) false) (strings_IndexByte k c a.1) (some 0)).bind fun y3 =>
        cond (cond (cond (a.1 != 0) (a.2.1 == 0) false) (decide (y3 ≥ 0)) false) (some (i, 12)) (F k)))))) (cond (f != 0) (i, f) y) := by
  cases he : eqS c (bs []) with
  | true =>
    cases hr : b.2.2.2.2.2.2.2 with
    | true => exact ⟨13, .step (fun k => flat_valueFault_eq k _ _ _) (.tt (by rw [he, hr]; rfl) (.pure _)), fun z => absurd z (by decide), fun F i y _ => .pure _⟩
    | false =>
      have hce := eqS_emp he
      refine ⟨0, .step (fun k => flat_valueFault_eq k _ _ _) (.ff (by rw [he, hr]; rfl) (.tt he (.pure _))), fun _ => ?_, fun F i y hF => hF rfl⟩
      refine ⟨bs [], .step (fun k => interchangeref6_written_eq k _ _ _) (.tt (by rw [he]; rfl) (.to (.pure _) hce)), .step (fun k => flat_written_eq k _ _ _) (.tt he (.pure _)), ?_, fun _ => rfl, (fun z => by rw [he] at z; cases z), fun z => by rw [he] at z; cases z⟩
      have := hb.w1
      show ((0 : Nat) : Int) ≤ _
      omega
  | false =>
    obtain ⟨t, t1, t2, t3⟩ := ev_isOf a.1 b hb c hc he
    cases t with
    | false => exact ⟨6, .step (fun k => flat_valueFault_eq k _ _ _) (.ff (by rw [he]; rfl) (.ff he (.bind t2 (.pure _)))), fun z => absurd z (by decide), fun F i y _ => .bind t1 (.pure _)⟩
    | true =>
      obtain ⟨q2, q3⟩ := t3 rfl
      obtain ⟨w, w1, w2, w3⟩ := ev_written a b hb c hc he q2 q3
      by_cases hw : (w.size : Int) > b.2.2.1
      · refine ⟨16, .step (fun k => flat_valueFault_eq k _ _ _) (.ff (by rw [he]; rfl) (.ff he (.bind t2 (.ff rfl (.bind w2 (.ck hw (.pure _))))))), fun z => absurd z (by decide), fun F i y _ => .bind t1 (.ff rfl (.bind w1 (.ck hw (.pure _))))⟩
      · obtain ⟨j, j1, _⟩ := ev_IdxB c a.1
        have hv : ValOk a b c := ⟨w, w1, w2, by omega, (fun z => by rw [he] at z; cases z), (fun _ => w3), fun _ z => (q2 z).1⟩
        cases hg : (cond (a.1 != 0) (a.2.1 == 0) false) with
        | false =>
          refine ⟨0, .step (fun k => flat_valueFault_eq k _ _ _) (.ff (by rw [he]; rfl) (.ff he (.bind t2 (.ff rfl (.bind w2 (.nk hw (.bind (x := 0) (.ff hg (.pure _)) (.ff (by rw [hg]; rfl) (.pure _)))))))) ), fun _ => hv, fun F i y hF => .bind t1 (.ff rfl (.bind w1 (.nk hw (.bind (x := 0) (.ff rfl (.pure _)) (.ff rfl (hF rfl))))))⟩
        | true =>
          by_cases hj : j ≥ 0
          · exact ⟨12, .step (fun k => flat_valueFault_eq k _ _ _) (.ff (by rw [he]; rfl) (.ff he (.bind t2 (.ff rfl (.bind w2 (.nk hw (.bind (.tt hg j1) (.tt (by rw [hg, decide_eq_true hj]; rfl) (.pure _))))))))), fun z => absurd z (by decide), fun F i y _ => .bind t1 (.ff rfl (.bind w1 (.nk hw (.bind (.tt rfl j1) (.tt (by rw [decide_eq_true hj]; rfl) (.pure _))))))⟩
          · exact ⟨0, .step (fun k => flat_valueFault_eq k _ _ _) (.ff (by rw [he]; rfl) (.ff he (.bind t2 (.ff rfl (.bind w2 (.nk hw (.bind (.tt hg j1) (.ff (by rw [hg, decide_eq_false hj]; rfl) (.pure _))))))))), fun _ => hv, fun F i y hF => .bind t1 (.ff rfl (.bind w1 (.nk hw (.bind (.tt rfl j1) (.ff (by rw [decide_eq_false hj]; rfl) (hF rfl))))))⟩
end Go.Proofs.YtpgbbmdfnmjjjaaGreatDoor.Eq
