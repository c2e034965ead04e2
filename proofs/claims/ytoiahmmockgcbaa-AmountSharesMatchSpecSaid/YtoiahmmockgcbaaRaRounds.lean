import Derived.Test.YtoiahmmockgcbaaRaSums2
import Derived.Test.YtoiahmmockgcbaaRaSums
/- Rounding: what the functions of both sides compute, and the two laws over them. -/
namespace Go.Proofs.Ytoiahmmockgcbaa.Eq
open Go Go.Ra
set_option linter.unusedVariables false

/-- Is a number that lies between two taken to the outer one. -/
def upB (w : Int) (neg ge gt eq odd : Bool) : Bool := (w == 4) || ((w == 5) && neg) || ((w == 6) && !neg) || ((w == 1) && ge) || ((w == 2) && (gt || (eq && odd)))
theorem upB_eq (w : Int) (neg ge gt eq odd : Bool) : (cond (cond (cond (cond (w == 4) true (cond (w == 5) neg false)) true (cond (w == 6) (!neg) false)) true (cond (w == 1) ge false)) true (cond (w == 2) (cond gt true (cond eq (cond ((((!(cond (cond (cond (w == 4) true (cond (w == 5) neg false)) true (cond (w == 6) (!neg) false)) true (cond (w == 1) ge false))) && (w == 2)) && (!gt)) && eq) odd false) false)) false) : Bool) = upB w neg ge gt eq odd := by
  unfold upB
  generalize (w == 4) = b4
  generalize (w == 5) = b5
  generalize (w == 6) = b6
  generalize (w == 1) = b1
  generalize (w == 2) = b2
  revert b4 b5 b6 b1 b2 neg ge gt eq odd
  decide +kernel

/-- The size of a quotient, rounded. -/
def rndN (n d : Nat) (neg : Bool) (w : Int) : Nat :=
  if n % d ≠ 0 ∧ upB w neg (decide (d ≤ 2 * (n % d))) (decide (d < 2 * (n % d))) (decide (2 * (n % d) = d)) (decide (n / d % 2 = 1)) = true then n / d + 1 else n / d
def rnd (a : Int) (d : Nat) (w : Int) : Int := if a < 0 then -((rndN a.natAbs d true w : Nat) : Int) else ((rndN a.natAbs d false w : Nat) : Int)

theorem rndN_le (n d : Nat) (neg : Bool) (w : Int) : rndN n d neg w ≤ n + 1 := by
  have := Nat.div_le_self n d
  unfold rndN
  split <;> omega

theorem rndN_scale {n d m : Nat} (hm : 0 < m) (neg : Bool) (w : Int) : rndN (n * m) (d * m) neg w = rndN n d neg w := by
  unfold rndN
  have e1 : n * m / (d * m) = n / d := Nat.mul_div_mul_right n d hm
  have e2 : n * m % (d * m) = n % d * m := Nat.mul_mod_mul_right ..
  rw [e1, e2]
  generalize n % d = r
  have c0 : r * m = 0 ↔ r = 0 := by
    constructor
    · intro h
      rcases Nat.mul_eq_zero.1 h with h | h
      · exact h
      · omega
    · intro h; subst h; simp
  have e3 : 2 * (r * m) = 2 * r * m := by rw [Nat.mul_assoc]
  have c1 : d * m ≤ 2 * (r * m) ↔ d ≤ 2 * r := by rw [e3]; exact Nat.mul_le_mul_right_iff hm
  have c2 : d * m < 2 * (r * m) ↔ d < 2 * r := by rw [e3]; exact Nat.mul_lt_mul_right hm
  have c3 : 2 * (r * m) = d * m ↔ 2 * r = d := by
    constructor
    · intro h
      have h1 := c1.1 (by omega)
      have h2 : ¬ d < 2 * r := fun z => by have := c2.2 z; omega
      omega
    · intro h; rw [e3, h]
  simp only [ne_eq, c0, c1, c2, c3]
theorem rnd_scale {a : Int} {d m : Nat} (hm : 0 < m) (w : Int) : rnd (a * m) (d * m) w = rnd a d w := by
  unfold rnd
  have hn : (a * m).natAbs = a.natAbs * m := by rw [Int.natAbs_mul]; rfl
  have hs : a * m < 0 ↔ a < 0 := by
    constructor
    · intro h
      rcases Int.lt_or_le a 0 with z | z
      · exact z
      · have := Int.mul_nonneg z (show (0 : Int) ≤ m by omega)
        omega
    · intro h
      exact Int.mul_neg_of_neg_of_pos h (by omega)
  rw [hn, rndN_scale hm, rndN_scale hm]
  simp only [hs]

theorem ev_IsWay (w : Int) : Ev (fun k => amount_IsWay k w) (decide (1 ≤ w ∧ w ≤ 6)) := by
  refine .step (fun k => amount_IsWay_eq k w) (.bind (ev_Outside w 1 6) (.to (.pure _) ?_))
  rw [← decide_not]
  exact decide_eq_decide.2 (by omega)
theorem ev_wayFault (p w : Int) : Ev (fun k => amount_wayFault k p w) (if 0 ≤ p ∧ p ≤ 9 then if 1 ≤ w ∧ w ≤ 6 then 0 else 4 else 1) := by
  refine .step (fun k => amount_wayFault_eq k p w) (.bind (ev_Outside p 0 9) ?_)
  by_cases h : 0 ≤ p ∧ p ≤ 9
  · rw [if_pos h]
    refine .nk (by omega) (.bind (ev_IsWay w) ?_)
    by_cases h2 : 1 ≤ w ∧ w ≤ 6
    · rw [if_pos h2]
      exact .ff (by simp [h2]) (.pure _)
    · rw [if_neg h2]
      exact .tt (by simp [h2]) (.pure _)
  · rw [if_neg h]
    exact .ck (by omega) (.pure _)

theorem sign_cases (x : Int) : (decide (x.sign ≥ 0) = decide (0 ≤ x)) ∧ (decide (x.sign > 0) = decide (0 < x)) ∧ ((x.sign == 0) = decide (x = 0)) ∧ (decide (x.sign < 0) = decide (x < 0)) := by
  rcases Int.lt_trichotomy x 0 with h | h | h
  · rw [Int.sign_eq_neg_one_of_neg h]
    have h1 : ¬ 0 ≤ x := by omega
    have h2 : ¬ 0 < x := by omega
    have h3 : ¬ x = 0 := by omega
    simp [h, h1, h2, h3]
  · subst h; simp
  · rw [Int.sign_eq_one_of_pos h]
    have h1 : 0 ≤ x := by omega
    have h2 : ¬ x < 0 := by omega
    have h3 : ¬ x = 0 := by omega
    simp [h, h1, h2, h3]

theorem ev_Divided (a : Int) (d : Nat) (w : Int) (ha : a.natAbs ≤ 10 ^ 40) (hd : d ≤ 10 ^ 40) (h0 : 0 < d) : Ev (fun k => amount_Divided k (W a) (W d) w) (W (rnd a d w)) := by
  have h40 : (10 : Nat) ^ 40 * 4 + 4 ≤ 10 ^ 60 := by decide
  have hq : a.natAbs / d ≤ a.natAbs := Nat.div_le_self _ _
  have hr : a.natAbs % d < d := Nat.mod_lt _ h0
  refine .step (fun k => amount_Divided_eq k _ _ w) (.bind (ev_By a d (.of (by omega)) (.of (by omega)) (by omega)) ?_)
  simp only [Int.natAbs_natCast]
  have fin : ∀ v : Nat, v ≤ 10 ^ 40 + 1 → Ev (fun k => (whole_Int_Sign k (W a)).bind fun y8 => cond (decide (y8 < 0)) ((whole_Int_Minus k (W v)).bind fun y9 => some y9) (some (W v))) (W (if a < 0 then -(v : Int) else v)) := by
    intro v hv
    refine .bind (ev_Sign a) ?_
    rw [(sign_cases a).2.2.2]
    refine .dec (fun h => ?_) (fun h => ?_)
    · rw [if_pos h]
      exact .ret (ev_Minus _ (.of (by omega))) rfl
    · rw [if_neg h]
      exact .pure _
  have hrnd : rnd a d w = if a < 0 then -((rndN a.natAbs d (decide (a < 0)) w : Nat) : Int) else ((rndN a.natAbs d (decide (a < 0)) w : Nat) : Int) := by
    unfold rnd
    by_cases h : a < 0 <;> simp [h]
  rw [hrnd]
  unfold rndN
  generalize hqe : a.natAbs / d = q at *
  generalize hre : a.natAbs % d = r at *
  refine .bind (ev_Sign _) ?_
  rw [sign_ne]
  by_cases hr0 : r = 0
  · have hcl : ¬ (r ≠ 0 ∧ upB w (decide (a < 0)) (decide (d ≤ 2 * r)) (decide (d < 2 * r)) (decide (2 * r = d)) (decide (q % 2 = 1)) = true) := fun z => z.1 hr0
    rw [if_neg hcl]
    exact .nk (by omega) (fin q (by omega))
  · refine .ck (by omega) (.bind (ev_Plus _ _ (.of (by omega)) (.of (by omega))) (.bind (ev_Compare _ _ (.of (by omega)) (.of (by omega))) (.bind (ev_Sign a) ?_)))
    obtain ⟨s1, s2, s3, _⟩ := sign_cases ((r : Int) + (r : Int) - (d : Int))
    rw [s1, s2, s3, (sign_cases a).2.2.2]
    have t1 : decide (0 ≤ (r : Int) + r - d) = decide (d ≤ 2 * r) := decide_eq_decide.2 (by omega)
    have t2 : decide (0 < (r : Int) + r - d) = decide (d < 2 * r) := decide_eq_decide.2 (by omega)
    have t3 : decide ((r : Int) + r - d = 0) = decide (2 * r = d) := decide_eq_decide.2 (by omega)
    rw [t1, t2, t3]
    have todd : decide (((q : Nat) : Int) % 2 = 1) = decide (q % 2 = 1) := decide_eq_decide.2 (by omega)
    generalize hneg : decide (a < 0) = neg
    generalize decide (d ≤ 2 * r) = ge
    generalize decide (d < 2 * r) = gt
    generalize decide (2 * r = d) = eq
    refine .bind (x := cond ((((!(cond (cond (cond (w == 4) true (cond (w == 5) neg false)) true (cond (w == 6) (!neg) false)) true (cond (w == 1) ge false))) && (w == 2)) && (!gt)) && eq) (decide (q % 2 = 1)) false) (.cond (fun h => ?_) (fun h => ?_)) ?_
    · rw [h]
      exact .to (ev_Odd _) todd
    · rw [h]
      exact .pure _
    · generalize decide (q % 2 = 1) = odd
      rw [upB_eq]
      refine .cond (fun h => ?_) (fun h => ?_)
      · have hc : r ≠ 0 ∧ upB w neg ge gt eq odd = true := ⟨hr0, h⟩
        rw [if_pos hc]
        refine .bind (ev_Of 1 (by omega) (by omega)) (.bind (ev_Plus _ _ (.of (by omega)) (.of (by decide))) ?_)
        exact fin (q + 1) (by omega)
      · have hc : ¬ (r ≠ 0 ∧ upB w neg ge gt eq odd = true) := fun z => by rw [h] at z; exact absurd z.2 (by simp)
        rw [if_neg hc]
        exact fin q (by omega)

theorem rnd_abs (a : Int) (d : Nat) (w : Int) : (rnd a d w).natAbs ≤ a.natAbs + 1 := by
  have h1 := rndN_le a.natAbs d true w
  have h2 := rndN_le a.natAbs d false w
  unfold rnd
  split <;> omega

theorem sc9_abs {d : Int × Int} (h : okD d) : (sc d 9).natAbs ≤ 10 ^ 24 := by
  unfold sc
  unfold okD at h
  rw [Int.natAbs_mul, pow10_abs]
  exact Nat.le_trans (Nat.mul_le_mul (show d.1.natAbs ≤ 10 ^ 15 by omega) (pow10_le 9 (show (9 - d.2).toNat ≤ 9 by omega))) (by decide)

/-- Rounded. -/
def rouR (a : Int × Int) (p w : Int) : (Int × Int) × Int :=
  if okD a ∧ 0 ≤ p ∧ p ≤ 9 then if 1 ≤ w ∧ w ≤ 6 then mk (rnd (sc a 9) (10 ^ (9 - p).toNat) w) p else ((0, 0), 4) else ((0, 0), 1)
/-- A quotient. -/
def quoR (a b : Int × Int) (p w : Int) : (Int × Int) × Int :=
  if okD a ∧ okD b ∧ 0 ≤ p ∧ p ≤ 9 then if 1 ≤ w ∧ w ≤ 6 then if b.1 = 0 then ((0, 0), 13) else mk (rnd (if b.1 < 0 then -(sc a 9 * 10 ^ p.toNat) else sc a 9 * 10 ^ p.toNat) (sc b 9).natAbs w) p else ((0, 0), 4) else ((0, 0), 1)

theorem ev_aRounded (a : Int × Int) (p w : Int) : Ev (fun k => amount_Rounded k a p w) (rouR a p w) := by
  unfold rouR
  refine .step (fun k => amount_Rounded_eq k a p w) (.bind (ev_CheckDecimal a) ?_)
  by_cases ha : okD a
  · rw [if_pos ha]
    refine .ff rfl (.bind (ev_wayFault p w) ?_)
    by_cases hp : 0 ≤ p ∧ p ≤ 9
    · have hc : okD a ∧ 0 ≤ p ∧ p ≤ 9 := ⟨ha, hp⟩
      rw [if_pos hp, if_pos hc]
      by_cases hw : 1 ≤ w ∧ w ≤ 6
      · rw [if_pos hw, if_pos hw]
        have e : wi64 (9 - p) = (((9 - p).toNat : Nat) : Int) := by rw [wi64_id (by omega) (by omega)]; omega
        rw [e]
        have hpw : (10 : Int) ^ (9 - p).toNat = ((10 ^ (9 - p).toNat : Nat) : Int) := (Int.natCast_pow 10 _).symm
        refine .ff rfl (.bind (ev_Value a ha) (.bind (ev_Power _ (by omega)) ?_))
        rw [hpw]
        exact .bind (ev_Divided _ _ w (Nat.le_trans (sc9_abs ha) (by decide)) (Nat.le_trans (pow10_le 9 (by omega)) (by decide)) (Nat.pow_pos (by omega))) (.ret (ev_Made _ _) rfl)
      · rw [if_neg hw, if_neg hw]
        exact .tt rfl (.pure _)
    · have hc : ¬ (okD a ∧ 0 ≤ p ∧ p ≤ 9) := fun z => hp z.2
      rw [if_neg hp, if_neg hc]
      exact .tt rfl (.pure _)
  · have hc : ¬ (okD a ∧ 0 ≤ p ∧ p ≤ 9) := fun z => ha z.1
    rw [if_neg ha, if_neg hc]
    exact .tt rfl (.pure _)

theorem sc_pos (d : Int × Int) (p : Int) : (0 < sc d p ↔ 0 < d.1) ∧ (sc d p < 0 ↔ d.1 < 0) := by
  unfold sc
  have h : (0 : Int) < 10 ^ (p - d.2).toNat := Int.pow_pos (by omega)
  constructor
  · constructor
    · intro z
      rcases Int.lt_or_le 0 d.1 with y | y
      · exact y
      · have := Int.mul_nonpos_of_nonpos_of_nonneg y (Int.le_of_lt h)
        omega
    · intro z
      exact Int.mul_pos z h
  · constructor
    · intro z
      rcases Int.lt_or_le d.1 0 with y | y
      · exact y
      · have := Int.mul_nonneg y (Int.le_of_lt h)
        omega
    · intro z
      exact Int.mul_neg_of_neg_of_pos z h

theorem top_abs {a : Int × Int} (ha : okD a) {p : Int} (hp : p ≤ 9) : (sc a 9 * 10 ^ p.toNat).natAbs ≤ 10 ^ 33 := by
  rw [Int.natAbs_mul, pow10_abs]
  exact Nat.le_trans (Nat.mul_le_mul (sc9_abs ha) (pow10_le 9 (show p.toNat ≤ 9 by omega))) (by decide)

theorem ev_aQuotient (a b : Int × Int) (p w : Int) : Ev (fun k => amount_Quotient k a b p w) (quoR a b p w) := by
  unfold quoR
  refine .step (fun k => amount_Quotient_eq k a b p w) (.bind (ev_CheckDecimals [a, b] (by simp)) ?_)
  by_cases hab : okD a ∧ okD b
  · have hc2 : ∀ d ∈ [a, b], okD d := by simpa using hab
    rw [if_pos hc2]
    refine .ff rfl (.bind (ev_wayFault p w) ?_)
    by_cases hp : 0 ≤ p ∧ p ≤ 9
    · have hc : okD a ∧ okD b ∧ 0 ≤ p ∧ p ≤ 9 := ⟨hab.1, hab.2, hp⟩
      rw [if_pos hp, if_pos hc]
      by_cases hw : 1 ≤ w ∧ w ≤ 6
      · rw [if_pos hw, if_pos hw]
        refine .ff rfl ?_
        by_cases hb0 : b.1 = 0
        · rw [if_pos hb0]
          exact .tt (by simp [hb0]) (.pure _)
        · rw [if_neg hb0]
          have htop := top_abs hab.1 hp.2
          have hsb := sc9_abs hab.2
          have hsbp := sc_pos b 9
          have h60 : (10 : Nat) ^ 33 ≤ 10 ^ 40 := by decide
          have h61 : (10 : Nat) ^ 40 ≤ 10 ^ 60 := by decide
          have h62 : (10 : Nat) ^ 24 ≤ 10 ^ 40 := by decide
          have hpe : p = ((p.toNat : Nat) : Int) := by omega
          have hsb0 : 0 < (sc b 9).natAbs := by omega
          refine .ff (by simp [hb0]) (.bind (ev_Value a hab.1) (.bind (f := fun k => whole_Power k p) (x := W (10 ^ p.toNat)) ?_ (.bind (ev_Times _ _ (.of (by have := sc9_abs hab.1; omega)) (.pow10 (by omega))) ?_)))
          · have := ev_Power p.toNat (by omega)
            rwa [← hpe] at this
          · refine .dec (fun hb => ?_) (fun hb => ?_)
            · rw [if_pos hb]
              exact .bind (ev_Minus _ (.of (by omega))) (.bind (ev_Value b hab.2) (.bind (ev_Abs _ (.of (by omega))) (.bind (ev_Divided _ _ w (by omega) (by omega) hsb0) (.ret (ev_Made _ _) rfl))))
            · rw [if_neg hb]
              exact .bind (ev_Value b hab.2) (.bind (ev_Abs _ (.of (by omega))) (.bind (ev_Divided _ _ w (by omega) (by omega) hsb0) (.ret (ev_Made _ _) rfl)))
      · rw [if_neg hw, if_neg hw]
        exact .tt rfl (.pure _)
    · have hc : ¬ (okD a ∧ okD b ∧ 0 ≤ p ∧ p ≤ 9) := fun z => hp z.2.2
      rw [if_neg hp, if_neg hc]
      exact .tt rfl (.pure _)
  · have hc : ¬ (okD a ∧ okD b ∧ 0 ≤ p ∧ p ≤ 9) := fun z => hab ⟨z.1, z.2.1⟩
    have hc2 : ¬ ∀ d ∈ [a, b], okD d := by simpa using hab
    rw [if_neg hc2, if_neg hc]
    exact .tt rfl (.pure _)

/- the reference -/
theorem ev_rRound (a : Int) (d : Nat) (w : Int) (ha : a.natAbs < 10 ^ 40) (hd : d < 10 ^ 40) (h0 : 0 < d) : Ev (fun k => interchangeref1_Round k (N a) (N d) w) (N (rnd a d w)) := by
  have h40 : (10 : Nat) ^ 40 * 4 + 4 ≤ 10 ^ 60 := by decide
  have hq : a.natAbs / d ≤ a.natAbs := Nat.div_le_self _ _
  have hr : a.natAbs % d < d := Nat.mod_lt _ h0
  have hN : (false, (N a).2) = N ((a.natAbs : Nat) : Int) := by simp [N]
  have hNs : (N a).1 = decide (a < 0) := rfl
  refine .step (fun k => interchangeref1_Round_eq k _ _ w) ?_
  rw [hN, hNs]
  have hrnd : rnd a d w = if a < 0 then -((rndN a.natAbs d (decide (a < 0)) w : Nat) : Int) else ((rndN a.natAbs d (decide (a < 0)) w : Nat) : Int) := by
    unfold rnd
    by_cases h : a < 0 <;> simp [h]
  rw [hrnd]
  unfold rndN
  refine .bind (ev_rDivMod _ _ h0 (by omega) hd) ?_
  generalize hqe : a.natAbs / d = q at *
  generalize hre : a.natAbs % d = r at *
  have fin : ∀ v : Nat, v ≤ 10 ^ 40 + 1 → Ev (fun k => cond (decide (a < 0)) ((interchangeref1_Minus k (N v)).bind fun y6 => some y6) (some (N v))) (N (if a < 0 then -(v : Int) else v)) := by
    intro v hv
    refine .dec (fun h => ?_) (fun h => ?_)
    · rw [if_pos h]
      exact .ret (ev_rMinus _) rfl
    · rw [if_neg h]
      exact .pure _
  have up : Ev (fun k => (interchangeref1_Of k 1).bind fun y4 => (interchangeref1_Plus k (N (q : Int)) y4).bind fun y5 => cond (decide (a < 0)) ((interchangeref1_Minus k y5).bind fun y6 => some y6) (some y5)) (N (if a < 0 then -((q + 1 : Nat) : Int) else ((q + 1 : Nat) : Int))) :=
    .bind (ev_rOf 1 (by omega) (by omega)) (.bind (ev_rPlus _ _ (.of (by omega)) (.of (by decide))) (fin (q + 1) (by omega)))
  have no := fin q (by omega)
  refine .bind (ev_rOf 2 (by omega) (by omega)) (.bind (ev_rTimes _ _ (.of (by omega)) (.of (by decide))) (.bind (ev_rCmp _ _ (.of (by omega)) (.of (by omega))) ?_))
  obtain ⟨s1, s2, s3, _⟩ := sign_cases ((r : Int) * 2 - (d : Int))
  have t1 : decide (0 ≤ (r : Int) * 2 - d) = decide (d ≤ 2 * r) := decide_eq_decide.2 (by omega)
  have t2 : decide (0 < (r : Int) * 2 - d) = decide (d < 2 * r) := decide_eq_decide.2 (by omega)
  have t3 : decide ((r : Int) * 2 - d = 0) = decide (2 * r = d) := decide_eq_decide.2 (by omega)
  rw [s1, s2, s3, t1, t2, t3]
  have sr : decide (((r : Nat) : Int).sign > 0) = decide (r ≠ 0) := by
    rw [(sign_cases ((r : Nat) : Int)).2.1]
    exact decide_eq_decide.2 (by omega)
  have pick : ∀ (c : Bool), c = decide (r ≠ 0 ∧ upB w (decide (a < 0)) (decide (d ≤ 2 * r)) (decide (d < 2 * r)) (decide (2 * r = d)) (decide (q % 2 = 1)) = true) →
      Ev (fun k => cond c ((interchangeref1_Of k 1).bind fun y4 => (interchangeref1_Plus k (N (q : Int)) y4).bind fun y5 => cond (decide (a < 0)) ((interchangeref1_Minus k y5).bind fun y6 => some y6) (some y5)) (cond (decide (a < 0)) ((interchangeref1_Minus k (N (q : Int))).bind fun y6 => some y6) (some (N (q : Int))))) (N (if a < 0 then -((if r ≠ 0 ∧ upB w (decide (a < 0)) (decide (d ≤ 2 * r)) (decide (d < 2 * r)) (decide (2 * r = d)) (decide (q % 2 = 1)) = true then q + 1 else q : Nat) : Int) else ((if r ≠ 0 ∧ upB w (decide (a < 0)) (decide (d ≤ 2 * r)) (decide (d < 2 * r)) (decide (2 * r = d)) (decide (q % 2 = 1)) = true then q + 1 else q : Nat) : Int))) := by
    intro c hc
    by_cases hu : r ≠ 0 ∧ upB w (decide (a < 0)) (decide (d ≤ 2 * r)) (decide (d < 2 * r)) (decide (2 * r = d)) (decide (q % 2 = 1)) = true
    · rw [if_pos hu]
      exact .tt (by rw [hc]; simpa using hu) up
    · rw [if_neg hu]
      refine .ff (by rw [hc]; simpa using hu) no
  have rge : d ≤ 2 * r → r ≠ 0 := by omega
  have rgt : d < 2 * r → r ≠ 0 := by omega
  have req : 2 * r = d → r ≠ 0 := by omega
  by_cases w1 : w = 1
  · subst w1
    refine .tt rfl (pick _ (decide_eq_decide.2 ?_))
    simp only [upB]
    simp
    omega
  refine .ff (by simp [w1]) ?_
  by_cases w2 : w = 2
  · subst w2
    have hdig := ev_digit (digs 1000000 q) 0
    rw [digs_at (b := 1000000) (by decide) 0 q] at hdig
    refine .tt rfl (.bind (x := cond ((!(decide (d < 2 * r))) && (decide (2 * r = d))) ((q / 1000000 ^ 0 % 1000000 : Nat) : Int) 0) (.cond (fun h => ?_) (fun h => ?_)) (.tt (by simp) (pick _ ?_)))
    · rw [h]
      exact hdig
    · rw [h]
      exact .pure _
    · by_cases c1 : d < 2 * r
      · have : r ≠ 0 := rgt c1
        simp [c1, upB, this]
      · by_cases c2 : 2 * r = d
        · have hr0 : r ≠ 0 := req c2
          simp only [c1, c2, upB, hr0]
          simp
          rw [Int.tmod_eq_emod_of_nonneg (by omega)]
          by_cases hm : q % 2 = 1
          · have : (q : Int) % 1000000 % 2 = 1 := by omega
            simp [hm, this, hr0]
          · have : ¬ (q : Int) % 1000000 % 2 = 1 := by omega
            have h2 : ¬ (q : Int) % 2 = 1 := by omega
            simp [hm, this, hr0, h2]
        · simp [c1, c2, upB]
  refine .ff (by simp [w2]) ?_
  by_cases w4 : w = 4
  · subst w4
    refine .tt rfl (.bind (ev_rSign _) ?_)
    rw [sr]
    refine pick _ (decide_eq_decide.2 ?_)
    simp [upB]
  refine .ff (by simp [w4]) ?_
  by_cases w5 : w = 5
  · subst w5
    refine .tt rfl (.bind (x := cond (decide (a < 0)) ((r : Nat) : Int).sign 0) (.cond (fun h => by rw [h]; exact ev_rSign _) (fun h => by rw [h]; exact .pure _)) (pick _ ?_))
    by_cases h : a < 0
    · simp only [h, decide_true, cond_true, sr]
      exact decide_eq_decide.2 (by simp [upB])
    · simp [h, upB]
  refine .ff (by simp [w5]) ?_
  by_cases w6 : w = 6
  · subst w6
    refine .tt rfl (.bind (x := cond (!decide (a < 0)) ((r : Nat) : Int).sign 0) (.cond (fun h => by rw [h]; exact ev_rSign _) (fun h => by rw [h]; exact .pure _)) (pick _ ?_))
    by_cases h : a < 0
    · simp [h, upB]
    · simp only [h, decide_false, Bool.not_false, cond_true, sr]
      exact decide_eq_decide.2 (by simp [upB])
  refine .ff (by simp [w6]) ?_
  have hf := pick false (by simp [upB, w1, w2, w4, w5, w6])
  exact hf

theorem ev_risWay (w : Int) : Ev (fun k => interchangeref1_isWay k w) (decide (1 ≤ w ∧ w ≤ 6)) :=
  .step (fun k => interchangeref1_isWay_eq k w) (.ret (ev_within w 1 6) rfl)

theorem ev_rQuotient (a b : Int × Int) (p w : Int) : Ev (fun k => interchangeref1_Quotient k a b p w) (quoR a b p w) := by
  unfold quoR
  refine .step (fun k => interchangeref1_Quotient_eq k a b p w) (.bind (ev_rCheck a) ?_)
  have bad : ∀ (x y : Int), ¬ (okD a ∧ okD b ∧ 0 ≤ p ∧ p ≤ 9) → (if okD a ∧ okD b ∧ 0 ≤ p ∧ p ≤ 9 then if 1 ≤ w ∧ w ≤ 6 then if b.1 = 0 then ((0, 0), 13) else mk (rnd (if b.1 < 0 then -(sc a 9 * 10 ^ p.toNat) else sc a 9 * 10 ^ p.toNat) (sc b 9).natAbs w) p else ((0, 0), 4) else (((0, 0), 1) : (Int × Int) × Int)) = ((0, 0), 1) := fun _ _ h => if_neg h
  by_cases ha : okD a
  · rw [if_pos ha]
    refine .bind (.tt rfl (ev_rCheck b)) ?_
    by_cases hb : okD b
    · rw [if_pos hb]
      refine .bind (.tt rfl (ev_within p 0 9)) ?_
      by_cases hp : 0 ≤ p ∧ p ≤ 9
      · have hc : okD a ∧ okD b ∧ 0 ≤ p ∧ p ≤ 9 := ⟨ha, hb, hp⟩
        rw [if_pos hc]
        refine .ff (by simp [hp]) (.bind (ev_risWay w) ?_)
        by_cases hw : 1 ≤ w ∧ w ≤ 6
        · rw [if_pos hw]
          refine .ff (by simp [hw]) ?_
          by_cases hb0 : b.1 = 0
          · rw [if_pos hb0]
            exact .tt (by simp [hb0]) (.pure _)
          · rw [if_neg hb0]
            have htop := top_abs ha hp.2
            have hsa := sc9_abs ha
            have hsb := sc9_abs hb
            have hsbp := sc_pos b 9
            have h60 : (10 : Nat) ^ 33 < 10 ^ 40 := by decide
            have h61 : (10 : Nat) ^ 40 ≤ 10 ^ 59 := by decide
            have h63 : (10 : Nat) ^ 59 + 1 ≤ 10 ^ 60 := by decide
            have h62 : (10 : Nat) ^ 24 < 10 ^ 40 := by decide
            have hpe : p = ((p.toNat : Nat) : Int) := by omega
            have hsb0 : 0 < (sc b 9).natAbs := by omega
            refine .ff (by simp [hb0]) (.bind (ev_rAt a 9 ha ha.2.2.2 (by omega)) (.bind (f := fun k => interchangeref1_Power k p) (x := N (10 ^ p.toNat)) ?_ (.bind (ev_rTimes _ _ (.of (by omega)) (.pow10 (by omega))) (.bind (ev_rAt b 9 hb hb.2.2.2 (by omega)) ?_))))
            · have := ev_rPower p.toNat (by omega)
              rwa [← hpe] at this
            · rw [N_neg]
              refine .dec (fun hneg => ?_) (fun hneg => ?_)
              · rw [if_pos (hsbp.2.1 hneg)]
                have hd : -(sc b 9) = (((sc b 9).natAbs : Nat) : Int) := by omega
                refine .bind (ev_rMinus _) (.bind (ev_rMinus _) ?_)
                rw [hd]
                refine .bind (ev_rRound _ _ w (by omega) (by omega) hsb0) (.ret (ev_rdecimal _ _ (.of ?_)) rfl)
                have := rnd_abs (-(sc a 9 * 10 ^ p.toNat)) (sc b 9).natAbs w
                omega
              · rw [if_neg (fun z => hneg (hsbp.2.2 z))]
                have hd : sc b 9 = (((sc b 9).natAbs : Nat) : Int) := by omega
                have hr := ev_rRound (sc a 9 * 10 ^ p.toNat) (sc b 9).natAbs w (by omega) (by omega) hsb0
                rw [← hd] at hr
                refine .bind hr (.ret (ev_rdecimal _ _ (.of ?_)) rfl)
                have := rnd_abs (sc a 9 * 10 ^ p.toNat) (sc b 9).natAbs w
                omega
        · rw [if_neg hw]
          exact .tt (by simp [hw]) (.pure _)
      · rw [bad 0 0 (fun z => hp z.2.2)]
        exact .tt (by simp [hp]) (.pure _)
    · rw [if_neg hb, bad 0 0 (fun z => hb z.2.1)]
      exact .bind (x := false) (.ff rfl (.pure _)) (.tt rfl (.pure _))
  · rw [if_neg ha, bad 0 0 (fun z => ha z.1)]
    exact .bind (x := 0) (.ff rfl (.pure _)) (.bind (x := false) (.ff rfl (.pure _)) (.tt rfl (.pure _)))

theorem quo_one (a : Int × Int) (p w : Int) : quoR a (1, 0) p w = rouR a p w := by
  unfold quoR rouR
  have h1 : okD (1, 0) := by unfold okD; simp
  have hs : sc (1, 0) 9 = 10 ^ 9 := by unfold sc; simp
  by_cases hc : okD a ∧ 0 ≤ p ∧ p ≤ 9
  · have hc2 : okD a ∧ okD (1, 0) ∧ 0 ≤ p ∧ p ≤ 9 := ⟨hc.1, h1, hc.2⟩
    rw [if_pos hc, if_pos hc2]
    by_cases hw : 1 ≤ w ∧ w ≤ 6
    · rw [if_pos hw, if_pos hw]
      have e1 : ((10 : Int) ^ 9).natAbs = 10 ^ (9 - p).toNat * 10 ^ p.toNat := by
        rw [pow10_abs, ← Nat.pow_add]
        congr 1
        omega
      have e2 : (10 : Int) ^ p.toNat = ((10 ^ p.toNat : Nat) : Int) := (Int.natCast_pow 10 _).symm
      rw [hs, e1, e2]
      simp only [show ¬ (1 : Int) = 0 by omega, show ¬ (1 : Int) < 0 by omega, if_false]
      rw [rnd_scale (Nat.pow_pos (by omega))]
    · rw [if_neg hw, if_neg hw]
  · have hc2 : ¬ (okD a ∧ okD (1, 0) ∧ 0 ≤ p ∧ p ≤ 9) := fun z => hc ⟨z.1, z.2.2⟩
    rw [if_neg hc, if_neg hc2]

theorem ev_rRounded (a : Int × Int) (p w : Int) : Ev (fun k => interchangeref1_Rounded k a p w) (rouR a p w) :=
  .step (fun k => interchangeref1_Rounded_eq k a p w) (.ret (ev_rQuotient a (1, 0) p w) (quo_one a p w))

/-- AmountRoundsMatchSpec. -/
theorem ev_law4 (a b : Int × Int) (p w : Int) : Ev (fun k => interchangelaw1_AmountRoundsMatchSpec k a b p w) true := by
  refine .step (fun k => interchangelaw1_AmountRoundsMatchSpec_eq k a b p w) (.bind (ev_rRounded a p w) (.bind (ev_aRounded a p w) (.ff (by simp) (.bind (ev_rQuotient a b p w) (.bind (ev_aQuotient a b p w) (.bind (.tt (by simp) ev_awake) (.to (.pure _) ?_)))))))
  simp

/-- What is known of a rounded number. -/
theorem rnd_near (s : Int) (m : Nat) (w : Int) (hm : 0 < m) : (rnd s m w * m - s).natAbs < m ∧ (w = 5 → rnd s m w * m ≤ s) ∧ (w = 6 → s ≤ rnd s m w * m) ∧ (w = 3 → (0 < s → rnd s m w * m ≤ s) ∧ (s < 0 → s ≤ rnd s m w * m)) ∧ (w = 4 → (0 < s → s ≤ rnd s m w * m) ∧ (s < 0 → rnd s m w * m ≤ s)) := by
  have h := Nat.div_add_mod s.natAbs m
  have hr := Nat.mod_lt s.natAbs hm
  unfold rnd rndN
  generalize hq : s.natAbs / m = q at *
  generalize s.natAbs % m = r at *
  have key : ∀ (b : Bool) (u : Prop) [Decidable u], ((if u then q + 1 else q : Nat) : Int) * m = (if u then ((m * q : Nat) : Int) + m else ((m * q : Nat) : Int)) := by
    intro _ u _
    split
    · push_cast
      rw [Int.add_mul, Int.one_mul, Int.mul_comm (q : Int)]
    · push_cast
      rw [Int.mul_comm]
  have kn : ∀ (u : Prop) [Decidable u], -((if u then q + 1 else q : Nat) : Int) * m = -(if u then ((m * q : Nat) : Int) + m else ((m * q : Nat) : Int)) := by
    intro u _
    rw [Int.neg_mul, key true]
  generalize m * q = mq at *
  by_cases hs : s < 0
  · simp only [hs, if_true, kn]
    by_cases hr0 : r = 0
    · simp only [hr0, ne_eq, not_true, false_and, if_false]
      refine ⟨by omega, by omega, by omega, by omega, by omega⟩
    · simp only [ne_eq, hr0, not_false_iff, true_and]
      refine ⟨?_, fun hw => ?_, fun hw => ?_, fun hw => ?_, fun hw => ?_⟩
      · split <;> omega
      · subst hw; simp [upB]; omega
      · subst hw; simp [upB]; omega
      · subst hw; simp [upB]; omega
      · subst hw; simp [upB]; omega
  · simp only [hs, if_false, key true]
    by_cases hr0 : r = 0
    · simp only [hr0, ne_eq, not_true, false_and, if_false]
      refine ⟨by omega, by omega, by omega, by omega, by omega⟩
    · simp only [ne_eq, hr0, not_false_iff, true_and]
      refine ⟨?_, fun hw => ?_, fun hw => ?_, fun hw => ?_, fun hw => ?_⟩
      · split <;> omega
      · subst hw; simp [upB]; omega
      · subst hw; simp [upB]; omega
      · subst hw; simp [upB]; omega
      · subst hw; simp [upB]; omega

theorem rnd_exact (v : Int) (m : Nat) (w : Int) (hm : 0 < m) : rnd (v * m) m w = v := by
  have h : (v * m).natAbs = v.natAbs * m := by rw [Int.natAbs_mul]; rfl
  have hs : v * m < 0 ↔ v < 0 := by
    constructor
    · intro z
      rcases Int.lt_or_le v 0 with y | y
      · exact y
      · have := Int.mul_nonneg y (show (0 : Int) ≤ m by omega)
        omega
    · intro z
      exact Int.mul_neg_of_neg_of_pos z (by omega)
  unfold rnd rndN
  rw [h, Nat.mul_mod_left, Nat.mul_div_cancel _ hm]
  simp only [ne_eq, not_true, false_and, if_false, hs]
  split <;> omega

theorem rouR_cases (a : Int × Int) (p w : Int) : (okD a ∧ 0 ≤ p ∧ p ≤ 9 ∧ 1 ≤ w ∧ w ≤ 6 ∧ (rnd (sc a 9) (10 ^ (9 - p).toNat) w).natAbs ≤ 1000000000000000 ∧ rouR a p w = ((rnd (sc a 9) (10 ^ (9 - p).toNat) w, p), 0)) ∨ ((rouR a p w).1 = (0, 0) ∧ (rouR a p w).2 ≠ 0) := by
  unfold rouR
  split
  · rename_i h1
    split
    · rename_i h2
      rcases mk_cases (rnd (sc a 9) (10 ^ (9 - p).toNat) w) p with ⟨h, hv⟩ | h
      · exact .inl ⟨h1.1, h1.2.1, h1.2.2, h2.1, h2.2, hv, h⟩
      · exact .inr (by rw [h]; simp)
    · exact .inr (by simp)
  · exact .inr (by simp)

/-- AmountRoundsAreNear. -/
theorem ev_law3 (a : Int × Int) (p w : Int) : Ev (fun k => interchangelaw1_AmountRoundsAreNear k a p w) true := by
  refine .step (fun k => interchangelaw1_AmountRoundsAreNear_eq k a p w) (.bind (ev_aRounded a p w) ?_)
  rcases rouR_cases a p w with ⟨ha, hp0, hp9, hw1, hw6, hv, h⟩ | ⟨h1, h2⟩
  · rw [h]
    obtain ⟨n1, n2, n3, n4, n5⟩ := rnd_near (sc a 9) (10 ^ (9 - p).toNat) w (Nat.pow_pos (by omega))
    generalize hve : rnd (sc a 9) (10 ^ (9 - p).toNat) w = v at *
    have okx : okD (v, p) := by unfold okD; simp only; omega
    have hpw : (10 : Int) ^ (9 - p).toNat = ((10 ^ (9 - p).toNat : Nat) : Int) := (Int.natCast_pow 10 _).symm
    have hsx : sc (v, p) 9 = v * ((10 ^ (9 - p).toNat : Nat) : Int) := by unfold sc; rw [← hpw]
    have hr2 : rouR (v, p) p w = ((v, p), 0) := by
      unfold rouR
      have hc : okD (v, p) ∧ 0 ≤ p ∧ p ≤ 9 := ⟨okx, hp0, hp9⟩
      rw [if_pos hc, if_pos ⟨hw1, hw6⟩, hsx, rnd_exact _ _ _ (Nat.pow_pos (by omega))]
      unfold mk
      rw [if_pos hv]
    refine .ff rfl (.bind (ev_aRounded (v, p) p w) ?_)
    rw [hr2]
    refine .bind (.tt (by simp) ev_awake) (.ff (by simp) (.bind (ev_acompare _ _ okx ha) ?_))
    have hsa := sc_pos a 9
    have hm9 : (10 : Nat) ^ (9 - p).toNat ≤ 10 ^ 9 := pow10_le 9 (by omega)
    rw [hsx]
    generalize hme : (10 : Nat) ^ (9 - p).toNat = m at *
    have hd := sign_cases (v * (m : Int) - sc a 9)
    have hgt : decide ((v * (m : Int) - sc a 9).sign > 0) = decide (sc a 9 < v * m) := by rw [hd.2.1]; exact decide_eq_decide.2 (by omega)
    have hlt : decide ((v * (m : Int) - sc a 9).sign < 0) = decide (v * m < sc a 9) := by rw [hd.2.2.2]; exact decide_eq_decide.2 (by omega)
    simp only [hgt, hlt]
    have h60 : (10 : Nat) ^ 24 * 2 + 10 ^ 9 ≤ 10 ^ 60 := by decide
    have h35 : (10 : Nat) ^ 24 ≤ 10 ^ 60 := by decide
    have hsab := sc9_abs ha
    have hsxb := sc9_abs okx
    rw [hsx] at hsxb
    refine .ff ?_ (.ff ?_ (.bind (ev_rAt _ 9 okx hp9 (by omega)) (.bind (ev_rAt _ 9 ha ha.2.2.2 (by omega)) (.bind (ev_rMinus _) ?_))))
    · have c5 : ¬ (w = 5 ∧ sc a 9 < v * (m : Int)) := fun z => by have := n2 z.1; omega
      have c6 : ¬ (w = 6 ∧ v * (m : Int) < sc a 9) := fun z => by have := n3 z.1; omega
      by_cases h5 : w = 5
      · have : ¬ sc a 9 < v * (m : Int) := fun z => c5 ⟨h5, z⟩
        subst h5
        simp [this]
      · by_cases h6 : w = 6
        · have : ¬ v * (m : Int) < sc a 9 := fun z => c6 ⟨h6, z⟩
          subst h6
          simp [this]
        · simp [h5, h6]
    · by_cases h3 : w = 3
      · have n := n4 h3
        subst h3
        by_cases g1 : 0 < a.1
        · have := n.1 (hsa.1.2 g1)
          have g2 : ¬ a.1 < 0 := by omega
          simp [g1, g2]
          omega
        · by_cases g2 : a.1 < 0
          · have := n.2 (hsa.2.2 g2)
            simp [g1, g2]
            omega
          · simp [g1, g2]
      · by_cases h4 : w = 4
        · have n := n5 h4
          subst h4
          by_cases g1 : 0 < a.1
          · have := n.1 (hsa.1.2 g1)
            have g2 : ¬ a.1 < 0 := by omega
            simp [g1, g2]
            omega
          · by_cases g2 : a.1 < 0
            · have := n.2 (hsa.2.2 g2)
              simp [g1, g2]
              omega
            · simp [g1, g2]
        · simp [h3, h4]
    · rw [hsx]
      refine .bind (ev_rPlus _ _ (.of (by omega)) (.of (by omega))) ?_
      have hN : ∀ x : Int, (false, (N x).2) = N ((x.natAbs : Nat) : Int) := fun x => by simp [N]
      have e9 : wi64 (9 - p) = (((9 - p).toNat : Nat) : Int) := by rw [wi64_id (by omega) (by omega)]; omega
      rw [e9]
      refine .bind (ev_rPower _ (by omega)) ?_
      rw [hpw]
      simp only [hN]
      refine .bind (ev_rCmp _ _ (.of ?_) (.of ?_)) (.to (.pure _) ?_)
      · omega
      · omega
      · rw [(sign_cases _).2.2.2]
        simp only [decide_eq_true_eq]
        have e : v * (m : Int) + -sc a 9 = v * m - sc a 9 := by omega
        rw [e]
        omega
  · refine .tt (by simpa using h2) ?_
    rw [h1]
    exact .bind (.tt rfl ev_awake) (.pure _)
end Go.Proofs.Ytoiahmmockgcbaa.Eq
