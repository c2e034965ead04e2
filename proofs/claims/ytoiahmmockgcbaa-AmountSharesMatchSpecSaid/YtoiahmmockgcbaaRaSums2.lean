import Derived.Test.YtoiahmmockgcbaaRaRefC
import Derived.Test.YtoiahmmockgcbaaRaWholeB
import Derived.Test.YtoiahmmockgcbaaRaAwake
/- CheckDecimal, Compare, Sum and Times are as specified: the law over what its functions compute. -/
namespace Go.Proofs.Ytoiahmmockgcbaa.Eq
open Go Go.Ra
set_option linter.unusedVariables false

/-- A product. -/
def timesR (a b : Int × Int) : (Int × Int) × Int :=
  if okD a ∧ okD b then
    if a.2 + b.2 > 9 then
      if (a.1 * b.1).natAbs % 10 ^ (a.2 + b.2 - 9).toNat = 0 then mk (if a.1 * b.1 < 0 then -(((a.1 * b.1).natAbs / 10 ^ (a.2 + b.2 - 9).toNat : Nat) : Int) else (((a.1 * b.1).natAbs / 10 ^ (a.2 + b.2 - 9).toNat : Nat) : Int)) 9
      else ((0, 0), 1)
    else mk (a.1 * b.1) (a.2 + b.2)
  else ((0, 0), 1)

theorem prod_abs {a b : Int × Int} (ha : okD a) (hb : okD b) : (a.1 * b.1).natAbs ≤ 10 ^ 30 := by
  unfold okD at ha hb
  rw [Int.natAbs_mul]
  exact Nat.le_trans (Nat.mul_le_mul (show a.1.natAbs ≤ 10 ^ 15 by omega) (show b.1.natAbs ≤ 10 ^ 15 by omega)) (by decide)

theorem sign_ne (a : Int) : (a.sign != 0) = decide (a ≠ 0) := by
  rcases Int.lt_trichotomy a 0 with h | h | h
  · rw [Int.sign_eq_neg_one_of_neg h]
    have : a ≠ 0 := by omega
    simp [this]
  · subst h; simp
  · rw [Int.sign_eq_one_of_pos h]
    have : a ≠ 0 := by omega
    simp [this]

theorem ev_aTimes (a b : Int × Int) : Ev (fun k => amount_Times k a b) (timesR a b) := by
  unfold timesR
  refine .step (fun k => amount_Times_eq k a b) (.bind (ev_CheckDecimals [a, b] (by simp)) ?_)
  by_cases h : okD a ∧ okD b
  · rw [if_pos h, if_pos (by simpa using h)]
    have ha := h.1
    have hb := h.2
    unfold okD at ha hb
    have hp := prod_abs h.1 h.2
    have e1 : wi64 (a.2 + b.2) = a.2 + b.2 := wi64_id (by omega) (by omega)
    rw [e1]
    refine .ff rfl (.bind (ev_Of a.1 (by omega) (by omega)) (.bind (ev_Of b.1 (by omega) (by omega)) (.bind (ev_Times _ _ (.of (Nat.le_trans (show a.1.natAbs ≤ 10 ^ 15 by omega) (by decide))) (.of (Nat.le_trans (show b.1.natAbs ≤ 10 ^ 15 by omega) (by decide)))) ?_)))
    refine .dec (fun h9 => ?_) (fun h9 => ?_)
    · rw [if_pos h9]
      have e2 : wi64 (a.2 + b.2 - 9) = (((a.2 + b.2 - 9).toNat : Nat) : Int) := by rw [wi64_id (by omega) (by omega)]; omega
      rw [e2]
      have hpos : (10 : Int) ^ (a.2 + b.2 - 9).toNat ≠ 0 := by
        have : (0 : Int) < 10 ^ (a.2 + b.2 - 9).toNat := Int.pow_pos (by omega)
        omega
      refine .bind (ev_Power _ (by omega)) (.bind (ev_By _ _ (.of (Nat.le_trans hp (by decide))) (.pow10 (by omega)) hpos) ?_)
      rw [pow10_abs]
      generalize hq : (a.1 * b.1).natAbs / 10 ^ (a.2 + b.2 - 9).toNat = q
      generalize hr : (a.1 * b.1).natAbs % 10 ^ (a.2 + b.2 - 9).toNat = r
      have hqs : q ≤ 10 ^ 30 := by rw [← hq]; exact Nat.le_trans (Nat.div_le_self _ _) hp
      have h30 : (10 : Nat) ^ 30 ≤ 10 ^ 60 := by decide
      refine .bind (ev_Sign _) ?_
      rw [sign_ne]
      by_cases hz : r = 0
      · rw [if_pos hz]
        refine .nk (by omega) (.bind (ev_Sign _) ?_)
        by_cases hn : a.1 * b.1 < 0
        · rw [if_pos hn]
          exact .ck (by rw [Int.sign_eq_neg_one_of_neg hn]; omega) (.bind (ev_Minus _ (.of (by omega))) (.ret (ev_Made _ _) rfl))
        · rw [if_neg hn]
          refine .nk ?_ (.ret (ev_Made _ _) rfl)
          have := (sign_nonneg_iff (a.1 * b.1)).2
          omega
      · rw [if_neg hz]
        exact .ck (by omega) (.pure _)
    · rw [if_neg h9]
      exact .ret (ev_Made _ _) rfl
  · rw [if_neg h, if_neg (by simpa using h)]
    exact .tt rfl (.pure _)

theorem ev_rTimesD (a b : Int × Int) : Ev (fun k => interchangeref1_Times k a b) (timesR a b) := by
  unfold timesR
  refine .step (fun k => interchangeref1_Times_eq k a b) (.bind (ev_rCheck a) ?_)
  by_cases ha0 : okD a
  · rw [if_pos ha0]
    refine .bind (.tt rfl (ev_rCheck b)) ?_
    by_cases hb0 : okD b
    · rw [if_pos hb0, if_pos ⟨ha0, hb0⟩]
      have ha := ha0
      have hb := hb0
      unfold okD at ha hb
      have hp := prod_abs ha0 hb0
      have h30 : (10 : Nat) ^ 30 ≤ 10 ^ 60 := by decide
      have h30' : (10 : Nat) ^ 30 < 10 ^ 40 := by decide
      have e1 : wi64 (a.2 + b.2) = a.2 + b.2 := wi64_id (by omega) (by omega)
      rw [e1]
      refine .ff rfl (.bind (ev_rOf a.1 (by omega) (by omega)) (.bind (ev_rOf b.1 (by omega) (by omega)) (.bind (ev_rTimes _ _ (.of (Nat.le_trans (show a.1.natAbs ≤ 10 ^ 15 by omega) (by decide))) (.of (Nat.le_trans (show b.1.natAbs ≤ 10 ^ 15 by omega) (by decide)))) ?_)))
      refine .dec (fun h9 => ?_) (fun h9 => ?_)
      · rw [if_pos h9]
        have e2 : wi64 (a.2 + b.2 - 9) = (((a.2 + b.2 - 9).toNat : Nat) : Int) := by rw [wi64_id (by omega) (by omega)]; omega
        rw [e2]
        have hN : (false, (N (a.1 * b.1)).2) = N (((a.1 * b.1).natAbs : Nat) : Int) := by simp [N]
        rw [hN]
        have hpw : (10 : Int) ^ (a.2 + b.2 - 9).toNat = ((10 ^ (a.2 + b.2 - 9).toNat : Nat) : Int) := (Int.natCast_pow 10 _).symm
        refine .bind (ev_rPower _ (by omega)) ?_
        rw [hpw]
        refine .bind (ev_rDivMod _ _ (Nat.pow_pos (by omega)) (by omega) (Nat.lt_of_le_of_lt (pow10_le 20 (by omega)) (by decide))) ?_
        generalize hq : (a.1 * b.1).natAbs / 10 ^ (a.2 + b.2 - 9).toNat = q
        generalize hr : (a.1 * b.1).natAbs % 10 ^ (a.2 + b.2 - 9).toNat = r
        have hqs : q ≤ 10 ^ 30 := by rw [← hq]; exact Nat.le_trans (Nat.div_le_self _ _) hp
        refine .bind (ev_rSign _) ?_
        rw [sign_ne]
        by_cases hz : r = 0
        · rw [if_pos hz]
          refine .nk (by omega) ?_
          by_cases hn : a.1 * b.1 < 0
          · rw [if_pos hn]
            exact .tt (by simp [N, hn]) (.bind (ev_rMinus _) (.ret (ev_rdecimal _ _ (.of (by omega))) rfl))
          · rw [if_neg hn]
            exact .ff (by simpa [N] using hn) (.ret (ev_rdecimal _ _ (.of (by omega))) rfl)
        · rw [if_neg hz]
          exact .ck (by omega) (.pure _)
      · rw [if_neg h9]
        exact .ret (ev_rdecimal _ _ (.of (by omega))) rfl
    · rw [if_neg hb0, if_neg (fun z => hb0 z.2)]
      exact .tt rfl (.pure _)
  · rw [if_neg ha0, if_neg (fun z => ha0 z.1)]
    exact .bind (x := 0) (.ff rfl (.pure _)) (.tt rfl (.pure _))

theorem ev_law2 (a b : Int × Int) (l : List (Int × Int)) : Ev (fun k => interchangelaw1_AmountSumsMatchSpec k a b l) true := by
  refine .step (fun k => interchangelaw1_AmountSumsMatchSpec_eq k a b l) (.bind (ev_rCompare a b) (.bind (ev_aCompare a b) (.bind (ev_rCheck a) (.bind (ev_CheckDecimal a) (.ff (by simp) (.bind (ev_rSum l) (.bind (ev_Sum l) (.ff (by simp) (.bind (ev_rTimesD a b) (.bind (ev_aTimes a b) (.bind (.tt (by simp) ev_awake) (.to (.pure _) ?_))))))))))))
  simp
end Go.Proofs.Ytoiahmmockgcbaa.Eq
