import Derived.Test.YtoiahmmockgcbaaRaRefB
import Derived.Test.YtoiahmmockgcbaaRaAmount
/- The reference's decimals. -/
namespace Go.Proofs.Ytoiahmmockgcbaa.Eq
open Go Go.Ra
set_option linter.unusedVariables false

theorem ev_within (a b c : Int) : Ev (fun k => interchangeref1_within k a b c) (decide (b ≤ a ∧ a ≤ c)) := by
  refine .step (fun k => interchangeref1_within_eq k a b c) (.to (.pure _) ?_)
  by_cases h : b ≤ a <;> simp [h]

theorem ev_rCheck (d : Int × Int) : Ev (fun k => interchangeref1_CheckDecimal k d) (if okD d then 0 else 1) := by
  refine .step (fun k => interchangeref1_CheckDecimal_eq k d) (.bind (ev_within _ _ _) ?_)
  by_cases h : -1000000000000000 ≤ d.1 ∧ d.1 ≤ 1000000000000000
  · refine .bind (.tt (by simp [h]) (ev_within _ _ _)) ?_
    by_cases h2 : 0 ≤ d.2 ∧ d.2 ≤ 9
    · refine .ff (by simp [h, h2]) (.to (.pure _) ?_)
      rw [if_pos]
      unfold okD
      omega
    · refine .tt (by simp [h, h2]) (.to (.pure _) ?_)
      rw [if_neg]
      intro z
      unfold okD at z
      omega
  · refine .bind (x := false) (.ff (by simp [h]) (.pure _)) (.tt (by simp [h]) (.to (.pure _) ?_))
    rw [if_neg]
    intro z
    unfold okD at z
    omega

theorem Sr.pow10 {n : Nat} (h : n ≤ 60) : Sr (10 ^ n) := .of (by rw [pow10_abs]; exact pow10_le 60 h)

theorem ev_rAt (d : Int × Int) (p : Int) (h : okD d) (hp : d.2 ≤ p) (hp2 : p ≤ 20) : Ev (fun k => interchangeref1_At k d p) (N (sc d p)) := by
  have h' := h
  unfold okD at h'
  have e : wi64 (p - d.2) = (((p - d.2).toNat : Nat) : Int) := by rw [wi64_id (by omega) (by omega)]; omega
  refine .step (fun k => interchangeref1_At_eq k d p) (.bind (ev_rOf d.1 (by omega) (by omega)) ?_)
  rw [e]
  exact .bind (ev_rPower _ (by omega)) (.ret (ev_rTimes d.1 _ (.of (Nat.le_trans (show d.1.natAbs ≤ 10 ^ 15 by omega) (by decide))) (.pow10 (by omega))) rfl)

theorem ev_rdecimal (v p : Int) (hv : Sr v) : Ev (fun k => interchangeref1_decimal k (N v) p) (mk v p) := by
  refine .step (fun k => interchangeref1_decimal_eq k _ p) (.bind (ev_rSmall v 1000000000000000 hv (by omega) (by omega)) ?_)
  unfold mk
  by_cases h : v.natAbs ≤ 1000000000000000
  · rw [if_pos h, if_pos (by omega)]
    exact .ff rfl (.pure _)
  · rw [if_neg h, if_neg (by omega)]
    exact .tt rfl (.pure _)

/-- How two decimals stand to each other. -/
def cmpR (a b : Int × Int) : Int × Int := if okD a ∧ okD b then ((sc a 9 - sc b 9).sign, 0) else (0, 1)

theorem ev_rCompare (a b : Int × Int) : Ev (fun k => interchangeref1_Compare k a b) (cmpR a b) := by
  unfold cmpR
  refine .step (fun k => interchangeref1_Compare_eq k a b) (.bind (ev_rCheck a) ?_)
  by_cases ha : okD a
  · rw [if_pos ha]
    refine .bind (.tt rfl (ev_rCheck b)) ?_
    by_cases hb : okD b
    · rw [if_pos hb, if_pos ⟨ha, hb⟩]
      refine .ff rfl (.bind (ev_rAt a 9 ha ha.2.2.2 (by omega)) (.bind (ev_rAt b 9 hb hb.2.2.2 (by omega)) (.bind (ev_rCmp _ _ (.of ?_) (.of ?_)) (.pure _))))
      · exact Nat.le_trans (sc_abs ha (by omega)) (by decide)
      · exact Nat.le_trans (sc_abs hb (by omega)) (by decide)
    · rw [if_neg hb, if_neg (fun z => hb z.2)]
      exact .tt rfl (.pure _)
  · rw [if_neg ha, if_neg (fun z => ha z.1)]
    exact .bind (x := 0) (.ff rfl (.pure _)) (.tt rfl (.pure _))

theorem ev_aCompare (a b : Int × Int) : Ev (fun k => amount_Compare k a b) (cmpR a b) := by
  unfold cmpR
  by_cases h : okD a ∧ okD b
  · rw [if_pos h]
    exact ev_acompare a b h.1 h.2
  · rw [if_neg h]
    refine .step (fun k => amount_Compare_eq k a b) (.bind (ev_CheckDecimals [a, b] (by simp)) ?_)
    rw [if_neg (by simpa using h)]
    exact .tt rfl (.pure _)

theorem ev_rSum_c13 (s2 : Int × Int) (l : List (Int × Int)) (p : Int) (hl : l.length ≤ 1000) (hok : ∀ d ∈ l, okD d) (hp : ∀ d ∈ l, d.2 ≤ p) (hp2 : p ≤ 20) : ∀ (m i : Nat), l.length - i = m → i ≤ l.length →
    Ev (fun k => interchangeref1_Sum_c13 k s2 p (N (sumV p (l.take i))) l (l.length : Int) (i : Int)) (mk (sumV p l) p) := by
  have habs : ∀ i, (sumV p (l.take i)).natAbs ≤ 1000 * 10 ^ 35 := by
    intro i
    have := sumV_abs hp2 (l := l.take i) fun d hd => hok d (List.mem_of_mem_take hd)
    have h3 : (l.take i).length ≤ 1000 := by rw [List.length_take]; omega
    exact Nat.le_trans this (Nat.mul_le_mul_right (10 ^ 35) h3)
  have h60 : 1000 * 10 ^ 35 ≤ 10 ^ 60 := by decide
  intro m
  induction m with
  | zero =>
    intro i hm hi
    have := habs i
    rw [List.take_of_length_le (by omega)] at this ⊢
    exact .step (fun k => interchangeref1_Sum_c13_eq k _ _ _ _ _ _) (.nk (by omega) (.ret (ev_rdecimal _ _ (.of (by omega))) rfl))
  | succ m ih =>
    intro i hm hi
    have hlt : i < l.length := by omega
    have hmem : l.getD i (0, 0) ∈ l := by
      rw [List.getD_eq_getElem?_getD, List.getElem?_eq_getElem hlt]
      exact List.getElem_mem hlt
    refine .step (fun k => interchangeref1_Sum_c13_eq k _ _ _ _ _ _) (.ck (by omega) (.ck (by omega) (.ck (by omega) ?_)))
    rw [Int.toNat_natCast, getD_eta, wi_succ hlt (by omega)]
    refine .bind (ev_rAt _ p (hok _ hmem) (hp _ hmem) hp2) (.bind (ev_rPlus _ _ (.of ?_) (.of (Nat.le_trans (sc_abs (hok _ hmem) hp2) (by decide)))) ?_)
    · have := habs i
      omega
    · have : sumV p (l.take i) + sc (l.getD i (0, 0)) p = sumV p (l.take (i + 1)) := by
        rw [List.take_add_one, List.getElem?_eq_getElem hlt, sumV_append, List.getD_eq_getElem?_getD, List.getElem?_eq_getElem hlt]
        simp [sumV]
      rw [this]
      exact ih (i + 1) (by omega) (by omega)

theorem ev_rSum_c5 (s2 : Int × Int) (l : List (Int × Int)) (hl : l.length ≤ 1000) {r : (Int × Int) × Int} (hr : (∀ d ∈ l, okD d) → Ev (fun k => interchangeref1_Sum_c13 k s2 (pl l) (false, []) l (l.length : Int) 0) r) (hr2 : ¬ (∀ d ∈ l, okD d) → r = ((0, 0), 1)) : ∀ (m i : Nat) (q : Int), l.length - i = m → i ≤ l.length → 0 ≤ q → max q (pl (l.drop i)) = pl l → (∀ d ∈ l.take i, okD d) →
    Ev (fun k => interchangeref1_Sum_c5 k l s2 q l (l.length : Int) (i : Int)) r := by
  intro m
  induction m with
  | zero =>
    intro i q hm hi h hq hok
    rw [List.drop_of_length_le (by omega)] at hq
    rw [List.take_of_length_le (by omega)] at hok
    have : q = pl l := by simp only [pl] at hq; omega
    rw [this]
    exact .step (fun k => interchangeref1_Sum_c5_eq k _ _ _ _ _ _) (.nk (by omega) (hr hok))
  | succ m ih =>
    intro i q hm hi h hq hok
    have hlt : i < l.length := by omega
    refine .step (fun k => interchangeref1_Sum_c5_eq k _ _ _ _ _ _) (.ck (by omega) (.ck (by omega) (.ck (by omega) ?_)))
    rw [Int.toNat_natCast, wi_succ hlt (by omega), maxI_eq, getD_eta]
    refine .bind (ev_rCheck _) ?_
    by_cases hd : okD (l.getD i (0, 0))
    · rw [if_pos hd]
      refine .ff rfl (ih (i + 1) _ (by omega) (by omega) (by omega) ?_ ?_)
      · rw [dropp_cons (d := (0, 0)) hlt] at hq
        simp only [pl] at hq
        omega
      · intro d hdm
        rw [List.take_add_one, List.mem_append] at hdm
        rcases hdm with z | z
        · exact hok d z
        · rw [List.getElem?_eq_getElem hlt] at z
          simp at z
          rw [z]
          rw [List.getD_eq_getElem?_getD, List.getElem?_eq_getElem hlt] at hd
          exact hd
    · rw [if_neg hd]
      refine .tt rfl (.to (.pure _) (hr2 fun z => hd (z _ ?_)).symm)
      rw [List.getD_eq_getElem?_getD, List.getElem?_eq_getElem hlt]
      exact List.getElem_mem hlt

theorem ev_rSum (l : List (Int × Int)) : Ev (fun k => interchangeref1_Sum k l) (sumR l) := by
  unfold sumR
  refine .step (fun k => interchangeref1_Sum_eq k l) (.dec (fun h => ?_) (fun h => ?_))
  · rw [if_pos (by omega)]
    exact .pure _
  · rw [if_neg (by omega)]
    refine ev_rSum_c5 (0, 0) l (by omega) (fun hok => ?_) (fun hok => by rw [if_neg hok]) _ 0 0 rfl (by omega) (by omega) ?_ (by simp)
    · rw [if_pos hok]
      have := ev_rSum_c13 (0, 0) l (pl l) (by omega) hok (fun d hd => pl_mem hd) (by have := pl_le hok; omega) _ 0 rfl (by omega)
      exact this
    · have := pl_nonneg l
      simp only [List.drop_zero]
      omega
end Go.Proofs.Ytoiahmmockgcbaa.Eq
