import Derived.Test.YtoiahmmockgcbaaRaWhole
/- Decimals: what the functions of package amount compute. -/
namespace Go.Proofs.Ytoiahmmockgcbaa.Eq
open Go Go.Ra
set_option linter.unusedVariables false

/-- A right decimal. -/
def okD (d : Int × Int) : Prop := -1000000000000000 ≤ d.1 ∧ d.1 ≤ 1000000000000000 ∧ 0 ≤ d.2 ∧ d.2 ≤ 9
instance (d : Int × Int) : Decidable (okD d) := by unfold okD; infer_instance

theorem ev_Outside (a b c : Int) : Ev (fun k => kit_Outside k a b c) (decide (a < b ∨ a > c)) := by
  refine .step (fun k => kit_Outside_eq k a b c) (.to (.pure _) ?_)
  by_cases h : a < b <;> simp [h]

theorem ev_CheckDecimal (d : Int × Int) : Ev (fun k => amount_CheckDecimal k d) (if okD d then 0 else 1) := by
  refine .step (fun k => amount_CheckDecimal_eq k d) (.bind (ev_Outside _ _ _) ?_)
  by_cases h : d.1 < -1000000000000000 ∨ d.1 > 1000000000000000
  · refine .bind (x := false) (.ff (by simp [h]) (.pure _)) (.tt (by simp [h]) (.to (.pure _) ?_))
    rw [if_neg]
    intro z
    unfold okD at z
    omega
  · refine .bind (.tt (by simp [h]) (ev_Outside _ _ _)) ?_
    by_cases h2 : d.2 < 0 ∨ d.2 > 9
    · refine .tt (by simp [h, h2]) (.to (.pure _) ?_)
      rw [if_neg]
      intro z
      unfold okD at z
      omega
    · refine .ff (by simp [h, h2]) (.to (.pure _) ?_)
      rw [if_pos]
      unfold okD
      omega

theorem getD_eta (l : List (Int × Int)) (i : Nat) : ((l.getD i (0, 0)).1, (l.getD i (0, 0)).2) = l.getD i (0, 0) := rfl

theorem dropp_cons {α : Type} {l : List α} {i : Nat} {d : α} (h : i < l.length) : l.drop i = l.getD i d :: l.drop (i + 1) := by
  rw [List.drop_eq_getElem_cons h, List.getD_eq_getElem?_getD, List.getElem?_eq_getElem h]
  rfl

theorem wi_succ {i n : Nat} (h : i < n) (hn : n < 1125899906842624) : wi64 ((i : Int) + 1) = ((i + 1 : Nat) : Int) := by
  rw [wi64_id (by omega) (by omega)]
  rfl

theorem ev_CheckDecimals (l : List (Int × Int)) (hn : l.length < 1125899906842624) : Ev (fun k => amount_CheckDecimals k l) (if ∀ d ∈ l, okD d then 0 else 1) := by
  have key : ∀ (m i : Nat), l.length - i = m → i ≤ l.length → Ev (fun k => amount_CheckDecimals_c2 k l (l.length : Int) (i : Int)) (if ∀ d ∈ l.drop i, okD d then 0 else 1) := by
    intro m
    induction m with
    | zero =>
      intro i hm hi
      refine .step (fun k => amount_CheckDecimals_c2_eq k _ _ _) (.nk (by omega) (.to (.pure _) ?_))
      rw [List.drop_of_length_le (by omega)]
      simp
    | succ m ih =>
      intro i hm hi
      refine .step (fun k => amount_CheckDecimals_c2_eq k _ _ _) (.ck (by omega) (.ck (by omega) (.ck (by omega) ?_)))
      rw [Int.toNat_natCast, getD_eta, dropp_cons (d := (0, 0)) (show i < l.length by omega)]
      refine .bind (ev_CheckDecimal _) ?_
      by_cases h : okD (l.getD i (0, 0))
      · rw [if_pos h, wi_succ (show i < l.length by omega) hn]
        refine .ff (by simp) (.to (ih (i + 1) (by omega) (by omega)) ?_)
        simp only [List.forall_mem_cons, h, true_and]
      · rw [if_neg h]
        refine .tt (by simp) (.to (.pure _) ?_)
        simp only [List.forall_mem_cons, h, false_and, if_false]
  exact .step (fun k => amount_CheckDecimals_eq k l) (key _ 0 rfl (by omega))

/-- A decimal's units at more places. -/
def sc (d : Int × Int) (p : Int) : Int := d.1 * 10 ^ (p - d.2).toNat

theorem pow10_abs (n : Nat) : ((10 : Int) ^ n).natAbs = 10 ^ n := by rw [Int.natAbs_pow]; rfl
theorem pow10_le {n : Nat} (m : Nat) (h : n ≤ m) : (10 : Nat) ^ n ≤ 10 ^ m := Nat.pow_le_pow_right (by omega) h
theorem Sm.pow10 {n : Nat} (h : n ≤ 60) : Sm (10 ^ n) := .of (by rw [pow10_abs]; exact pow10_le 60 h)
theorem Sm.mul10 {x : Int} {n m : Nat} (h : x.natAbs ≤ 10 ^ m) (hm : m + n ≤ 60) : Sm (x * 10 ^ n) := .of (by
  rw [Int.natAbs_mul, pow10_abs]
  refine Nat.le_trans (Nat.mul_le_mul_right _ h) ?_
  rw [← Nat.pow_add]
  exact pow10_le 60 hm)

theorem sc_abs {d : Int × Int} {p : Int} (h : okD d) (hp : p ≤ 20) : (sc d p).natAbs ≤ 10 ^ 35 := by
  unfold sc
  unfold okD at h
  rw [Int.natAbs_mul, pow10_abs]
  have h1 : d.1.natAbs ≤ 10 ^ 15 := by omega
  have h2 : (10 : Nat) ^ (p - d.2).toNat ≤ 10 ^ 20 := pow10_le 20 (by omega)
  exact Nat.le_trans (Nat.mul_le_mul h1 h2) (by decide)

theorem ev_Scaled (d : Int × Int) (p : Int) (h : okD d) (hp : d.2 ≤ p) (hp2 : p ≤ 20) : Ev (fun k => amount_Scaled k d p) (W (sc d p)) := by
  have h' := h
  unfold okD at h'
  have e : wi64 (p - d.2) = (((p - d.2).toNat : Nat) : Int) := by rw [wi64_id (by omega) (by omega)]; omega
  refine .step (fun k => amount_Scaled_eq k d p) (.bind (ev_Of d.1 (by omega) (by omega)) ?_)
  rw [e]
  exact .bind (ev_Power _ (by omega)) (.ret (ev_Times d.1 _ (.of (Nat.le_trans (show d.1.natAbs ≤ 10 ^ 15 by omega) (by decide))) (.pow10 (by omega))) rfl)

theorem ev_Value (d : Int × Int) (h : okD d) : Ev (fun k => amount_Value k d) (W (sc d 9)) :=
  .step (fun k => amount_Value_eq k d) (.ret (ev_Scaled d 9 h h.2.2.2 (by omega)) rfl)

/-- What becomes of a number of units. -/
def mk (v p : Int) : (Int × Int) × Int := if v.natAbs ≤ 1000000000000000 then ((v, p), 0) else ((0, 0), 1)
theorem ev_Made (v p : Int) : Ev (fun k => amount_Made k (W v) p) (mk v p) := by
  refine .step (fun k => amount_Made_eq k _ p) (.bind (ev_Int v 1000000000000000 (by omega) (by omega)) ?_)
  unfold mk
  by_cases h : v.natAbs ≤ 1000000000000000
  · rw [if_pos h, if_pos (by omega)]
    exact .ff rfl (.pure _)
  · rw [if_neg h, if_neg (by omega)]
    exact .tt rfl (.pure _)

/-- The most places. -/
def pl : List (Int × Int) → Int
  | [] => 0
  | d :: l => max d.2 (pl l)
def sumV (p : Int) : List (Int × Int) → Int
  | [] => 0
  | d :: l => sc d p + sumV p l
theorem pl_nonneg : ∀ l, 0 ≤ pl l
  | [] => Int.le_refl _
  | d :: l => by have := pl_nonneg l; simp only [pl]; omega
theorem pl_le : ∀ {l}, (∀ d ∈ l, okD d) → pl l ≤ 9
  | [], _ => by simp [pl]
  | d :: l, h => by
    have h1 := (h d (by simp)).2.2.2
    have h2 := pl_le (l := l) fun x hx => h x (by simp [hx])
    simp only [pl]
    omega
theorem pl_mem : ∀ {l} {d : Int × Int}, d ∈ l → d.2 ≤ pl l
  | x :: l, d, h => by
    simp only [pl]
    rcases List.mem_cons.1 h with rfl | h
    · omega
    · have := pl_mem h
      omega
theorem pl_append : ∀ a b, pl (a ++ b) = max (pl a) (pl b)
  | [], b => by have := pl_nonneg b; simp [pl]; omega
  | d :: a, b => by simp only [List.cons_append, pl, pl_append a b]; omega
theorem sumV_append (p : Int) : ∀ a b, sumV p (a ++ b) = sumV p a + sumV p b
  | [], b => by simp [sumV]
  | d :: a, b => by simp only [List.cons_append, sumV, sumV_append p a b]; omega
theorem pl_reverse : ∀ l, pl l.reverse = pl l
  | [] => rfl
  | d :: l => by
    have := pl_nonneg l
    rw [List.reverse_cons, pl_append, pl_reverse l]
    simp only [pl]
    omega
theorem sumV_reverse (p : Int) : ∀ l, sumV p l.reverse = sumV p l
  | [] => rfl
  | d :: l => by
    rw [List.reverse_cons, sumV_append, sumV_reverse p l]
    simp only [sumV]
    omega
theorem sc_scale {d : Int × Int} {q p : Int} (h1 : d.2 ≤ q) (h2 : q ≤ p) : sc d q * 10 ^ (p - q).toNat = sc d p := by
  unfold sc
  rw [Int.mul_assoc, ← Int.pow_add]
  congr 2
  omega
theorem sumV_scale {q p : Int} (h2 : q ≤ p) : ∀ {l}, (∀ d ∈ l, d.2 ≤ q) → sumV q l * 10 ^ (p - q).toNat = sumV p l
  | [], _ => by simp [sumV]
  | d :: l, h => by
    simp only [sumV, Int.add_mul]
    rw [sumV_scale h2 (l := l) fun x hx => h x (by simp [hx]), sc_scale (h d (by simp)) h2]
theorem sumV_abs {p : Int} (hp : p ≤ 20) : ∀ {l}, (∀ d ∈ l, okD d) → (sumV p l).natAbs ≤ l.length * 10 ^ 35
  | [], _ => by simp [sumV]
  | d :: l, h => by
    have h1 := sc_abs (h d (by simp)) hp
    have h2 := sumV_abs hp (l := l) fun x hx => h x (by simp [hx])
    simp only [sumV, List.length_cons]
    omega

/-- A sum. -/
def sumR (l : List (Int × Int)) : (Int × Int) × Int := if l.length > 1000 then ((0, 0), 2) else if ∀ d ∈ l, okD d then mk (sumV (pl l) l) (pl l) else ((0, 0), 1)

theorem ev_Sum_c14 (s2 : Int × Int) (l : List (Int × Int)) (p : Int) (hl : l.length ≤ 1000) (hok : ∀ d ∈ l, okD d) (hp : ∀ d ∈ l, d.2 ≤ p) (hp2 : p ≤ 20) : ∀ (m i : Nat), l.length - i = m → i ≤ l.length →
    Ev (fun k => amount_Sum_c14 k s2 p (W (sumV p (l.take i))) l (l.length : Int) (i : Int)) (mk (sumV p l) p) := by
  intro m
  induction m with
  | zero =>
    intro i hm hi
    rw [List.take_of_length_le (by omega)]
    exact .step (fun k => amount_Sum_c14_eq k _ _ _ _ _ _) (.nk (by omega) (.ret (ev_Made _ _) rfl))
  | succ m ih =>
    intro i hm hi
    have hlt : i < l.length := by omega
    have hmem : l.getD i (0, 0) ∈ l := by
      rw [List.getD_eq_getElem?_getD, List.getElem?_eq_getElem hlt]
      exact List.getElem_mem hlt
    refine .step (fun k => amount_Sum_c14_eq k _ _ _ _ _ _) (.ck (by omega) (.ck (by omega) (.ck (by omega) ?_)))
    rw [Int.toNat_natCast, getD_eta, wi_succ hlt (by omega)]
    refine .bind (ev_Scaled _ p (hok _ hmem) (hp _ hmem) hp2) (.bind (ev_Plus _ _ (.of ?_) (.of (Nat.le_trans (sc_abs (hok _ hmem) hp2) (by decide)))) ?_)
    · have := sumV_abs hp2 (l := l.take i) fun d hd => hok d (List.mem_of_mem_take hd)
      have h3 : (l.take i).length ≤ 1000 := by rw [List.length_take]; omega
      have h4 := Nat.mul_le_mul_right (10 ^ 35) h3
      have h5 : 1000 * 10 ^ 35 ≤ 10 ^ 60 := by decide
      omega
    · have : sumV p (l.take i) + sc (l.getD i (0, 0)) p = sumV p (l.take (i + 1)) := by
        rw [List.take_add_one, List.getElem?_eq_getElem hlt, sumV_append, List.getD_eq_getElem?_getD, List.getElem?_eq_getElem hlt]
        simp [sumV]
      rw [this]
      exact ih (i + 1) (by omega) (by omega)

theorem maxI_eq (x y : Int) : maxI x y = max x y := by unfold maxI; split <;> omega

theorem ev_Sum_c8 (s0 : List (Int × Int)) (s2 : Int × Int) (l : List (Int × Int)) (hl : l.length ≤ 1000) {r : (Int × Int) × Int} (hr : Ev (fun k => amount_Sum_c14 k s2 (pl l) (W 0) s0 (s0.length : Int) 0) r) : ∀ (m i : Nat) (q : Int), l.length - i = m → i ≤ l.length → 0 ≤ q → max q (pl (l.drop i)) = pl l →
    Ev (fun k => amount_Sum_c8 k s0 s2 q l (l.length : Int) (i : Int)) r := by
  intro m
  induction m with
  | zero =>
    intro i q hm hi h hq
    rw [List.drop_of_length_le (by omega)] at hq
    refine .step (fun k => amount_Sum_c8_eq k _ _ _ _ _ _) (.nk (by omega) (.bind (ev_Of 0 (by omega) (by omega)) ?_))
    have : q = pl l := by simp only [pl] at hq; omega
    rw [this]
    exact hr
  | succ m ih =>
    intro i q hm hi h hq
    have hlt : i < l.length := by omega
    refine .step (fun k => amount_Sum_c8_eq k _ _ _ _ _ _) (.ck (by omega) (.ck (by omega) (.ck (by omega) ?_)))
    rw [Int.toNat_natCast, wi_succ hlt (by omega), maxI_eq]
    refine ih (i + 1) _ (by omega) (by omega) (by omega) ?_
    rw [dropp_cons (d := (0, 0)) hlt] at hq
    simp only [pl] at hq
    omega

theorem ev_Sum (l : List (Int × Int)) : Ev (fun k => amount_Sum k l) (sumR l) := by
  unfold sumR
  refine .step (fun k => amount_Sum_eq k l) (.dec (fun h => ?_) (fun h => ?_))
  · rw [if_pos (by omega)]
    exact .pure _
  · rw [if_neg (by omega)]
    refine .bind (ev_CheckDecimals l (by omega)) ?_
    by_cases hok : ∀ d ∈ l, okD d
    · rw [if_pos hok, if_pos hok]
      refine .ff rfl ?_
      have := ev_Sum_c14 (0, 0) l (pl l) (by omega) hok (fun d hd => pl_mem hd) (by have := pl_le hok; omega) _ 0 rfl (by omega)
      refine ev_Sum_c8 l (0, 0) l (by omega) this _ 0 0 rfl (by omega) (by omega) ?_
      have := pl_nonneg l
      simp only [List.drop_zero]
      omega
    · rw [if_neg hok, if_neg hok]
      exact .tt rfl (.pure _)

theorem ev_acompare (a b : Int × Int) (ha : okD a) (hb : okD b) : Ev (fun k => amount_Compare k a b) ((sc a 9 - sc b 9).sign, 0) := by
  refine .step (fun k => amount_Compare_eq k a b) (.bind (ev_CheckDecimals [a, b] (by simp)) ?_)
  rw [if_pos (by simp [ha, hb])]
  exact .ff rfl (.bind (ev_Value a ha) (.bind (ev_Value b hb) (.bind (ev_Compare _ _ (.of (Nat.le_trans (sc_abs ha (by omega)) (by decide))) (.of (Nat.le_trans (sc_abs hb (by omega)) (by decide)))) (.pure _))))
end Go.Proofs.Ytoiahmmockgcbaa.Eq
