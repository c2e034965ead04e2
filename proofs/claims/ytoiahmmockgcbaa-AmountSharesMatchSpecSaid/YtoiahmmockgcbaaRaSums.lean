import Derived.Test.YtoiahmmockgcbaaRaAmount
import Derived.Test.YtoiahmmockgcbaaRaAwake
/- A sum in any order is the same value, and a sum of two parts is that of their sums: the law over what its functions compute. -/
namespace Go.Proofs.Ytoiahmmockgcbaa.Eq
open Go Go.Ra
set_option linter.unusedVariables false

theorem ev_Below (x n : Int) (hx : -9223372036854775808 ≤ x) (hx2 : x < 9223372036854775808) (hn : 0 < n) (hn2 : n < 1125899906842624) : ∃ r, Ev (fun k => interchangeref1_Below k x n) r ∧ 0 ≤ r ∧ r < n := by
  have h1 : -n < x.tmod n := by
    have h2 := Int.lt_tmod_of_pos x hn
    omega
  have h2 := Int.tmod_lt_of_pos x hn
  by_cases h : x.tmod n < 0
  · refine ⟨x.tmod n + n, .step (fun k => interchangeref1_Below_eq k x n) (.tt (by simp; omega) (.ck h ?_)), by omega, by omega⟩
    rw [wi64_id (by omega) (by omega)]
    exact .pure _
  · exact ⟨x.tmod n, .step (fun k => interchangeref1_Below_eq k x n) (.tt (by simp; omega) (.nk h (.pure _))), by omega, h2⟩

theorem ev_Clone (a : List (Int × Int)) (h : a.length < 8796093022208) : Ev (fun k => slices_Clone k a) a := by
  cases a with
  | nil => exact .step (fun k => slices_Clone_eq k _) (.pure _)
  | cons x a => exact .step (fun k => slices_Clone_eq k _) (.ff rfl (.ck (by omega) (.pure _)))

theorem ev_Reverse_c1 (n : Nat) (hn : n < 1125899906842624) : ∀ (m i : Nat) (l : List (Int × Int)), n - i = m → i ≤ n → l.length = n →
    ∃ r, Ev (fun k => slices_Reverse_c1 k l (i : Int) ((n : Int) - 1 - i)) r ∧ r.length = n ∧ ∀ p, r[p]? = if i ≤ p ∧ p + i < n then l[n - 1 - p]? else l[p]? := by
  intro m
  induction m using Nat.strongRecOn with
  | ind m ih =>
    intro i l hm hi hl
    by_cases h : (i : Int) < (n : Int) - 1 - i
    · have h1 : i < l.length := by omega
      have hj : ((n : Int) - 1 - i) = ((n - 1 - i : Nat) : Int) := by omega
      have hjl : n - 1 - i < l.length := by omega
      have e1 : wi64 ((i : Int) + 1) = ((i + 1 : Nat) : Int) := wi_succ h1 (by omega)
      have e2 : wi64 ((n : Int) - 1 - i - 1) = (n : Int) - 1 - ((i + 1 : Nat) : Int) := by rw [wi64_id (by omega) (by omega)]; omega
      obtain ⟨r, q1, q2, q3⟩ := ih (n - (i + 1)) (by omega) (i + 1) ((l.set i (l.getD (n - 1 - i) (0, 0))).set (n - 1 - i) (l.getD i (0, 0))) rfl (by omega) (by simpa using hl)
      refine ⟨r, .step (fun k => slices_Reverse_c1_eq k _ _ _) (.ck h (.ck (by omega) (.ck (by omega) (.ck (by omega) (.ck (by omega) (.ck (by omega) (.ck (by omega) (.ck (by omega) (.ck (by rw [List.length_set]; omega) ?_))))))))), q2, fun p => ?_⟩
      · rw [e1, e2, hj, Int.toNat_natCast, Int.toNat_natCast, getD_eta, getD_eta]
        exact q1
      · rw [q3 p]
        have g1 : l[i]? = some (l.getD i (0, 0)) := by rw [List.getD_eq_getElem?_getD, List.getElem?_eq_getElem h1]; rfl
        have g2 : l[n - 1 - i]? = some (l.getD (n - 1 - i) (0, 0)) := by rw [List.getD_eq_getElem?_getD, List.getElem?_eq_getElem hjl]; rfl
        by_cases hp : i ≤ p ∧ p + i < n
        · rw [if_pos hp]
          by_cases hpi : p = i
          · subst hpi
            rw [if_neg (by omega), List.getElem?_set_ne (by omega), List.getElem?_set_self h1, g2]
          · by_cases hpj : p = n - 1 - i
            · subst hpj
              rw [if_neg (by omega), List.getElem?_set_self (by simpa using hjl), show n - 1 - (n - 1 - i) = i by omega, g1]
            · rw [if_pos (by omega), List.getElem?_set_ne (by omega), List.getElem?_set_ne (by omega)]
        · rw [if_neg hp, if_neg (by omega), List.getElem?_set_ne (by omega), List.getElem?_set_ne (by omega)]
    · refine ⟨l, .step (fun k => slices_Reverse_c1_eq k _ _ _) (.nk h (.pure _)), hl, fun p => ?_⟩
      by_cases hp : i ≤ p ∧ p + i < n
      · rw [if_pos hp]
        have : n - 1 - p = p := by omega
        rw [this]
      · rw [if_neg hp]

theorem ev_Reverse (l : List (Int × Int)) (hn : l.length < 1125899906842624) : Ev (fun k => slices_Reverse k l) l.reverse := by
  obtain ⟨r, q1, q2, q3⟩ := ev_Reverse_c1 l.length hn _ 0 l rfl (by omega) rfl
  have : r = l.reverse := by
    apply List.ext_getElem?
    intro p
    rw [q3 p]
    by_cases hp : p < l.length
    · rw [if_pos (by omega), List.getElem?_reverse hp]
    · rw [if_neg (by omega), List.getElem?_eq_none (by omega), List.getElem?_eq_none (by simp; omega)]
  rw [this] at q1
  refine .step (fun k => slices_Reverse_eq k l) ?_
  rw [wi64_id (by omega) (by omega)]
  have e : ((l.length : Int) - 1 - ((0 : Nat) : Int)) = (l.length : Int) - 1 := by omega
  rw [e] at q1
  exact q1

theorem mk_cases (v p : Int) : (mk v p = ((v, p), 0) ∧ v.natAbs ≤ 1000000000000000) ∨ mk v p = ((0, 0), 1) := by
  unfold mk
  split
  · exact .inl ⟨rfl, by assumption⟩
  · exact .inr rfl

theorem sumR_cases (l : List (Int × Int)) : (sumR l = ((sumV (pl l) l, pl l), 0) ∧ (∀ d ∈ l, okD d) ∧ (sumV (pl l) l).natAbs ≤ 1000000000000000 ∧ l.length ≤ 1000) ∨ ((sumR l).1 = (0, 0) ∧ (sumR l).2 ≠ 0) := by
  unfold sumR
  split
  · exact .inr ⟨rfl, by simp⟩
  · split
    · rename_i h1 h2
      rcases mk_cases (sumV (pl l) l) (pl l) with ⟨h, hv⟩ | h
      · exact .inl ⟨h, h2, hv, by omega⟩
      · exact .inr (by rw [h]; simp)
    · exact .inr ⟨rfl, by simp⟩
theorem sumR_reverse (l : List (Int × Int)) : sumR l.reverse = sumR l := by
  unfold sumR
  rw [List.length_reverse, pl_reverse, sumV_reverse]
  simp only [List.mem_reverse]

theorem scale_val {l : List (Int × Int)} (h : ∀ d ∈ l, okD d) {q : Int} (hq : q ≤ 20) (hp : pl l ≤ q) : sc (sumV (pl l) l, pl l) q = sumV q l :=
  sumV_scale hp fun d hd => pl_mem hd

theorem ev_law (l : List (Int × Int)) (b : Int) (hn : l.length ≤ 8796093021952) (hb1 : -9223372036854775808 ≤ b) (hb2 : b < 9223372036854775808) : Ev (fun k => interchangelaw1_AmountSumsAreExact k l b) true := by
  refine .step (fun k => interchangelaw1_AmountSumsAreExact_eq k l b) (.bind (ev_Sum l) ?_)
  rcases sumR_cases l with ⟨h0, hok, hv, hl⟩ | ⟨h0, h1⟩
  · rw [h0]
    refine .ff rfl ?_
    have e1 : wi64 ((l.length : Int) + 1) = (l.length : Int) + 1 := wi64_id (by omega) (by omega)
    rw [e1]
    obtain ⟨r, q1, q2, q3⟩ := ev_Below b ((l.length : Int) + 1) hb1 hb2 (by omega) (by omega)
    refine .bind q1 (.bind (ev_Clone l (by omega)) (.bind (ev_Reverse l (by omega)) (.bind (ev_Sum l.reverse) ?_)))
    rw [sumR_reverse, h0]
    refine .bind (.tt (by simp) ev_awake) (.ff (by simp) (.ck (by omega) (.ck (by omega) (.bind (ev_Sum _) (.ck (by omega) (.ck (by omega) (.bind (ev_Sum _) ?_)))))))
    rcases sumR_cases (l.take r.toNat) with ⟨ha, hoka, hva, _⟩ | ⟨ha, ha1⟩
    · rcases sumR_cases (l.drop r.toNat) with ⟨hb, hokb, hvb, _⟩ | ⟨hb, hb1⟩
      · rw [ha, hb]
        refine .ff rfl (.bind (ev_Sum _) ?_)
        have pa := pl_le hoka
        have pb := pl_le hokb
        have pa0 := pl_nonneg (l.take r.toNat)
        have pb0 := pl_nonneg (l.drop r.toNat)
        have hple : pl l = max (pl (l.take r.toNat)) (pl (l.drop r.toNat)) := by rw [← pl_append, List.take_append_drop]
        have hsum : ∀ q, sumV q l = sumV q (l.take r.toNat) + sumV q (l.drop r.toNat) := fun q => by rw [← sumV_append, List.take_append_drop]
        have sa : ∀ q, pl (l.take r.toNat) ≤ q → q ≤ 20 → sc (sumV (pl (l.take r.toNat)) (l.take r.toNat), pl (l.take r.toNat)) q = sumV q (l.take r.toNat) := fun q h1 h2 => scale_val hoka h2 h1
        have sb : ∀ q, pl (l.drop r.toNat) ≤ q → q ≤ 20 → sc (sumV (pl (l.drop r.toNat)) (l.drop r.toNat), pl (l.drop r.toNat)) q = sumV q (l.drop r.toNat) := fun q h1 h2 => scale_val hokb h2 h1
        have hs9 := scale_val hok (q := 9) (by omega) (by omega)
        generalize hx : sumV (pl (l.take r.toNat)) (l.take r.toNat) = x at *
        generalize hy : sumV (pl (l.drop r.toNat)) (l.drop r.toNat) = y at *
        generalize pl (l.take r.toNat) = p at *
        generalize pl (l.drop r.toNat) = q at *
        have okx : okD (x, p) := by unfold okD; simp only; omega
        have oky : okD (y, q) := by unfold okD; simp only; omega
        have hpl : pl [(x, p), (y, q)] = pl l := by simp only [pl]; omega
        have hsv : sumV (pl l) [(x, p), (y, q)] = sumV (pl l) l := by
          simp only [sumV]
          rw [sa (pl l) (by omega) (by omega), sb (pl l) (by omega) (by omega), hsum]
          omega
        have hr : sumR [(x, p), (y, q)] = mk (sumV (pl l) l) (pl l) := by
          unfold sumR
          rw [if_neg (by simp), if_pos (by simp [okx, oky]), hpl, hsv]
        rw [hr]
        unfold mk
        rw [if_pos hv]
        refine .ff rfl ?_
        have okz : okD (sumV (pl l) l, pl l) := by unfold okD; simp only; omega
        refine .bind (ev_acompare _ _ okz okz) (.to (.pure _) ?_)
        simp
      · exact .tt (by rw [ha]; simpa using hb1) (.pure _)
    · exact .tt (by simp [ha1]) (.pure _)
  · refine .tt (by simpa using h1) ?_
    rw [h0]
    exact .bind (.tt rfl ev_awake) (.pure _)
end Go.Proofs.Ytoiahmmockgcbaa.Eq
