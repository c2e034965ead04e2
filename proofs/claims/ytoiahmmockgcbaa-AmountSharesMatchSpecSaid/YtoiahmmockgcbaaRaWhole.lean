import Derived.Test.YtoiahmmockgcbaaRaEq
import Derived.Test.YtoiahmmockgcbaaK1
/- Whole numbers without a limit: what their functions compute. -/
namespace Go.Proofs.Ytoiahmmockgcbaa.Eq
open Go Go.Ra
set_option linter.unusedVariables false

theorem dV (n : Nat) : Vb 4294967296 (digs 4294967296 n) = n := digs_V (b := 4294967296) (by decide) n
theorem dD (n : Nat) : Dg 4294967296 (digs 4294967296 n) := digs_dg (b := 4294967296) (by decide) n
theorem dE {l : List Int} (h : Dg 4294967296 l) (h2 : l.getLast? ≠ some 0) : l = digs 4294967296 (Vb 4294967296 l).toNat := digs_eq (b := 4294967296) (by decide) h h2

theorem pow_step (p d c b : Int) : p * d + p * b * c = p * (d + b * c) := by rw [Int.mul_add, Int.mul_assoc]

theorem ev_trimmed_c1 : ∀ (n : Nat) (l : List Int), l.length = n → n < 1099511627776 → Dg 4294967296 l → Ev (fun k => whole_trimmed_c1 k l) (digs 4294967296 (Vb 4294967296 l).toNat) := by
  intro n
  induction n with
  | zero =>
    intro l hl _ _
    have : l = [] := by simpa using hl
    subst this
    refine .step (fun k => whole_trimmed_c1_eq k _) (.tt (by simp) (.tt (by simp) (.ff (by simp) ?_)))
    exact .pure _
  | succ n ih =>
    intro l hl hn hd
    obtain ⟨m, x, rfl⟩ : ∃ m x, l = m ++ [x] := by
      rcases List.eq_nil_or_concat l with rfl | ⟨m, x, rfl⟩
      · simp at hl
      · exact ⟨m, x, by simp⟩
    have hm : m.length = n := by simpa using hl
    have e : wi64 (((m ++ [x]).length : Int) - 1) = (n : Int) := by
      rw [hl, wi64_id (by omega) (by omega)]
      omega
    refine .step (fun k => whole_trimmed_c1_eq k _) ?_
    rw [e, hl]
    have hg : (m ++ [x]).getD ((n : Int)).toNat 0 = x := by
      rw [Int.toNat_natCast, List.getD_eq_getElem?_getD, ← hm]
      simp
    have ht : (m ++ [x]).take ((n : Int)).toNat = m := by
      rw [Int.toNat_natCast, ← hm]
      simp
    rw [hg, ht]
    refine .tt (by simp) (.tt (by simp; omega) ?_)
    by_cases hx : x = 0
    · subst hx
      refine .tt (by simp) (.ck (by omega) (.ck (by omega) ?_))
      have := ih m hm (by omega) (fun y hy => hd y (by simp [hy]))
      rw [Vb_append, Vb_one, Int.mul_zero, Int.add_zero]
      exact this
    · refine .ff (by simp [hx]) ?_
      rw [← dE hd (by simpa using hx)]
      exact .pure _

theorem ev_trimmed (l : List Int) (hn : l.length < 1099511627776) (hd : Dg 4294967296 l) : Ev (fun k => whole_trimmed k l) (digs 4294967296 (Vb 4294967296 l).toNat) :=
  .step (fun k => whole_trimmed_eq k l) (ev_trimmed_c1 _ l rfl hn hd)

/-- The canonical form of a number. -/
def W (n : Int) : Bool × List Int := (decide (n < 0), digs 4294967296 n.natAbs)

theorem digs_len_pos {b n : Nat} (hb : 2 ≤ b) : decide (((digs b n).length : Int) > 0) = decide (0 < n) := by
  rcases Nat.eq_zero_or_pos n with rfl | h
  · simp [digs_zero]
  · rw [digs_pos hb h]
    simp [h]

theorem ev_made (s : Bool) (l : List Int) (hn : l.length < 1099511627776) (hd : Dg 4294967296 l) : Ev (fun k => whole_made k s l) (W (cond s (-(Vb 4294967296 l)) (Vb 4294967296 l))) := by
  refine .step (fun k => whole_made_eq k s l) (.bind (ev_trimmed l hn hd) ?_)
  refine .to (.pure _) ?_
  have hv := Vb_nonneg (b := 4294967296) (by omega) hd
  generalize Vb 4294967296 l = v at *
  obtain ⟨m, rfl⟩ : ∃ m : Nat, v = m := ⟨v.toNat, by omega⟩
  unfold W
  rw [digs_len_pos (by omega)]
  cases s with
  | true => simp
  | false => simp

theorem W_neg (n : Int) : (W n).1 = decide (n < 0) := rfl
theorem W_dg (n : Int) : Dg 4294967296 (W n).2 := dD _
theorem W_V (n : Int) : Vb 4294967296 (W n).2 = n.natAbs := dV _

/-- Of fewer than a hundred digits. -/
def Sm (n : Int) : Prop := n.natAbs < 4294967296 ^ 100
theorem Sm.len {n : Int} (h : Sm n) : (W n).2.length ≤ 100 := digs_len (by omega) 100 _ h
theorem Sm.of {n : Int} (h : n.natAbs ≤ 10 ^ 60) : Sm n := Nat.lt_of_le_of_lt h (by decide)

theorem ev_Of (n : Int) (h1 : -9223372036854775808 ≤ n) (h2 : n < 9223372036854775808) : Ev (fun k => whole_Of k n) (W n) := by
  refine .step (fun k => whole_Of_eq k n) ?_
  have key : ∀ (s : Bool) (u : Int), 0 ≤ u → u < 18446744073709551616 → Ev (fun k => whole_made k s [wu32 u, wu32 (shrI .u64 u 32)]) (W (cond s (-u) u)) := by
    intro s u hu hu2
    have h := ev_made s [wu32 u, wu32 (shrI .u64 u 32)] (by simp) (by
      rw [wu32_mod, wu32_mod]
      exact .mk (by omega) (by omega) (.mk (by omega) (by omega) .nil))
    have e : Vb 4294967296 [wu32 u, wu32 (shrI .u64 u 32)] = u := by
      rw [shr32, wu32_mod, wu32_mod]
      simp only [Vb]
      omega
    rw [e] at h
    exact h
  refine .dec (fun h => ?_) (fun h => ?_)
  · have e : wu64 (0 - wu64 n) = -n := by rw [wu64_mod, wu64_mod]; omega
    rw [e]
    have := key (decide (n < 0)) (-n) (by omega) (by omega)
    refine .ret this ?_
    simp [h]
  · have e : wu64 n = n := by rw [wu64_mod]; omega
    rw [e]
    refine .ret (key (decide (n < 0)) n (by omega) (by omega)) ?_
    simp [h]

theorem drop_cons {l : List Int} {i : Nat} (h : i < l.length) : l.drop i = l.getD i 0 :: l.drop (i + 1) := by
  rw [List.drop_eq_getElem_cons h, List.getD_eq_getElem?_getD, List.getElem?_eq_getElem h]
  rfl

theorem ev_sum_c6 (a b : List Int) (ha : Dg 4294967296 a) (hb : Dg 4294967296 b) (hl : b.length ≤ a.length) (hn : a.length < 1099511627776) : ∀ (m i : Nat) (out : List Int) (c : Int), a.length - i = m → i ≤ a.length → out.length = i → Dg 4294967296 out → 0 ≤ c → c ≤ 1 →
    ∃ s, Ev (fun k => whole_sum_c6 k b out c a (a.length : Int) (i : Int)) s ∧ Dg 4294967296 s ∧ s.length = a.length + 1 ∧ Vb 4294967296 s = Vb 4294967296 out + 4294967296 ^ i * (c + Vb 4294967296 (a.drop i) + Vb 4294967296 (b.drop i)) := by
  intro m
  induction m with
  | zero =>
    intro i out c hm hi ho hd hc hc1
    have hi' : i = a.length := by omega
    subst hi'
    refine ⟨out ++ [wu32 c], ?_, ?_, by simp [ho], ?_⟩
    · refine .step (fun k => whole_sum_c6_eq k _ _ _ _ _ _) (.nk (by omega) (.ck (by omega) (.pure _)))
    · rw [wu32_id (by omega) (by omega)]
      exact hd.append (.mk hc (by omega) .nil)
    · rw [wu32_id (by omega) (by omega), Vb_append, Vb_one, ho, List.drop_length, List.drop_of_length_le hl]
      simp [Vb]
  | succ m ih =>
    intro i out c hm hi ho hd hc hc1
    have hlt : i < a.length := by omega
    have hx := ha.at (by omega) i
    have hti : ((i : Int)).toNat = i := Int.toNat_natCast i
    have e1 : wi64 ((i : Int) + 1) = ((i + 1 : Nat) : Int) := by rw [wi64_id (by omega) (by omega)]; rfl
    rw [drop_cons hlt]
    generalize hxe : a.getD i 0 = x at *
    by_cases hb2 : i < b.length
    · have hy := hb.at (by omega) i
      rw [drop_cons hb2]
      generalize hye : b.getD i 0 = y at *
      have et : wu64 (wu64 (c + wu64 x) + wu64 y) = c + x + y := by
        rw [wu64_id (x := x) (by omega) (by omega), wu64_id (x := c + x) (by omega) (by omega), wu64_id (x := y) (by omega) (by omega), wu64_id (by omega) (by omega)]
      obtain ⟨s, q1, q2, q3, q4⟩ := ih (i + 1) (out ++ [(c + x + y) % 4294967296]) ((c + x + y) / 4294967296) (by omega) (by omega) (by simp [ho]) (hd.append (.mk (by omega) (by omega) .nil)) (by omega) (by omega)
      refine ⟨s, ?_, q2, q3, ?_⟩
      · refine .step (fun k => whole_sum_c6_eq k _ _ _ _ _ _) (.ck (by omega) (.ck (by omega) (.ck (by omega) (.ck (by omega) (.ck (by omega) (.ck (by omega) (.ck (by omega) ?_)))))))
        rw [hti, hxe, hye, et, shr32, wu32_mod, e1]
        exact q1
      · rw [q4, Vb_append, Vb_one, ho, Int.pow_succ]
        simp only [Vb]
        rw [Int.add_assoc, pow_step]
        congr 2
        omega
    · have et : wu64 (c + wu64 x) = c + x := by
        rw [wu64_id (x := x) (by omega) (by omega), wu64_id (x := c + x) (by omega) (by omega)]
      rw [List.drop_of_length_le (show b.length ≤ i by omega)]
      obtain ⟨s, q1, q2, q3, q4⟩ := ih (i + 1) (out ++ [(c + x) % 4294967296]) ((c + x) / 4294967296) (by omega) (by omega) (by simp [ho]) (hd.append (.mk (by omega) (by omega) .nil)) (by omega) (by omega)
      refine ⟨s, ?_, q2, q3, ?_⟩
      · refine .step (fun k => whole_sum_c6_eq k _ _ _ _ _ _) (.ck (by omega) (.ck (by omega) (.ck (by omega) (.nk (by omega) (.ck (by omega) ?_)))))
        rw [hti, hxe, et, shr32, wu32_mod, e1]
        exact q1
      · rw [q4, Vb_append, Vb_one, ho, Int.pow_succ, List.drop_of_length_le (show b.length ≤ i + 1 by omega)]
        simp only [Vb]
        rw [Int.add_assoc, pow_step]
        congr 2
        omega

theorem ev_sum_c3 (a b : List Int) (ha : Dg 4294967296 a) (hb : Dg 4294967296 b) (hl : b.length ≤ a.length) (hn : a.length < 549755813888) :
    ∃ s, Ev (fun k => whole_sum_c3 k a b) s ∧ Dg 4294967296 s ∧ s.length = a.length + 1 ∧ Vb 4294967296 s = Vb 4294967296 a + Vb 4294967296 b := by
  obtain ⟨s, q1, q2, q3, q4⟩ := ev_sum_c6 a b ha hb hl (by omega) _ 0 [] 0 rfl (by omega) rfl .nil (by omega) (by omega)
  refine ⟨s, ?_, q2, q3, ?_⟩
  · have e : wi64 ((a.length : Int) + 1) = (a.length : Int) + 1 := wi64_id (by omega) (by omega)
    refine .step (fun k => whole_sum_c3_eq k _ _) ?_
    rw [e]
    exact .ck (by omega) (.ck (by omega) q1)
  · rw [q4]
    simp [Vb]

theorem ev_sum (a b : List Int) (ha : Dg 4294967296 a) (hb : Dg 4294967296 b) (h1 : a.length < 549755813888) (h2 : b.length < 549755813888) :
    ∃ s, Ev (fun k => whole_sum k a b) s ∧ Dg 4294967296 s ∧ s.length = max a.length b.length + 1 ∧ Vb 4294967296 s = Vb 4294967296 a + Vb 4294967296 b := by
  by_cases h : a.length < b.length
  · obtain ⟨s, q1, q2, q3, q4⟩ := ev_sum_c3 b a hb ha (by omega) h2
    exact ⟨s, .step (fun k => whole_sum_eq k a b) (.ck (by omega) q1), q2, by omega, by omega⟩
  · obtain ⟨s, q1, q2, q3, q4⟩ := ev_sum_c3 a b ha hb (by omega) h1
    exact ⟨s, .step (fun k => whole_sum_eq k a b) (.nk (by omega) q1), q2, by omega, q4⟩

theorem ev_compare_c4 (a b : List Int) (ha : Dg 4294967296 a) (hb : Dg 4294967296 b) (hl : a.length = b.length) (hn : a.length < 1099511627776) : ∀ n : Nat, n ≤ a.length → a.drop n = b.drop n →
    ∃ r, Ev (fun k => whole_compare_c4 k a b ((n : Int) - 1)) r ∧ (0 ≤ r ↔ Vb 4294967296 b ≤ Vb 4294967296 a) := by
  intro n
  induction n with
  | zero =>
    intro _ he
    refine ⟨0, .step (fun k => whole_compare_c4_eq k _ _ _) (.nk (by omega) (.pure _)), ?_⟩
    have : a = b := by simpa using he
    subst this
    simp
  | succ n ih =>
    intro hle he
    have hlt : n < a.length := by omega
    have hx := ha.at (by omega) n
    have hy := hb.at (by omega) n
    have e0 : (((n + 1 : Nat) : Int) - 1) = (n : Int) := by omega
    have hti : ((n : Int)).toNat = n := Int.toNat_natCast n
    have e1 : wi64 ((n : Int) - 1) = (n : Int) - 1 := wi64_id (by omega) (by omega)
    have va : Vb 4294967296 a = Vb 4294967296 (a.take n) + 4294967296 ^ n * (a.getD n 0 + 4294967296 * Vb 4294967296 (a.drop (n + 1))) := by
      have h := Vb_append 4294967296 (a.take n) (a.drop n)
      rw [List.take_append_drop, drop_cons hlt, List.length_take, Nat.min_eq_left (by omega)] at h
      simpa only [Vb] using h
    have vb : Vb 4294967296 b = Vb 4294967296 (b.take n) + 4294967296 ^ n * (b.getD n 0 + 4294967296 * Vb 4294967296 (b.drop (n + 1))) := by
      have h := Vb_append 4294967296 (b.take n) (b.drop n)
      rw [List.take_append_drop, drop_cons (show n < b.length by omega), List.length_take, Nat.min_eq_left (by omega)] at h
      simpa only [Vb] using h
    have ta := Vb_lt (b := 4294967296) (by omega) (ha.take n)
    have tb := Vb_lt (b := 4294967296) (by omega) (hb.take n)
    have na := Vb_nonneg (b := 4294967296) (by omega) (ha.take n)
    have nb := Vb_nonneg (b := 4294967296) (by omega) (hb.take n)
    rw [List.length_take, Nat.min_eq_left (by omega)] at ta tb
    rw [he] at va
    rw [e0]
    generalize hxe : a.getD n 0 = x at *
    generalize hye : b.getD n 0 = y at *
    have cmp : ∀ u v : Int, u < v → Vb 4294967296 (a.take n) + 4294967296 ^ n * (u + 4294967296 * Vb 4294967296 (b.drop (n + 1))) < 4294967296 ^ n * (v + 4294967296 * Vb 4294967296 (b.drop (n + 1))) := by
      intro u v huv
      have : (4294967296 : Int) ^ n * (u + 4294967296 * Vb 4294967296 (b.drop (n + 1)) + 1) ≤ 4294967296 ^ n * (v + 4294967296 * Vb 4294967296 (b.drop (n + 1))) := Int.mul_le_mul_of_nonneg_left (by omega) (by omega)
      rw [Int.mul_add _ (u + _) 1] at this
      omega
    have cmp' : ∀ u v : Int, u < v → Vb 4294967296 (b.take n) + 4294967296 ^ n * (u + 4294967296 * Vb 4294967296 (b.drop (n + 1))) < 4294967296 ^ n * (v + 4294967296 * Vb 4294967296 (b.drop (n + 1))) := by
      intro u v huv
      have : (4294967296 : Int) ^ n * (u + 4294967296 * Vb 4294967296 (b.drop (n + 1)) + 1) ≤ 4294967296 ^ n * (v + 4294967296 * Vb 4294967296 (b.drop (n + 1))) := Int.mul_le_mul_of_nonneg_left (by omega) (by omega)
      rw [Int.mul_add _ (u + _) 1] at this
      omega
    by_cases hxy : x = y
    · subst hxy
      obtain ⟨r, q1, q2⟩ := ih (by omega) (by rw [drop_cons hlt, drop_cons (show n < b.length by omega), hxe, hye, he])
      refine ⟨r, ?_, q2⟩
      refine .step (fun k => whole_compare_c4_eq k _ _ _) (.ck (by omega) (.ck (by omega) (.ck (by omega) (.ck (by omega) (.ck (by omega) (.ff (by rw [hti, hxe, hye]; simp) ?_))))))
      rw [e1]
      exact q1
    · have pre : ∀ r, Ev (fun k => Bool.rec (some (1 : Int)) (some (-1)) (decide (x < y))) r → Ev (fun k => whole_compare_c4 k a b (n : Int)) r := by
        intro r hr
        refine .step (fun k => whole_compare_c4_eq k _ _ _) (.ck (by omega) (.ck (by omega) (.ck (by omega) (.ck (by omega) (.ck (by omega) (.tt (by rw [hti, hxe, hye]; simpa using hxy) (.ck (by omega) (.ck (by omega) (.ck (by omega) (.ck (by omega) ?_))))))))))
        rw [hti, hxe, hye]
        refine .dec (fun h => ?_) (fun h => ?_)
        · simpa [h] using hr
        · simpa [h] using hr
      by_cases h : x < y
      · refine ⟨-1, pre _ (by simp [h]; exact .pure _), ?_⟩
        have := cmp x y h
        constructor
        · omega
        · omega
      · refine ⟨1, pre _ (by simp [h]; exact .pure _), ?_⟩
        have := cmp' y x (by omega)
        constructor
        · omega
        · omega

theorem digs_inj {a b : Nat} (h : digs 4294967296 a = digs 4294967296 b) : a = b := by
  have h1 := dV a
  rw [h, dV b] at h1
  exact_mod_cast h1.symm

theorem ev_compare (a b : Nat) (ha : (digs 4294967296 a).length < 1099511627776) (hb : (digs 4294967296 b).length < 1099511627776) :
    ∃ r, Ev (fun k => whole_compare k (digs 4294967296 a) (digs 4294967296 b)) r ∧ (0 ≤ r ↔ b ≤ a) := by
  by_cases h : (digs 4294967296 a).length = (digs 4294967296 b).length
  · obtain ⟨r, q1, q2⟩ := ev_compare_c4 _ _ (dD a) (dD b) h ha (digs 4294967296 a).length (Nat.le_refl _) (by rw [List.drop_length, h, List.drop_length])
    refine ⟨r, .step (fun k => whole_compare_eq k _ _) (.ff (by simp [h]) ?_), ?_⟩
    · rw [wi64_id (by omega) (by omega)]
      exact q1
    · rw [q2, dV, dV]
      omega
  · refine ⟨_, .step (fun k => whole_compare_eq k _ _) (.tt (by simp; omega) (.pure _)), ?_⟩
    rw [wi64_id (by omega) (by omega)]
    rcases Nat.lt_or_ge (digs 4294967296 a).length (digs 4294967296 b).length with z | z
    · have := digs_lt_of_len (b := 4294967296) (by decide) z
      omega
    · have := digs_lt_of_len (b := 4294967296) (by decide) (show (digs 4294967296 b).length < (digs 4294967296 a).length by omega)
      omega

theorem ev_less_c4 (a b : List Int) (ha : Dg 4294967296 a) (hb : Dg 4294967296 b) (hl : b.length ≤ a.length) (hn : a.length < 549755813888) : ∀ (m i : Nat) (out : List Int) (c : Int), a.length - i = m → i ≤ a.length → out.length = i → Dg 4294967296 out → 0 ≤ c → c ≤ 1 →
    0 ≤ Vb 4294967296 out + 4294967296 ^ i * (Vb 4294967296 (a.drop i) - Vb 4294967296 (b.drop i) - c) →
    Ev (fun k => whole_less_c4 k b out c a (a.length : Int) (i : Int)) (digs 4294967296 (Vb 4294967296 out + 4294967296 ^ i * (Vb 4294967296 (a.drop i) - Vb 4294967296 (b.drop i) - c)).toNat) := by
  intro m
  induction m with
  | zero =>
    intro i out c hm hi ho hd hc hc1 hp
    have hi' : i = a.length := by omega
    subst hi'
    rw [List.drop_length, List.drop_of_length_le hl] at hp ⊢
    simp only [Vb] at hp ⊢
    have hc0 : c = 0 := by
      have h1 := Vb_lt (b := 4294967296) (by omega) hd
      rw [ho] at h1
      rcases (show c = 0 ∨ c = 1 by omega) with h | h
      · exact h
      · subst h
        exfalso
        rw [show (0 - 0 - 1 : Int) = -1 by omega, Int.mul_neg, Int.mul_one] at hp
        omega
    subst hc0
    refine .step (fun k => whole_less_c4_eq k _ _ _ _ _ _) (.nk (by omega) ?_)
    refine .ret (ev_trimmed out (by omega) hd) ?_
    simp
  | succ m ih =>
    intro i out c hm hi ho hd hc hc1 hp
    have hlt : i < a.length := by omega
    have hx := ha.at (by omega) i
    have hti : ((i : Int)).toNat = i := Int.toNat_natCast i
    have e1 : wi64 ((i : Int) + 1) = ((i + 1 : Nat) : Int) := by rw [wi64_id (by omega) (by omega)]; rfl
    have bor : ∀ t : Int, -4294967296 ≤ t → t < 4294967296 → bitsI .and .u64 (shrI .u64 (t % 18446744073709551616) 32) 1 = (if t < 0 then 1 else 0) ∧ wu32 (t % 18446744073709551616) = t + 4294967296 * (if t < 0 then 1 else 0) := by
      intro t h1 h2
      rw [shr32, and1 rfl (by decide) (by omega) (by simp [IntKind.bits]; omega), wu32_mod]
      split <;> omega
    rw [drop_cons hlt] at hp ⊢
    generalize hxe : a.getD i 0 = x at *
    by_cases hb2 : i < b.length
    · have hy := hb.at (by omega) i
      rw [drop_cons hb2] at hp ⊢
      generalize hye : b.getD i 0 = y at *
      obtain ⟨b1, b2⟩ := bor (x - c - y) (by omega) (by omega)
      have et : wu64 (wu64 (wu64 x - c) - wu64 y) = (x - c - y) % 18446744073709551616 := by
        rw [wu64_id (x := x) (by omega) (by omega), wu64_id (x := y) (by omega) (by omega), wu64_mod, wu64_mod]
        omega
      have hval : Vb 4294967296 (out ++ [x - c - y + 4294967296 * (if x - c - y < 0 then 1 else 0)]) + 4294967296 ^ (i + 1) * (Vb 4294967296 (a.drop (i + 1)) - Vb 4294967296 (b.drop (i + 1)) - (if x - c - y < 0 then 1 else 0)) = Vb 4294967296 out + 4294967296 ^ i * (Vb 4294967296 (x :: a.drop (i + 1)) - Vb 4294967296 (y :: b.drop (i + 1)) - c) := by
        rw [Vb_append, Vb_one, ho, Int.pow_succ]
        simp only [Vb]
        rw [Int.add_assoc, pow_step]
        congr 2
        omega
      rw [← hval] at hp ⊢
      refine .step (fun k => whole_less_c4_eq k _ _ _ _ _ _) (.ck (by omega) (.ck (by omega) (.ck (by omega) (.ck (by omega) (.ck (by omega) (.ck (by omega) (.ck (by omega) ?_)))))))
      rw [hti, hxe, hye, et, b1, b2, e1]
      exact ih (i + 1) _ _ (by omega) (by omega) (by simp [ho]) (hd.append (.mk (by split <;> omega) (by split <;> omega) .nil)) (by split <;> omega) (by split <;> omega) hp
    · obtain ⟨b1, b2⟩ := bor (x - c) (by omega) (by omega)
      have et : wu64 (wu64 x - c) = (x - c) % 18446744073709551616 := by
        rw [wu64_id (x := x) (by omega) (by omega), wu64_mod]
      rw [List.drop_of_length_le (show b.length ≤ i by omega)] at hp ⊢
      have hval : Vb 4294967296 (out ++ [x - c + 4294967296 * (if x - c < 0 then 1 else 0)]) + 4294967296 ^ (i + 1) * (Vb 4294967296 (a.drop (i + 1)) - Vb 4294967296 (b.drop (i + 1)) - (if x - c < 0 then 1 else 0)) = Vb 4294967296 out + 4294967296 ^ i * (Vb 4294967296 (x :: a.drop (i + 1)) - Vb 4294967296 [] - c) := by
        rw [Vb_append, Vb_one, ho, Int.pow_succ, List.drop_of_length_le (show b.length ≤ i + 1 by omega)]
        simp only [Vb]
        rw [Int.add_assoc, pow_step]
        congr 2
        omega
      rw [← hval] at hp ⊢
      refine .step (fun k => whole_less_c4_eq k _ _ _ _ _ _) (.ck (by omega) (.ck (by omega) (.ck (by omega) (.nk (by omega) (.ck (by omega) ?_)))))
      rw [hti, hxe, et, b1, b2, e1]
      exact ih (i + 1) _ _ (by omega) (by omega) (by simp [ho]) (hd.append (.mk (by split <;> omega) (by split <;> omega) .nil)) (by split <;> omega) (by split <;> omega) hp

theorem ev_less (a b : Nat) (ha : (digs 4294967296 a).length < 549755813888) (h : b ≤ a) : Ev (fun k => whole_less k (digs 4294967296 a) (digs 4294967296 b)) (digs 4294967296 (a - b)) := by
  have hl : (digs 4294967296 b).length ≤ (digs 4294967296 a).length := by
    rcases Nat.lt_or_ge (digs 4294967296 a).length (digs 4294967296 b).length with z | z
    · have := digs_lt_of_len (b := 4294967296) (by decide) z
      omega
    · exact z
  have := ev_less_c4 _ _ (dD a) (dD b) hl ha _ 0 [] 0 rfl (by omega) rfl .nil (by omega) (by omega) (by simp [Vb, dV]; omega)
  refine .step (fun k => whole_less_eq k _ _) (.ck (by omega) (.ck (by omega) (.to this ?_)))
  simp only [List.drop_zero, dV, Vb]
  congr 1
  simp

theorem W_two {a : Int} (h : 0 ≤ a) : (W a) = (false, digs 4294967296 a.natAbs) := by unfold W; simp; omega

theorem ev_made_digs (s : Bool) (n : Nat) (hn : (digs 4294967296 n).length < 1099511627776) : Ev (fun k => whole_made k s (digs 4294967296 n)) (W (cond s (-(n : Int)) n)) := by
  have := ev_made s _ hn (dD n)
  rwa [dV] at this

theorem ev_Plus (a b : Int) (ha : Sm a) (hb : Sm b) : Ev (fun k => whole_Int_Plus k (W a) (W b)) (W (a + b)) := by
  have la := ha.len
  have lb := hb.len
  refine .step (fun k => whole_Int_Plus_eq k _ _) ?_
  by_cases hs : decide (a < 0) = decide (b < 0)
  · refine .tt (by simpa [W] using hs) ?_
    obtain ⟨s, q1, q2, q3, q4⟩ := ev_sum (W a).2 (W b).2 (W_dg a) (W_dg b) (by omega) (by omega)
    refine .bind q1 (.ret (ev_made (W a).1 s (by omega) q2) ?_)
    rw [q4, W_V, W_V, W_neg]
    congr 1
    have hs' : a < 0 ↔ b < 0 := by simpa using hs
    by_cases h0 : a < 0
    · have := hs'.1 h0
      simp [h0]
      omega
    · have : ¬ b < 0 := fun z => h0 (hs'.2 z)
      simp [h0]
      omega
  · refine .ff (by simpa [W] using hs) ?_
    obtain ⟨r, q1, q2⟩ := ev_compare a.natAbs b.natAbs (show (W a).2.length < _ by omega) (show (W b).2.length < _ by omega)
    have hs' : ¬ (a < 0 ↔ b < 0) := by simpa using hs
    refine .bind q1 (.dec (fun h => ?_) (fun h => ?_))
    · have hba := q2.1 h
      refine .bind (ev_less a.natAbs b.natAbs (show (W a).2.length < _ by omega) hba) (.ret (ev_made_digs (W a).1 _ ?_) ?_)
      · have h1 : a.natAbs < 4294967296 ^ 100 := ha
        have := digs_len (b := 4294967296) (by decide) 100 (a.natAbs - b.natAbs) (by omega)
        omega
      · rw [W_neg]
        congr 1
        by_cases h0 : a < 0
        · simp [h0]
          omega
        · simp [h0]
          omega
    · have hba : a.natAbs < b.natAbs := by
        rcases Nat.lt_or_ge a.natAbs b.natAbs with z | z
        · exact z
        · exact absurd (q2.2 z) h
      refine .bind (ev_less b.natAbs a.natAbs (show (W b).2.length < _ by omega) (by omega)) (.ret (ev_made_digs (W b).1 _ ?_) ?_)
      · have h1 : b.natAbs < 4294967296 ^ 100 := hb
        have := digs_len (b := 4294967296) (by decide) 100 (b.natAbs - a.natAbs) (by omega)
        omega
      · rw [W_neg]
        congr 1
        by_cases h0 : b < 0
        · simp [h0]
          omega
        · simp [h0]
          omega

theorem ev_Minus (a : Int) (ha : Sm a) : Ev (fun k => whole_Int_Minus k (W a)) (W (-a)) := by
  have la := ha.len
  refine .step (fun k => whole_Int_Minus_eq k _) (.ret (ev_made_digs (!(W a).1) a.natAbs (show (W a).2.length < _ by omega)) ?_)
  rw [W_neg]
  congr 1
  by_cases h0 : a < 0
  · simp [h0]
    omega
  · simp [h0]
    omega
theorem ev_Abs (a : Int) (ha : Sm a) : Ev (fun k => whole_Int_Abs k (W a)) (W a.natAbs) := by
  have la := ha.len
  exact .step (fun k => whole_Int_Abs_eq k _) (.ret (ev_made_digs false a.natAbs (show (W a).2.length < _ by omega)) rfl)
theorem Sm.neg {a : Int} (h : Sm a) : Sm (-a) := by unfold Sm at *; omega
theorem ev_Less (a b : Int) (ha : Sm a) (hb : Sm b) : Ev (fun k => whole_Int_Less k (W a) (W b)) (W (a - b)) :=
  .step (fun k => whole_Int_Less_eq k _ _) (.bind (ev_Minus b hb) (.ret (ev_Plus a (-b) ha hb.neg) (by rw [Int.sub_eq_add_neg])))
theorem ev_Sign (a : Int) : Ev (fun k => whole_Int_Sign k (W a)) a.sign := by
  refine .step (fun k => whole_Int_Sign_eq k _) ?_
  by_cases h0 : a < 0
  · exact .tt (by simpa [W] using h0) (.to (.pure _) (Int.sign_eq_neg_one_of_neg h0).symm)
  · refine .ff (by simpa [W] using h0) ?_
    by_cases hz : a = 0
    · subst hz
      exact .tt (by simp [W, digs_zero]) (.pure _)
    · refine .ff ?_ (.to (.pure _) (Int.sign_eq_one_of_pos (by omega)).symm)
      have := digs_ne (b := 4294967296) (n := a.natAbs) (by decide) (by omega)
      simpa [W] using this
theorem ev_Compare (a b : Int) (ha : Sm a) (hb : Sm b) : Ev (fun k => whole_Int_Compare k (W a) (W b)) (a - b).sign :=
  .step (fun k => whole_Int_Compare_eq k _ _) (.bind (ev_Less a b ha hb) (.ret (ev_Sign _) rfl))

theorem digs_one {n : Nat} (h : 0 < n) (h2 : n < 4294967296) : digs 4294967296 n = [(n : Int)] := by
  rw [digs_pos (by decide) h, Nat.mod_eq_of_lt h2, Nat.div_eq_of_lt h2]
  rfl
theorem digs_two {n : Nat} (h : 4294967296 ≤ n) (h2 : n < 18446744073709551616) : digs 4294967296 n = [((n % 4294967296 : Nat) : Int), ((n / 4294967296 : Nat) : Int)] := by
  rw [digs_pos (by decide) (by omega), digs_one (Nat.div_pos h (by omega)) (by omega)]

theorem ev_Int_c5 (most v : Int) (s2 : Bool × List Int) (l : List Int) (hm : 0 ≤ most) (hm2 : most < 4611686018427387904) (hv : 0 ≤ v) (hv2 : v < 18446744073709551616) :
    Ev (fun k => whole_Int_Int_c5 k most s2 v l (l.length : Int) (l.length : Int)) (if v ≤ most then (cond s2.1 (-v) v, true) else (0, false)) := by
  refine .step (fun k => whole_Int_Int_c5_eq k _ _ _ _ _ _) (.nk (by omega) ?_)
  rw [wu64_id (x := most) hm (by omega)]
  refine .dec (fun h => .to (.pure _) (by rw [if_neg (by omega)])) (fun h => ?_)
  rw [if_pos (by omega)]
  rw [wi64_id (x := v) (by omega) (by omega), wi64_id (x := 0 - v) (by omega) (by omega)]
  refine .cond (fun h => .to (.pure _) (by rw [h]; simp)) (fun h => .to (.pure _) (by rw [h]; simp))

theorem shl_id {x i : Int} (n : Nat) (hi : i = n) (hn : n ≤ 64) (hx : 0 ≤ x) (h : x * 2 ^ n < 18446744073709551616) : shlI .u64 x i = x * 2 ^ n := by
  subst hi
  show wu64 (x * 2 ^ (min ((n : Int)).toNat 64)) = _
  rw [Int.toNat_natCast, Nat.min_eq_left hn]
  exact wu64_id (Int.mul_nonneg hx (Int.pow_nonneg (by omega))) h

theorem ev_Int (a most : Int) (hm : 0 ≤ most) (hm2 : most < 4611686018427387904) : Ev (fun k => whole_Int_Int k (W a) most) (if a.natAbs ≤ most then (a, true) else (0, false)) := by
  have fin : ∀ v : Int, v = a.natAbs → (if v ≤ most then (cond (W a).1 (-v) v, true) else (0, false)) = (if (a.natAbs : Int) ≤ most then (a, true) else (0, false)) := by
    intro v hv
    subst hv
    have : cond (W a).1 (-(a.natAbs : Int)) (a.natAbs : Int) = a := by
      rw [W_neg]
      by_cases h : a < 0
      · simp [h]; omega
      · simp [h]; omega
    rw [this]
  rcases Nat.eq_zero_or_pos a.natAbs with h0 | h0
  · have hd : (W a).2 = [] := by show digs _ _ = _; rw [h0]; rfl
    refine .step (fun k => whole_Int_Int_eq k _ _) (.nk (by rw [hd]; simp) ?_)
    rw [hd]
    refine .to (ev_Int_c5 most 0 (W a) [] hm hm2 (by omega) (by omega)) (fin 0 (by omega))
  · rcases Nat.lt_or_ge a.natAbs 4294967296 with h1 | h1
    · have hd : (W a).2 = [(a.natAbs : Int)] := digs_one h0 h1
      refine .step (fun k => whole_Int_Int_eq k _ _) (.nk (by rw [hd]; simp) ?_)
      rw [hd]
      have e0 : wi64 (32 * 0) = 0 := wi64_id (by omega) (by omega)
      refine .step (fun k => whole_Int_Int_c5_eq k _ _ _ _ _ _) (.ck (by simp) (.ck (by omega) (.ck (by simp) ?_)))
      rw [e0]
      refine .ck (by omega) ?_
      have e1 : bitsI .or .u64 0 (shlI .u64 (wu64 ([(a.natAbs : Int)].getD (0 : Int).toNat 0)) 0) = (a.natAbs : Int) := by
        show bitsI .or .u64 0 (shlI .u64 (wu64 (a.natAbs : Int)) 0) = _
        rw [wu64_id (by omega) (by omega), shl_id (i := 0) 0 (by rfl) (by omega) (by omega) (by simp; omega)]
        have := or_add (k := .u64) (x := 0) (y := (a.natAbs : Int)) (i := 64) rfl (by omega) (by omega) (by simp [IntKind.bits]; omega) (by simp; omega)
        simpa using this
      have e2 : wi64 (0 + 1) = (([(a.natAbs : Int)].length : Nat) : Int) := wi64_id (by omega) (by omega)
      rw [e1, e2]
      exact .to (ev_Int_c5 most _ (W a) _ hm hm2 (by omega) (by omega)) (fin _ rfl)
    · rcases Nat.lt_or_ge a.natAbs 18446744073709551616 with h2 | h2
      · have hd : (W a).2 = [((a.natAbs % 4294967296 : Nat) : Int), ((a.natAbs / 4294967296 : Nat) : Int)] := digs_two h1 h2
        refine .step (fun k => whole_Int_Int_eq k _ _) (.nk (by rw [hd]; simp) ?_)
        rw [hd]
        generalize hx : a.natAbs % 4294967296 = x
        generalize hy : a.natAbs / 4294967296 = y
        have e0 : wi64 (32 * 0) = 0 := wi64_id (by omega) (by omega)
        refine .step (fun k => whole_Int_Int_c5_eq k _ _ _ _ _ _) (.ck (by simp) (.ck (by omega) (.ck (by simp) ?_)))
        rw [e0]
        refine .ck (by omega) ?_
        have e1 : bitsI .or .u64 0 (shlI .u64 (wu64 ([(x : Int), (y : Int)].getD (0 : Int).toNat 0)) 0) = (x : Int) := by
          show bitsI .or .u64 0 (shlI .u64 (wu64 (x : Int)) 0) = _
          rw [wu64_id (by omega) (by omega), shl_id (i := 0) 0 (by rfl) (by omega) (by omega) (by simp; omega)]
          have := or_add (k := .u64) (x := 0) (y := (x : Int)) (i := 64) rfl (by omega) (by omega) (by simp [IntKind.bits]; omega) (by simp; omega)
          simpa using this
        have e2 : wi64 (0 + 1) = 1 := wi64_id (by omega) (by omega)
        rw [e1, e2]
        have e3 : wi64 (32 * 1) = 32 := wi64_id (by omega) (by omega)
        refine .step (fun k => whole_Int_Int_c5_eq k _ _ _ _ _ _) (.ck (by simp) (.ck (by omega) (.ck (by simp) ?_)))
        rw [e3]
        refine .ck (by omega) ?_
        have e4 : bitsI .or .u64 (x : Int) (shlI .u64 (wu64 ([(x : Int), (y : Int)].getD (1 : Int).toNat 0)) 32) = (a.natAbs : Int) := by
          show bitsI .or .u64 (x : Int) (shlI .u64 (wu64 (y : Int)) 32) = _
          rw [wu64_id (by omega) (by omega), shl_id (i := 32) 32 (by rfl) (by omega) (by omega) (by omega)]
          have := or_add (k := .u64) (x := (y : Int)) (y := (x : Int)) (i := 32) rfl (by omega) (by omega) (by simp [IntKind.bits]; omega) (by simp; omega)
          rw [bits_or rfl (by omega) (by simp [IntKind.bits]; omega) (by omega) (by simp [IntKind.bits]; omega), Nat.or_comm, ← bits_or (k := .u64) rfl (by omega) (by simp [IntKind.bits]; omega) (by omega) (by simp [IntKind.bits]; omega), this]
          omega
        have e5 : wi64 (1 + 1) = (([(x : Int), (y : Int)].length : Nat) : Int) := wi64_id (by omega) (by omega)
        rw [e4, e5]
        exact .to (ev_Int_c5 most _ (W a) _ hm hm2 (by omega) (by omega)) (fin _ rfl)
      · have hl : 2 < (W a).2.length := digs_len_ge (b := 4294967296) (by decide) (m := 2) h2
        exact .step (fun k => whole_Int_Int_eq k _ _) (.ck (by omega) (.to (.pure _) (by rw [if_neg (by omega)])))

/-! ### products -/
theorem ev_Times_c7 (a b : Bool × List Int) (s4 : Bool × List Int) (hb : Dg 4294967296 b.2) (x : Int) (hx : 0 ≤ x) (hx2 : x < 4294967296) (i : Nat) (hlen : i + b.2.length < 1099511627776) (s20 : List Int) (s21 s22 : Int) : ∀ (m j : Nat) (out : List Int) (c : Int), b.2.length - j = m → j ≤ b.2.length → i + b.2.length < out.length → Dg 4294967296 out → 0 ≤ c → c < 4294967296 → (∀ p, i + b.2.length ≤ p → out.getD p 0 = 0) →
    ∃ out2, out2.length = out.length ∧ Dg 4294967296 out2 ∧ (∀ p, i + b.2.length + 1 ≤ p → out2.getD p 0 = 0) ∧ Vb 4294967296 out2 = Vb 4294967296 out + 4294967296 ^ (i + j) * (c + x * Vb 4294967296 (b.2.drop j)) ∧
      ∀ y, Ev (fun k => whole_Int_Times_c3 k a b s4 out2 s20 s21 (wi64 (s22 + 1))) y → Ev (fun k => whole_Int_Times_c7 k a b s4 out (i : Int) x c s20 s21 s22 b.2 (b.2.length : Int) (j : Int)) y := by
  intro m
  induction m with
  | zero =>
    intro j out c hm hj hol hd hc hc2 hz
    have hj' : j = b.2.length := by omega
    subst hj'
    have e1 : wi64 ((i : Int) + (b.2.length : Int)) = ((i + b.2.length : Nat) : Int) := by rw [wi64_id (by omega) (by omega)]; rfl
    refine ⟨out.set (i + b.2.length) (wu32 c), by simp, ?_, fun p hp => ?_, ?_, fun y hy => ?_⟩
    · rw [wu32_id hc hc2]
      exact hd.set _ hc hc2
    · rw [List.getD_eq_getElem?_getD, List.getElem?_set_ne (by omega), ← List.getD_eq_getElem?_getD]
      exact hz p (by omega)
    · rw [Vb_set _ _ _ _ hol, wu32_id hc hc2, hz _ (Nat.le_refl _), List.drop_length]
      simp [Vb]
    · refine .step (fun k => whole_Int_Times_c7_eq k _ _ _ _ _ _ _ _ _ _ _ _ _) (.nk (by omega) ?_)
      rw [e1]
      exact .ck (by omega) (.ck (by omega) (by rw [Int.toNat_natCast]; exact hy))
  | succ m ih =>
    intro j out c hm hj hol hd hc hc2 hz
    have hlt : j < b.2.length := by omega
    have hy := hb.at (by omega) j
    have ho := hd.at (by omega) (i + j)
    have hti : ((j : Int)).toNat = j := Int.toNat_natCast j
    have e1 : wi64 ((i : Int) + (j : Int)) = ((i + j : Nat) : Int) := by rw [wi64_id (by omega) (by omega)]; rfl
    have e2 : wi64 ((j : Int) + 1) = ((j + 1 : Nat) : Int) := by rw [wi64_id (by omega) (by omega)]; rfl
    rw [drop_cons hlt]
    generalize hye : b.2.getD j 0 = y at *
    generalize hoe : out.getD (i + j) 0 = o at *
    have hxy0 : 0 ≤ x * y := Int.mul_nonneg hx hy.1
    have hxy : x * y ≤ 4294967295 * 4294967295 := Int.le_trans (Int.mul_le_mul_of_nonneg_right (show x ≤ 4294967295 by omega) hy.1) (Int.mul_le_mul_of_nonneg_left (show y ≤ 4294967295 by omega) (by omega))
    have et : wu64 (c + wu64 (wu64 o + wu64 (wu64 x * wu64 y))) = c + (o + x * y) := by
      rw [wu64_id (x := x) hx (by omega), wu64_id (x := y) hy.1 (by omega), wu64_id (x := o) ho.1 (by omega), wu64_id (x := x * y) hxy0 (by omega), wu64_id (x := o + x * y) (by omega) (by omega), wu64_id (by omega) (by omega)]
    generalize hp : x * y = p at *
    obtain ⟨out2, q1, q2, q3, q4, q5⟩ := ih (j + 1) (out.set (i + j) ((c + (o + p)) % 4294967296)) ((c + (o + p)) / 4294967296) (by omega) (by omega) (by simpa using hol) (hd.set _ (by omega) (by omega)) (by omega) (by omega) (fun r hr => by
      rw [List.getD_eq_getElem?_getD, List.getElem?_set_ne (by omega), ← List.getD_eq_getElem?_getD]
      exact hz r hr)
    refine ⟨out2, by simpa using q1, q2, q3, ?_, fun z hz' => ?_⟩
    · rw [q4, Vb_set _ _ _ _ (by omega), hoe, ← Nat.add_assoc, Int.pow_succ]
      simp only [Vb]
      rw [Int.add_assoc, pow_step]
      congr 2
      rw [Int.mul_add x, hp, ← Int.mul_assoc x, Int.mul_comm x 4294967296, Int.mul_assoc]
      generalize x * Vb 4294967296 (b.2.drop (j + 1)) = q
      omega
    · refine .step (fun k => whole_Int_Times_c7_eq k _ _ _ _ _ _ _ _ _ _ _ _ _) (.ck (by omega) (.ck (by omega) (.ck (by omega) ?_)))
      rw [e1]
      refine .ck (by omega) (.ck (by omega) (.ck (by omega) (.ck (by omega) ?_)))
      rw [hti, Int.toNat_natCast, hye, hoe, et, shr32, wu32_mod, e2]
      exact q5 z hz'

theorem ev_Times_c3 (a b : Bool × List Int) (s4 : Bool × List Int) (ha : Dg 4294967296 a.2) (hb : Dg 4294967296 b.2) (hlen : a.2.length + b.2.length < 1099511627776) : ∀ (m i : Nat) (out : List Int), a.2.length - i = m → i ≤ a.2.length → out.length = a.2.length + b.2.length → Dg 4294967296 out → (∀ p, i + b.2.length ≤ p → out.getD p 0 = 0) →
    Ev (fun k => whole_Int_Times_c3 k a b s4 out a.2 (a.2.length : Int) (i : Int)) (W (cond (!(a.1 == b.1)) (-(Vb 4294967296 out + 4294967296 ^ i * (Vb 4294967296 (a.2.drop i) * Vb 4294967296 b.2))) (Vb 4294967296 out + 4294967296 ^ i * (Vb 4294967296 (a.2.drop i) * Vb 4294967296 b.2)))) := by
  intro m
  induction m with
  | zero =>
    intro i out hm hi hol hd hz
    have hi' : i = a.2.length := by omega
    subst hi'
    refine .step (fun k => whole_Int_Times_c3_eq k _ _ _ _ _ _ _) (.nk (by omega) (.ret (ev_made _ out (by omega) hd) ?_))
    rw [List.drop_length]
    simp [Vb]
  | succ m ih =>
    intro i out hm hi hol hd hz
    have hlt : i < a.2.length := by omega
    have hx := ha.at (by omega) i
    have hti : ((i : Int)).toNat = i := Int.toNat_natCast i
    have e2 : wi64 ((i : Int) + 1) = ((i + 1 : Nat) : Int) := by rw [wi64_id (by omega) (by omega)]; rfl
    obtain ⟨out2, q1, q2, q3, q4, q5⟩ := ev_Times_c7 a b s4 hb (a.2.getD i 0) hx.1 hx.2 i (by omega) a.2 (a.2.length : Int) (i : Int) _ 0 out 0 rfl (by omega) (by omega) hd (by omega) (by omega) hz
    refine .step (fun k => whole_Int_Times_c3_eq k _ _ _ _ _ _ _) (.ck (by omega) (.ck (by omega) (.ck (by omega) ?_)))
    rw [hti]
    refine q5 _ ?_
    rw [e2]
    refine .to (ih (i + 1) out2 (by omega) (by omega) (by omega) q2 (fun p hp => q3 p (by omega))) ?_
    have hv : Vb 4294967296 out2 + 4294967296 ^ (i + 1) * (Vb 4294967296 (a.2.drop (i + 1)) * Vb 4294967296 b.2) = Vb 4294967296 out + 4294967296 ^ i * (Vb 4294967296 (a.2.drop i) * Vb 4294967296 b.2) := by
      rw [q4, drop_cons hlt, Int.pow_succ]
      simp only [Vb, Nat.add_zero, List.drop_zero]
      rw [Int.add_assoc, pow_step, Int.add_mul, Int.zero_add, Int.mul_assoc]
    rw [hv]

theorem ev_Times (a b : Int) (ha : Sm a) (hb : Sm b) : Ev (fun k => whole_Int_Times k (W a) (W b)) (W (a * b)) := by
  have la := ha.len
  have lb := hb.len
  have e1 : wi64 (((W a).2.length : Int) + ((W b).2.length : Int)) = (((W a).2.length + (W b).2.length : Nat) : Int) := by rw [wi64_id (by omega) (by omega)]; rfl
  refine .step (fun k => whole_Int_Times_eq k _ _) ?_
  rw [e1, Int.toNat_natCast]
  have hz : ∀ n p : Nat, (List.replicate n (0 : Int)).getD p 0 = 0 := by
    intro n p
    rw [List.getD_eq_getElem?_getD, List.getElem?_replicate]
    split <;> rfl
  refine .ck (by omega) (.ck (by omega) (.to (ev_Times_c3 (W a) (W b) (false, []) (W_dg a) (W_dg b) (by omega) _ 0 _ rfl (by omega) (by simp) (.zeros (by omega) _) (fun p _ => hz _ p)) ?_))
  rw [Vb_zeros]
  simp only [List.drop_zero, W_V, W_neg]
  congr 1
  have hn : ((a.natAbs : Int) * (b.natAbs : Int)) = ((a * b).natAbs : Int) := by rw [Int.natAbs_mul]; push_cast; rfl
  rw [hn]
  simp only [Int.pow_zero, Int.one_mul, Int.zero_add]
  by_cases h1 : a < 0
  · by_cases h2 : b < 0
    · have := Int.mul_pos_of_neg_of_neg h1 h2
      simp [h1, h2]
      omega
    · have : a * b ≤ 0 := Int.mul_nonpos_of_nonpos_of_nonneg (by omega) (by omega)
      simp [h1, h2]
      omega
  · by_cases h2 : b < 0
    · have : a * b ≤ 0 := Int.mul_nonpos_of_nonneg_of_nonpos (by omega) (by omega)
      simp [h1, h2]
      omega
    · have : 0 ≤ a * b := Int.mul_nonneg (by omega) (by omega)
      simp [h1, h2]
      omega

theorem ev_Power_c3 (s2 : Bool × List Int) (n : Nat) (hn : n ≤ 60) : ∀ (m i : Nat), n - i = m → i ≤ n → Ev (fun k => whole_Power_c3 k s2 (W (10 ^ i)) (n : Int) (i : Int)) (W (10 ^ n)) := by
  intro m
  induction m with
  | zero =>
    intro i hm hi
    have hi' : i = n := by omega
    subst hi'
    exact .step (fun k => whole_Power_c3_eq k _ _ _ _) (.nk (by omega) (.pure _))
  | succ m ih =>
    intro i hm hi
    have e2 : wi64 ((i : Int) + 1) = ((i + 1 : Nat) : Int) := by rw [wi64_id (by omega) (by omega)]; rfl
    refine .step (fun k => whole_Power_c3_eq k _ _ _ _) (.ck (by omega) (.bind (ev_Of 10 (by omega) (by omega)) (.bind (ev_Times (10 ^ i) 10 (.of ?_) (.of (by decide))) ?_)))
    · have h1 : (10 : Nat) ^ i ≤ 10 ^ 60 := Nat.pow_le_pow_right (by omega) (by omega)
      have h2 : ((10 : Int) ^ i).natAbs = 10 ^ i := by rw [Int.natAbs_pow]; rfl
      rw [h2]
      exact h1
    · rw [e2, ← Int.pow_succ]
      exact ih (i + 1) (by omega) (by omega)
theorem ev_Power (n : Nat) (hn : n ≤ 60) : Ev (fun k => whole_Power k (n : Int)) (W (10 ^ n)) :=
  .step (fun k => whole_Power_eq k _) (.bind (ev_Of 1 (by omega) (by omega)) (ev_Power_c3 _ n hn _ 0 rfl (by omega)))
end Go.Proofs.Ytoiahmmockgcbaa.Eq
