/- What the functions of this law compute, part 1. -/
import Derived.Test.YtognnibmcifjeaaDoorRaEq
import Derived.Lib.Strings
import Derived.Lib.ItoaNum
import Derived.Lib.Repeat
import Derived.Lib.SlTrimSet
import Derived.Lib.IndexBytes
import Derived.Lib.Replace
import Derived.Lib.Split
namespace Go.Proofs.YtognnibmcifjeaaDoor.Eq
open Go Go.Ra
set_option linter.unusedVariables false

theorem dV (n : Nat) : Vb 4294967296 (digs 4294967296 n) = n := digs_V (b := 4294967296) (by decide) n
theorem dD (n : Nat) : Dg 4294967296 (digs 4294967296 n) := digs_dg (b := 4294967296) (by decide) n
theorem dE {l : List Int} (h : Dg 4294967296 l) (h2 : l.getLast? ≠ some 0) : l = digs 4294967296 (Vb 4294967296 l).toNat := digs_eq (b := 4294967296) (by decide) h h2

theorem pow_step (p d c b : Int) : p * d + p * b * c = p * (d + b * c) := by rw [Int.mul_add, Int.mul_assoc]

theorem ev_trimmed_c1 : ∀ (n : Nat) (l : List Int), l.length = n → n < 1099511627776 → Dg 4294967296 l → Ev (fun k => whole_trimmed_c1 k l) (digs 4294967296 (Vb 4294967296 l).toNat) := by
  intro n
  induction n with
  | zero =>
    intro l hl _ _
    have : l = [] := by simpa using hl
    subst this
    refine .step (fun k => whole_trimmed_c1_eq k _) (.tt (by simp) (.tt (by simp) (.ff (by simp) ?_)))
    exact .pure _
  | succ n ih =>
    intro l hl hn hd
    obtain ⟨m, x, rfl⟩ : ∃ m x, l = m ++ [x] := by
      rcases List.eq_nil_or_concat l with rfl | ⟨m, x, rfl⟩
      · simp at hl
      · exact ⟨m, x, by simp⟩
    have hm : m.length = n := by simpa using hl
    have e : wi64 (((m ++ [x]).length : Int) - 1) = (n : Int) := by
      rw [hl, wi64_id (by omega) (by omega)]
      omega
    refine .step (fun k => whole_trimmed_c1_eq k _) ?_
    rw [e, hl]
    have hg : (m ++ [x]).getD ((n : Int)).toNat 0 = x := by
      rw [Int.toNat_natCast, List.getD_eq_getElem?_getD, ← hm]
      simp
    have ht : (m ++ [x]).take ((n : Int)).toNat = m := by
      rw [Int.toNat_natCast, ← hm]
      simp
    rw [hg, ht]
    refine .tt (by simp) (.tt (by simp; omega) ?_)
    by_cases hx : x = 0
    · subst hx
      refine .tt (by simp) (.ck (by omega) (.ck (by omega) ?_))
      have := ih m hm (by omega) (fun y hy => hd y (by simp [hy]))
      rw [Vb_append, Vb_one, Int.mul_zero, Int.add_zero]
      exact this
    · refine .ff (by simp [hx]) ?_
      rw [← dE hd (by simpa using hx)]
      exact .pure _

theorem ev_trimmed (l : List Int) (hn : l.length < 1099511627776) (hd : Dg 4294967296 l) : Ev (fun k => whole_trimmed k l) (digs 4294967296 (Vb 4294967296 l).toNat) :=
  .step (fun k => whole_trimmed_eq k l) (ev_trimmed_c1 _ l rfl hn hd)

/-- The canonical form of a number. -/
def W (n : Int) : Bool × List Int := (decide (n < 0), digs 4294967296 n.natAbs)

theorem digs_len_pos {b n : Nat} (hb : 2 ≤ b) : decide (((digs b n).length : Int) > 0) = decide (0 < n) := by
  rcases Nat.eq_zero_or_pos n with rfl | h
  · simp [digs_zero]
  · rw [digs_pos hb h]
    simp [h]

theorem ev_made (s : Bool) (l : List Int) (hn : l.length < 1099511627776) (hd : Dg 4294967296 l) : Ev (fun k => whole_made k s l) (W (cond s (-(Vb 4294967296 l)) (Vb 4294967296 l))) := by
  refine .step (fun k => whole_made_eq k s l) (.bind (ev_trimmed l hn hd) ?_)
  refine .to (.pure _) ?_
  have hv := Vb_nonneg (b := 4294967296) (by omega) hd
  generalize Vb 4294967296 l = v at *
  obtain ⟨m, rfl⟩ : ∃ m : Nat, v = m := ⟨v.toNat, by omega⟩
  unfold W
  rw [digs_len_pos (by omega)]
  cases s with
  | true => simp
  | false => simp

theorem W_neg (n : Int) : (W n).1 = decide (n < 0) := rfl
theorem W_dg (n : Int) : Dg 4294967296 (W n).2 := dD _
theorem W_V (n : Int) : Vb 4294967296 (W n).2 = n.natAbs := dV _

/-- Of fewer than a hundred digits. -/
def Sm (n : Int) : Prop := n.natAbs < 4294967296 ^ 100
theorem Sm.len {n : Int} (h : Sm n) : (W n).2.length ≤ 100 := digs_len (by omega) 100 _ h
theorem Sm.of {n : Int} (h : n.natAbs ≤ 10 ^ 130) : Sm n := Nat.lt_of_le_of_lt h (by decide)

theorem ev_Of (n : Int) (h1 : -9223372036854775808 ≤ n) (h2 : n < 9223372036854775808) : Ev (fun k => whole_Of k n) (W n) := by
  refine .step (fun k => whole_Of_eq k n) ?_
  have key : ∀ (s : Bool) (u : Int), 0 ≤ u → u < 18446744073709551616 → Ev (fun k => whole_made k s [wu32 u, wu32 (shrI .u64 u 32)]) (W (cond s (-u) u)) := by
    intro s u hu hu2
    have h := ev_made s [wu32 u, wu32 (shrI .u64 u 32)] (by simp) (by
      rw [wu32_mod, wu32_mod]
      exact .mk (by omega) (by omega) (.mk (by omega) (by omega) .nil))
    have e : Vb 4294967296 [wu32 u, wu32 (shrI .u64 u 32)] = u := by
      rw [shr32, wu32_mod, wu32_mod]
      simp only [Vb]
      omega
    rw [e] at h
    exact h
  refine .dec (fun h => ?_) (fun h => ?_)
  · have e : wu64 (0 - wu64 n) = -n := by rw [wu64_mod, wu64_mod]; omega
    rw [e]
    have := key (decide (n < 0)) (-n) (by omega) (by omega)
    refine .ret this ?_
    simp [h]
  · have e : wu64 n = n := by rw [wu64_mod]; omega
    rw [e]
    refine .ret (key (decide (n < 0)) n (by omega) (by omega)) ?_
    simp [h]

theorem drop_cons {l : List Int} {i : Nat} (h : i < l.length) : l.drop i = l.getD i 0 :: l.drop (i + 1) := by
  rw [List.drop_eq_getElem_cons h, List.getD_eq_getElem?_getD, List.getElem?_eq_getElem h]
  rfl

theorem ev_sum_c6 (a b : List Int) (ha : Dg 4294967296 a) (hb : Dg 4294967296 b) (hl : b.length ≤ a.length) (hn : a.length < 1099511627776) : ∀ (m i : Nat) (out : List Int) (c : Int), a.length - i = m → i ≤ a.length → out.length = i → Dg 4294967296 out → 0 ≤ c → c ≤ 1 →
    ∃ s, Ev (fun k => whole_sum_c6 k b out c a (a.length : Int) (i : Int)) s ∧ Dg 4294967296 s ∧ s.length = a.length + 1 ∧ Vb 4294967296 s = Vb 4294967296 out + 4294967296 ^ i * (c + Vb 4294967296 (a.drop i) + Vb 4294967296 (b.drop i)) := by
  intro m
  induction m with
  | zero =>
    intro i out c hm hi ho hd hc hc1
    have hi' : i = a.length := by omega
    subst hi'
    refine ⟨out ++ [wu32 c], ?_, ?_, by simp [ho], ?_⟩
    · refine .step (fun k => whole_sum_c6_eq k _ _ _ _ _ _) (.nk (by omega) (.ck (by omega) (.pure _)))
    · rw [wu32_id (by omega) (by omega)]
      exact hd.append (.mk hc (by omega) .nil)
    · rw [wu32_id (by omega) (by omega), Vb_append, Vb_one, ho, List.drop_length, List.drop_of_length_le hl]
      simp [Vb]
  | succ m ih =>
    intro i out c hm hi ho hd hc hc1
    have hlt : i < a.length := by omega
    have hx := ha.at (by omega) i
    have hti : ((i : Int)).toNat = i := Int.toNat_natCast i
    have e1 : wi64 ((i : Int) + 1) = ((i + 1 : Nat) : Int) := by rw [wi64_id (by omega) (by omega)]; rfl
    rw [drop_cons hlt]
    generalize hxe : a.getD i 0 = x at *
    by_cases hb2 : i < b.length
    · have hy := hb.at (by omega) i
      rw [drop_cons hb2]
      generalize hye : b.getD i 0 = y at *
      have et : wu64 (wu64 (c + wu64 x) + wu64 y) = c + x + y := by
        rw [wu64_id (x := x) (by omega) (by omega), wu64_id (x := c + x) (by omega) (by omega), wu64_id (x := y) (by omega) (by omega), wu64_id (by omega) (by omega)]
      obtain ⟨s, q1, q2, q3, q4⟩ := ih (i + 1) (out ++ [(c + x + y) % 4294967296]) ((c + x + y) / 4294967296) (by omega) (by omega) (by simp [ho]) (hd.append (.mk (by omega) (by omega) .nil)) (by omega) (by omega)
      refine ⟨s, ?_, q2, q3, ?_⟩
      · refine .step (fun k => whole_sum_c6_eq k _ _ _ _ _ _) (.ck (by omega) (.ck (by omega) (.ck (by omega) (.ck (by omega) (.ck (by omega) (.ck (by omega) (.ck (by omega) ?_)))))))
        rw [hti, hxe, hye, et, shr32, wu32_mod, e1]
        exact q1
      · rw [q4, Vb_append, Vb_one, ho, Int.pow_succ]
        simp only [Vb]
        rw [Int.add_assoc, pow_step]
        congr 2
        omega
    · have et : wu64 (c + wu64 x) = c + x := by
        rw [wu64_id (x := x) (by omega) (by omega), wu64_id (x := c + x) (by omega) (by omega)]
      rw [List.drop_of_length_le (show b.length ≤ i by omega)]
      obtain ⟨s, q1, q2, q3, q4⟩ := ih (i + 1) (out ++ [(c + x) % 4294967296]) ((c + x) / 4294967296) (by omega) (by omega) (by simp [ho]) (hd.append (.mk (by omega) (by omega) .nil)) (by omega) (by omega)
      refine ⟨s, ?_, q2, q3, ?_⟩
      · refine .step (fun k => whole_sum_c6_eq k _ _ _ _ _ _) (.ck (by omega) (.ck (by omega) (.ck (by omega) (.nk (by omega) (.ck (by omega) ?_)))))
        rw [hti, hxe, et, shr32, wu32_mod, e1]
        exact q1
      · rw [q4, Vb_append, Vb_one, ho, Int.pow_succ, List.drop_of_length_le (show b.length ≤ i + 1 by omega)]
        simp only [Vb]
        rw [Int.add_assoc, pow_step]
        congr 2
        omega

theorem ev_sum_c3 (a b : List Int) (ha : Dg 4294967296 a) (hb : Dg 4294967296 b) (hl : b.length ≤ a.length) (hn : a.length < 549755813888) :
    ∃ s, Ev (fun k => whole_sum_c3 k a b) s ∧ Dg 4294967296 s ∧ s.length = a.length + 1 ∧ Vb 4294967296 s = Vb 4294967296 a + Vb 4294967296 b := by
  obtain ⟨s, q1, q2, q3, q4⟩ := ev_sum_c6 a b ha hb hl (by omega) _ 0 [] 0 rfl (by omega) rfl .nil (by omega) (by omega)
  refine ⟨s, ?_, q2, q3, ?_⟩
  · have e : wi64 ((a.length : Int) + 1) = (a.length : Int) + 1 := wi64_id (by omega) (by omega)
    refine .step (fun k => whole_sum_c3_eq k _ _) ?_
    rw [e]
    exact .ck (by omega) (.ck (by omega) q1)
  · rw [q4]
    simp [Vb]

theorem ev_sum (a b : List Int) (ha : Dg 4294967296 a) (hb : Dg 4294967296 b) (h1 : a.length < 549755813888) (h2 : b.length < 549755813888) :
    ∃ s, Ev (fun k => whole_sum k a b) s ∧ Dg 4294967296 s ∧ s.length = max a.length b.length + 1 ∧ Vb 4294967296 s = Vb 4294967296 a + Vb 4294967296 b := by
  by_cases h : a.length < b.length
  · obtain ⟨s, q1, q2, q3, q4⟩ := ev_sum_c3 b a hb ha (by omega) h2
    exact ⟨s, .step (fun k => whole_sum_eq k a b) (.ck (by omega) q1), q2, by omega, by omega⟩
  · obtain ⟨s, q1, q2, q3, q4⟩ := ev_sum_c3 a b ha hb (by omega) h1
    exact ⟨s, .step (fun k => whole_sum_eq k a b) (.nk (by omega) q1), q2, by omega, q4⟩

theorem ev_compare_c4 (a b : List Int) (ha : Dg 4294967296 a) (hb : Dg 4294967296 b) (hl : a.length = b.length) (hn : a.length < 1099511627776) : ∀ n : Nat, n ≤ a.length → a.drop n = b.drop n →
    ∃ r, Ev (fun k => whole_compare_c4 k a b ((n : Int) - 1)) r ∧ (0 ≤ r ↔ Vb 4294967296 b ≤ Vb 4294967296 a) := by
  intro n
  induction n with
  | zero =>
    intro _ he
    refine ⟨0, .step (fun k => whole_compare_c4_eq k _ _ _) (.nk (by omega) (.pure _)), ?_⟩
    have : a = b := by simpa using he
    subst this
    simp
  | succ n ih =>
    intro hle he
    have hlt : n < a.length := by omega
    have hx := ha.at (by omega) n
    have hy := hb.at (by omega) n
    have e0 : (((n + 1 : Nat) : Int) - 1) = (n : Int) := by omega
    have hti : ((n : Int)).toNat = n := Int.toNat_natCast n
    have e1 : wi64 ((n : Int) - 1) = (n : Int) - 1 := wi64_id (by omega) (by omega)
    have va : Vb 4294967296 a = Vb 4294967296 (a.take n) + 4294967296 ^ n * (a.getD n 0 + 4294967296 * Vb 4294967296 (a.drop (n + 1))) := by
      have h := Vb_append 4294967296 (a.take n) (a.drop n)
      rw [List.take_append_drop, drop_cons hlt, List.length_take, Nat.min_eq_left (by omega)] at h
      simpa only [Vb] using h
    have vb : Vb 4294967296 b = Vb 4294967296 (b.take n) + 4294967296 ^ n * (b.getD n 0 + 4294967296 * Vb 4294967296 (b.drop (n + 1))) := by
      have h := Vb_append 4294967296 (b.take n) (b.drop n)
      rw [List.take_append_drop, drop_cons (show n < b.length by omega), List.length_take, Nat.min_eq_left (by omega)] at h
      simpa only [Vb] using h
    have ta := Vb_lt (b := 4294967296) (by omega) (ha.take n)
    have tb := Vb_lt (b := 4294967296) (by omega) (hb.take n)
    have na := Vb_nonneg (b := 4294967296) (by omega) (ha.take n)
    have nb := Vb_nonneg (b := 4294967296) (by omega) (hb.take n)
    rw [List.length_take, Nat.min_eq_left (by omega)] at ta tb
    rw [he] at va
    rw [e0]
    generalize hxe : a.getD n 0 = x at *
    generalize hye : b.getD n 0 = y at *
    have cmp : ∀ u v : Int, u < v → Vb 4294967296 (a.take n) + 4294967296 ^ n * (u + 4294967296 * Vb 4294967296 (b.drop (n + 1))) < 4294967296 ^ n * (v + 4294967296 * Vb 4294967296 (b.drop (n + 1))) := by
      intro u v huv
      have : (4294967296 : Int) ^ n * (u + 4294967296 * Vb 4294967296 (b.drop (n + 1)) + 1) ≤ 4294967296 ^ n * (v + 4294967296 * Vb 4294967296 (b.drop (n + 1))) := Int.mul_le_mul_of_nonneg_left (by omega) (by omega)
      rw [Int.mul_add _ (u + _) 1] at this
      omega
    have cmp' : ∀ u v : Int, u < v → Vb 4294967296 (b.take n) + 4294967296 ^ n * (u + 4294967296 * Vb 4294967296 (b.drop (n + 1))) < 4294967296 ^ n * (v + 4294967296 * Vb 4294967296 (b.drop (n + 1))) := by
      intro u v huv
      have : (4294967296 : Int) ^ n * (u + 4294967296 * Vb 4294967296 (b.drop (n + 1)) + 1) ≤ 4294967296 ^ n * (v + 4294967296 * Vb 4294967296 (b.drop (n + 1))) := Int.mul_le_mul_of_nonneg_left (by omega) (by omega)
      rw [Int.mul_add _ (u + _) 1] at this
      omega
    by_cases hxy : x = y
    · subst hxy
      obtain ⟨r, q1, q2⟩ := ih (by omega) (by rw [drop_cons hlt, drop_cons (show n < b.length by omega), hxe, hye, he])
      refine ⟨r, ?_, q2⟩
      refine .step (fun k => whole_compare_c4_eq k _ _ _) (.ck (by omega) (.ck (by omega) (.ck (by omega) (.ck (by omega) (.ck (by omega) (.ff (by rw [hti, hxe, hye]; simp) ?_))))))
      rw [e1]
      exact q1
    · have pre : ∀ r, Ev (fun k => Bool.rec (some (1 : Int)) (some (-1)) (decide (x < y))) r → Ev (fun k => whole_compare_c4 k a b (n : Int)) r := by
        intro r hr
        refine .step (fun k => whole_compare_c4_eq k _ _ _) (.ck (by omega) (.ck (by omega) (.ck (by omega) (.ck (by omega) (.ck (by omega) (.tt (by rw [hti, hxe, hye]; simpa using hxy) (.ck (by omega) (.ck (by omega) (.ck (by omega) (.ck (by omega) ?_))))))))))
        rw [hti, hxe, hye]
        refine .dec (fun h => ?_) (fun h => ?_)
        · simpa [h] using hr
        · simpa [h] using hr
      by_cases h : x < y
      · refine ⟨-1, pre _ (by simp [h]; exact .pure _), ?_⟩
        have := cmp x y h
        constructor
        · omega
        · omega
      · refine ⟨1, pre _ (by simp [h]; exact .pure _), ?_⟩
        have := cmp' y x (by omega)
        constructor
        · omega
        · omega

theorem ev_compare (a b : Nat) (ha : (digs 4294967296 a).length < 1099511627776) (hb : (digs 4294967296 b).length < 1099511627776) :
    ∃ r, Ev (fun k => whole_compare k (digs 4294967296 a) (digs 4294967296 b)) r ∧ (0 ≤ r ↔ b ≤ a) := by
  by_cases h : (digs 4294967296 a).length = (digs 4294967296 b).length
  · obtain ⟨r, q1, q2⟩ := ev_compare_c4 _ _ (dD a) (dD b) h ha (digs 4294967296 a).length (Nat.le_refl _) (by rw [List.drop_length, h, List.drop_length])
    refine ⟨r, .step (fun k => whole_compare_eq k _ _) (.ff (by simp [h]) ?_), ?_⟩
    · rw [wi64_id (by omega) (by omega)]
      exact q1
    · rw [q2, dV, dV]
      omega
  · refine ⟨_, .step (fun k => whole_compare_eq k _ _) (.tt (by simp; omega) (.pure _)), ?_⟩
    rw [wi64_id (by omega) (by omega)]
    rcases Nat.lt_or_ge (digs 4294967296 a).length (digs 4294967296 b).length with z | z
    · have := digs_lt_of_len (b := 4294967296) (by decide) z
      omega
    · have := digs_lt_of_len (b := 4294967296) (by decide) (show (digs 4294967296 b).length < (digs 4294967296 a).length by omega)
      omega

theorem ev_less_c4 (a b : List Int) (ha : Dg 4294967296 a) (hb : Dg 4294967296 b) (hl : b.length ≤ a.length) (hn : a.length < 549755813888) : ∀ (m i : Nat) (out : List Int) (c : Int), a.length - i = m → i ≤ a.length → out.length = i → Dg 4294967296 out → 0 ≤ c → c ≤ 1 →
    0 ≤ Vb 4294967296 out + 4294967296 ^ i * (Vb 4294967296 (a.drop i) - Vb 4294967296 (b.drop i) - c) →
    Ev (fun k => whole_less_c4 k b out c a (a.length : Int) (i : Int)) (digs 4294967296 (Vb 4294967296 out + 4294967296 ^ i * (Vb 4294967296 (a.drop i) - Vb 4294967296 (b.drop i) - c)).toNat) := by
  intro m
  induction m with
  | zero =>
    intro i out c hm hi ho hd hc hc1 hp
    have hi' : i = a.length := by omega
    subst hi'
    rw [List.drop_length, List.drop_of_length_le hl] at hp ⊢
    simp only [Vb] at hp ⊢
    have hc0 : c = 0 := by
      have h1 := Vb_lt (b := 4294967296) (by omega) hd
      rw [ho] at h1
      rcases (show c = 0 ∨ c = 1 by omega) with h | h
      · exact h
      · subst h
        exfalso
        rw [show (0 - 0 - 1 : Int) = -1 by omega, Int.mul_neg, Int.mul_one] at hp
        omega
    subst hc0
    refine .step (fun k => whole_less_c4_eq k _ _ _ _ _ _) (.nk (by omega) ?_)
    refine .ret (ev_trimmed out (by omega) hd) ?_
    simp
  | succ m ih =>
    intro i out c hm hi ho hd hc hc1 hp
    have hlt : i < a.length := by omega
    have hx := ha.at (by omega) i
    have hti : ((i : Int)).toNat = i := Int.toNat_natCast i
    have e1 : wi64 ((i : Int) + 1) = ((i + 1 : Nat) : Int) := by rw [wi64_id (by omega) (by omega)]; rfl
    have bor : ∀ t : Int, -4294967296 ≤ t → t < 4294967296 → bitsI .and .u64 (shrI .u64 (t % 18446744073709551616) 32) 1 = (if t < 0 then 1 else 0) ∧ wu32 (t % 18446744073709551616) = t + 4294967296 * (if t < 0 then 1 else 0) := by
      intro t h1 h2
      rw [shr32, and1 rfl (by decide) (by omega) (by simp [IntKind.bits]; omega), wu32_mod]
      split <;> omega
    rw [drop_cons hlt] at hp ⊢
    generalize hxe : a.getD i 0 = x at *
    by_cases hb2 : i < b.length
    · have hy := hb.at (by omega) i
      rw [drop_cons hb2] at hp ⊢
      generalize hye : b.getD i 0 = y at *
      obtain ⟨b1, b2⟩ := bor (x - c - y) (by omega) (by omega)
      have et : wu64 (wu64 (wu64 x - c) - wu64 y) = (x - c - y) % 18446744073709551616 := by
        rw [wu64_id (x := x) (by omega) (by omega), wu64_id (x := y) (by omega) (by omega), wu64_mod, wu64_mod]
        omega
      have hval : Vb 4294967296 (out ++ [x - c - y + 4294967296 * (if x - c - y < 0 then 1 else 0)]) + 4294967296 ^ (i + 1) * (Vb 4294967296 (a.drop (i + 1)) - Vb 4294967296 (b.drop (i + 1)) - (if x - c - y < 0 then 1 else 0)) = Vb 4294967296 out + 4294967296 ^ i * (Vb 4294967296 (x :: a.drop (i + 1)) - Vb 4294967296 (y :: b.drop (i + 1)) - c) := by
        rw [Vb_append, Vb_one, ho, Int.pow_succ]
        simp only [Vb]
        rw [Int.add_assoc, pow_step]
        congr 2
        omega
      rw [← hval] at hp ⊢
      refine .step (fun k => whole_less_c4_eq k _ _ _ _ _ _) (.ck (by omega) (.ck (by omega) (.ck (by omega) (.ck (by omega) (.ck (by omega) (.ck (by omega) (.ck (by omega) ?_)))))))
      rw [hti, hxe, hye, et, b1, b2, e1]
      exact ih (i + 1) _ _ (by omega) (by omega) (by simp [ho]) (hd.append (.mk (by split <;> omega) (by split <;> omega) .nil)) (by split <;> omega) (by split <;> omega) hp
    · obtain ⟨b1, b2⟩ := bor (x - c) (by omega) (by omega)
      have et : wu64 (wu64 x - c) = (x - c) % 18446744073709551616 := by
        rw [wu64_id (x := x) (by omega) (by omega), wu64_mod]
      rw [List.drop_of_length_le (show b.length ≤ i by omega)] at hp ⊢
      have hval : Vb 4294967296 (out ++ [x - c + 4294967296 * (if x - c < 0 then 1 else 0)]) + 4294967296 ^ (i + 1) * (Vb 4294967296 (a.drop (i + 1)) - Vb 4294967296 (b.drop (i + 1)) - (if x - c < 0 then 1 else 0)) = Vb 4294967296 out + 4294967296 ^ i * (Vb 4294967296 (x :: a.drop (i + 1)) - Vb 4294967296 [] - c) := by
        rw [Vb_append, Vb_one, ho, Int.pow_succ, List.drop_of_length_le (show b.length ≤ i + 1 by omega)]
        simp only [Vb]
        rw [Int.add_assoc, pow_step]
        congr 2
        omega
      rw [← hval] at hp ⊢
      refine .step (fun k => whole_less_c4_eq k _ _ _ _ _ _) (.ck (by omega) (.ck (by omega) (.ck (by omega) (.nk (by omega) (.ck (by omega) ?_)))))
      rw [hti, hxe, et, b1, b2, e1]
      exact ih (i + 1) _ _ (by omega) (by omega) (by simp [ho]) (hd.append (.mk (by split <;> omega) (by split <;> omega) .nil)) (by split <;> omega) (by split <;> omega) hp

theorem ev_less (a b : Nat) (ha : (digs 4294967296 a).length < 549755813888) (h : b ≤ a) : Ev (fun k => whole_less k (digs 4294967296 a) (digs 4294967296 b)) (digs 4294967296 (a - b)) := by
  have hl : (digs 4294967296 b).length ≤ (digs 4294967296 a).length := by
    rcases Nat.lt_or_ge (digs 4294967296 a).length (digs 4294967296 b).length with z | z
    · have := digs_lt_of_len (b := 4294967296) (by decide) z
      omega
    · exact z
  have := ev_less_c4 _ _ (dD a) (dD b) hl ha _ 0 [] 0 rfl (by omega) rfl .nil (by omega) (by omega) (by simp [Vb, dV]; omega)
  refine .step (fun k => whole_less_eq k _ _) (.ck (by omega) (.ck (by omega) (.to this ?_)))
  simp only [List.drop_zero, dV, Vb]
  congr 1
  simp

theorem ev_made_digs (s : Bool) (n : Nat) (hn : (digs 4294967296 n).length < 1099511627776) : Ev (fun k => whole_made k s (digs 4294967296 n)) (W (cond s (-(n : Int)) n)) := by
  have := ev_made s _ hn (dD n)
  rwa [dV] at this

theorem ev_Plus (a b : Int) (ha : Sm a) (hb : Sm b) : Ev (fun k => whole_Int_Plus k (W a) (W b)) (W (a + b)) := by
  have la := ha.len
  have lb := hb.len
  refine .step (fun k => whole_Int_Plus_eq k _ _) ?_
  by_cases hs : decide (a < 0) = decide (b < 0)
  · refine .tt (by simpa [W] using hs) ?_
    obtain ⟨s, q1, q2, q3, q4⟩ := ev_sum (W a).2 (W b).2 (W_dg a) (W_dg b) (by omega) (by omega)
    refine .bind q1 (.ret (ev_made (W a).1 s (by omega) q2) ?_)
    rw [q4, W_V, W_V, W_neg]
    congr 1
    have hs' : a < 0 ↔ b < 0 := by simpa using hs
    by_cases h0 : a < 0
    · have := hs'.1 h0
      simp [h0]
      omega
    · have : ¬ b < 0 := fun z => h0 (hs'.2 z)
      simp [h0]
      omega
  · refine .ff (by simpa [W] using hs) ?_
    obtain ⟨r, q1, q2⟩ := ev_compare a.natAbs b.natAbs (show (W a).2.length < _ by omega) (show (W b).2.length < _ by omega)
    have hs' : ¬ (a < 0 ↔ b < 0) := by simpa using hs
    refine .bind q1 (.dec (fun h => ?_) (fun h => ?_))
    · have hba := q2.1 h
      refine .bind (ev_less a.natAbs b.natAbs (show (W a).2.length < _ by omega) hba) (.ret (ev_made_digs (W a).1 _ ?_) ?_)
      · have h1 : a.natAbs < 4294967296 ^ 100 := ha
        have := digs_len (b := 4294967296) (by decide) 100 (a.natAbs - b.natAbs) (by omega)
        omega
      · rw [W_neg]
        congr 1
        by_cases h0 : a < 0
        · simp [h0]
          omega
        · simp [h0]
          omega
    · have hba : a.natAbs < b.natAbs := by
        rcases Nat.lt_or_ge a.natAbs b.natAbs with z | z
        · exact z
        · exact absurd (q2.2 z) h
      refine .bind (ev_less b.natAbs a.natAbs (show (W b).2.length < _ by omega) (by omega)) (.ret (ev_made_digs (W b).1 _ ?_) ?_)
      · have h1 : b.natAbs < 4294967296 ^ 100 := hb
        have := digs_len (b := 4294967296) (by decide) 100 (b.natAbs - a.natAbs) (by omega)
        omega
      · rw [W_neg]
        congr 1
        by_cases h0 : b < 0
        · simp [h0]
          omega
        · simp [h0]
          omega

theorem ev_Minus (a : Int) (ha : Sm a) : Ev (fun k => whole_Int_Minus k (W a)) (W (-a)) := by
  have la := ha.len
  refine .step (fun k => whole_Int_Minus_eq k _) (.ret (ev_made_digs (!(W a).1) a.natAbs (show (W a).2.length < _ by omega)) ?_)
  rw [W_neg]
  congr 1
  by_cases h0 : a < 0
  · simp [h0]
    omega
  · simp [h0]
    omega
theorem Sm.neg {a : Int} (h : Sm a) : Sm (-a) := by unfold Sm at *; omega
theorem ev_Sign (a : Int) : Ev (fun k => whole_Int_Sign k (W a)) a.sign := by
  refine .step (fun k => whole_Int_Sign_eq k _) ?_
  by_cases h0 : a < 0
  · exact .tt (by simpa [W] using h0) (.to (.pure _) (Int.sign_eq_neg_one_of_neg h0).symm)
  · refine .ff (by simpa [W] using h0) ?_
    by_cases hz : a = 0
    · subst hz
      exact .tt (by simp [W, digs_zero]) (.pure _)
    · refine .ff ?_ (.to (.pure _) (Int.sign_eq_one_of_pos (by omega)).symm)
      have := digs_ne (b := 4294967296) (n := a.natAbs) (by decide) (by omega)
      simpa [W] using this
theorem digs_one {n : Nat} (h : 0 < n) (h2 : n < 4294967296) : digs 4294967296 n = [(n : Int)] := by
  rw [digs_pos (by decide) h, Nat.mod_eq_of_lt h2, Nat.div_eq_of_lt h2]
  rfl
theorem digs_two {n : Nat} (h : 4294967296 ≤ n) (h2 : n < 18446744073709551616) : digs 4294967296 n = [((n % 4294967296 : Nat) : Int), ((n / 4294967296 : Nat) : Int)] := by
  rw [digs_pos (by decide) (by omega), digs_one (Nat.div_pos h (by omega)) (by omega)]

theorem ev_Int_c5 (most v : Int) (s2 : Bool × List Int) (l : List Int) (hm : 0 ≤ most) (hm2 : most < 4611686018427387904) (hv : 0 ≤ v) (hv2 : v < 18446744073709551616) :
    Ev (fun k => whole_Int_Int_c5 k most s2 v l (l.length : Int) (l.length : Int)) (if v ≤ most then (cond s2.1 (-v) v, true) else (0, false)) := by
  refine .step (fun k => whole_Int_Int_c5_eq k _ _ _ _ _ _) (.nk (by omega) ?_)
  rw [wu64_id (x := most) hm (by omega)]
  refine .dec (fun h => .to (.pure _) (by rw [if_neg (by omega)])) (fun h => ?_)
  rw [if_pos (by omega)]
  rw [wi64_id (x := v) (by omega) (by omega), wi64_id (x := 0 - v) (by omega) (by omega)]
  refine .cond (fun h => .to (.pure _) (by rw [h]; simp)) (fun h => .to (.pure _) (by rw [h]; simp))

theorem shl_id {x i : Int} (n : Nat) (hi : i = n) (hn : n ≤ 64) (hx : 0 ≤ x) (h : x * 2 ^ n < 18446744073709551616) : shlI .u64 x i = x * 2 ^ n := by
  subst hi
  show wu64 (x * 2 ^ (min ((n : Int)).toNat 64)) = _
  rw [Int.toNat_natCast, Nat.min_eq_left hn]
  exact wu64_id (Int.mul_nonneg hx (Int.pow_nonneg (by omega))) h

theorem ev_Int (a most : Int) (hm : 0 ≤ most) (hm2 : most < 4611686018427387904) : Ev (fun k => whole_Int_Int k (W a) most) (if a.natAbs ≤ most then (a, true) else (0, false)) := by
  have fin : ∀ v : Int, v = a.natAbs → (if v ≤ most then (cond (W a).1 (-v) v, true) else (0, false)) = (if (a.natAbs : Int) ≤ most then (a, true) else (0, false)) := by
    intro v hv
    subst hv
    have : cond (W a).1 (-(a.natAbs : Int)) (a.natAbs : Int) = a := by
      rw [W_neg]
      by_cases h : a < 0
      · simp [h]; omega
      · simp [h]; omega
    rw [this]
  rcases Nat.eq_zero_or_pos a.natAbs with h0 | h0
  · have hd : (W a).2 = [] := by show digs _ _ = _; rw [h0]; rfl
    refine .step (fun k => whole_Int_Int_eq k _ _) (.nk (by rw [hd]; simp) ?_)
    rw [hd]
    refine .to (ev_Int_c5 most 0 (W a) [] hm hm2 (by omega) (by omega)) (fin 0 (by omega))
  · rcases Nat.lt_or_ge a.natAbs 4294967296 with h1 | h1
    · have hd : (W a).2 = [(a.natAbs : Int)] := digs_one h0 h1
      refine .step (fun k => whole_Int_Int_eq k _ _) (.nk (by rw [hd]; simp) ?_)
      rw [hd]
      have e0 : wi64 (32 * 0) = 0 := wi64_id (by omega) (by omega)
      refine .step (fun k => whole_Int_Int_c5_eq k _ _ _ _ _ _) (.ck (by simp) (.ck (by omega) (.ck (by simp) ?_)))
      rw [e0]
      refine .ck (by omega) ?_
      have e1 : bitsI .or .u64 0 (shlI .u64 (wu64 ([(a.natAbs : Int)].getD (0 : Int).toNat 0)) 0) = (a.natAbs : Int) := by
        show bitsI .or .u64 0 (shlI .u64 (wu64 (a.natAbs : Int)) 0) = _
        rw [wu64_id (by omega) (by omega), shl_id (i := 0) 0 (by rfl) (by omega) (by omega) (by simp; omega)]
        have := or_add (k := .u64) (x := 0) (y := (a.natAbs : Int)) (i := 64) rfl (by omega) (by omega) (by simp [IntKind.bits]; omega) (by simp; omega)
        simpa using this
      have e2 : wi64 (0 + 1) = (([(a.natAbs : Int)].length : Nat) : Int) := wi64_id (by omega) (by omega)
      rw [e1, e2]
      exact .to (ev_Int_c5 most _ (W a) _ hm hm2 (by omega) (by omega)) (fin _ rfl)
    · rcases Nat.lt_or_ge a.natAbs 18446744073709551616 with h2 | h2
      · have hd : (W a).2 = [((a.natAbs % 4294967296 : Nat) : Int), ((a.natAbs / 4294967296 : Nat) : Int)] := digs_two h1 h2
        refine .step (fun k => whole_Int_Int_eq k _ _) (.nk (by rw [hd]; simp) ?_)
        rw [hd]
        generalize hx : a.natAbs % 4294967296 = x
        generalize hy : a.natAbs / 4294967296 = y
        have e0 : wi64 (32 * 0) = 0 := wi64_id (by omega) (by omega)
        refine .step (fun k => whole_Int_Int_c5_eq k _ _ _ _ _ _) (.ck (by simp) (.ck (by omega) (.ck (by simp) ?_)))
        rw [e0]
        refine .ck (by omega) ?_
        have e1 : bitsI .or .u64 0 (shlI .u64 (wu64 ([(x : Int), (y : Int)].getD (0 : Int).toNat 0)) 0) = (x : Int) := by
          show bitsI .or .u64 0 (shlI .u64 (wu64 (x : Int)) 0) = _
          rw [wu64_id (by omega) (by omega), shl_id (i := 0) 0 (by rfl) (by omega) (by omega) (by simp; omega)]
          have := or_add (k := .u64) (x := 0) (y := (x : Int)) (i := 64) rfl (by omega) (by omega) (by simp [IntKind.bits]; omega) (by simp; omega)
          simpa using this
        have e2 : wi64 (0 + 1) = 1 := wi64_id (by omega) (by omega)
        rw [e1, e2]
        have e3 : wi64 (32 * 1) = 32 := wi64_id (by omega) (by omega)
        refine .step (fun k => whole_Int_Int_c5_eq k _ _ _ _ _ _) (.ck (by simp) (.ck (by omega) (.ck (by simp) ?_)))
        rw [e3]
        refine .ck (by omega) ?_
        have e4 : bitsI .or .u64 (x : Int) (shlI .u64 (wu64 ([(x : Int), (y : Int)].getD (1 : Int).toNat 0)) 32) = (a.natAbs : Int) := by
          show bitsI .or .u64 (x : Int) (shlI .u64 (wu64 (y : Int)) 32) = _
          rw [wu64_id (by omega) (by omega), shl_id (i := 32) 32 (by rfl) (by omega) (by omega) (by omega)]
          have := or_add (k := .u64) (x := (y : Int)) (y := (x : Int)) (i := 32) rfl (by omega) (by omega) (by simp [IntKind.bits]; omega) (by simp; omega)
          rw [bits_or rfl (by omega) (by simp [IntKind.bits]; omega) (by omega) (by simp [IntKind.bits]; omega), Nat.or_comm, ← bits_or (k := .u64) rfl (by omega) (by simp [IntKind.bits]; omega) (by omega) (by simp [IntKind.bits]; omega), this]
          omega
        have e5 : wi64 (1 + 1) = (([(x : Int), (y : Int)].length : Nat) : Int) := wi64_id (by omega) (by omega)
        rw [e4, e5]
        exact .to (ev_Int_c5 most _ (W a) _ hm hm2 (by omega) (by omega)) (fin _ rfl)
      · have hl : 2 < (W a).2.length := digs_len_ge (b := 4294967296) (by decide) (m := 2) h2
        exact .step (fun k => whole_Int_Int_eq k _ _) (.ck (by omega) (.to (.pure _) (by rw [if_neg (by omega)])))

/-! ### products -/
theorem ev_Times_c7 (a b : Bool × List Int) (s4 : Bool × List Int) (hb : Dg 4294967296 b.2) (x : Int) (hx : 0 ≤ x) (hx2 : x < 4294967296) (i : Nat) (hlen : i + b.2.length < 1099511627776) (s20 : List Int) (s21 s22 : Int) : ∀ (m j : Nat) (out : List Int) (c : Int), b.2.length - j = m → j ≤ b.2.length → i + b.2.length < out.length → Dg 4294967296 out → 0 ≤ c → c < 4294967296 → (∀ p, i + b.2.length ≤ p → out.getD p 0 = 0) →
    ∃ out2, out2.length = out.length ∧ Dg 4294967296 out2 ∧ (∀ p, i + b.2.length + 1 ≤ p → out2.getD p 0 = 0) ∧ Vb 4294967296 out2 = Vb 4294967296 out + 4294967296 ^ (i + j) * (c + x * Vb 4294967296 (b.2.drop j)) ∧
      ∀ y, Ev (fun k => whole_Int_Times_c3 k a b s4 out2 s20 s21 (wi64 (s22 + 1))) y → Ev (fun k => whole_Int_Times_c7 k a b s4 out (i : Int) x c s20 s21 s22 b.2 (b.2.length : Int) (j : Int)) y := by
  intro m
  induction m with
  | zero =>
    intro j out c hm hj hol hd hc hc2 hz
    have hj' : j = b.2.length := by omega
    subst hj'
    have e1 : wi64 ((i : Int) + (b.2.length : Int)) = ((i + b.2.length : Nat) : Int) := by rw [wi64_id (by omega) (by omega)]; rfl
    refine ⟨out.set (i + b.2.length) (wu32 c), by simp, ?_, fun p hp => ?_, ?_, fun y hy => ?_⟩
    · rw [wu32_id hc hc2]
      exact hd.set _ hc hc2
    · rw [List.getD_eq_getElem?_getD, List.getElem?_set_ne (by omega), ← List.getD_eq_getElem?_getD]
      exact hz p (by omega)
    · rw [Vb_set _ _ _ _ hol, wu32_id hc hc2, hz _ (Nat.le_refl _), List.drop_length]
      simp [Vb]
    · refine .step (fun k => whole_Int_Times_c7_eq k _ _ _ _ _ _ _ _ _ _ _ _ _) (.nk (by omega) ?_)
      rw [e1]
      exact .ck (by omega) (.ck (by omega) (by rw [Int.toNat_natCast]; exact hy))
  | succ m ih =>
    intro j out c hm hj hol hd hc hc2 hz
    have hlt : j < b.2.length := by omega
    have hy := hb.at (by omega) j
    have ho := hd.at (by omega) (i + j)
    have hti : ((j : Int)).toNat = j := Int.toNat_natCast j
    have e1 : wi64 ((i : Int) + (j : Int)) = ((i + j : Nat) : Int) := by rw [wi64_id (by omega) (by omega)]; rfl
    have e2 : wi64 ((j : Int) + 1) = ((j + 1 : Nat) : Int) := by rw [wi64_id (by omega) (by omega)]; rfl
    rw [drop_cons hlt]
    generalize hye : b.2.getD j 0 = y at *
    generalize hoe : out.getD (i + j) 0 = o at *
    have hxy0 : 0 ≤ x * y := Int.mul_nonneg hx hy.1
    have hxy : x * y ≤ 4294967295 * 4294967295 := Int.le_trans (Int.mul_le_mul_of_nonneg_right (show x ≤ 4294967295 by omega) hy.1) (Int.mul_le_mul_of_nonneg_left (show y ≤ 4294967295 by omega) (by omega))
    have et : wu64 (c + wu64 (wu64 o + wu64 (wu64 x * wu64 y))) = c + (o + x * y) := by
      rw [wu64_id (x := x) hx (by omega), wu64_id (x := y) hy.1 (by omega), wu64_id (x := o) ho.1 (by omega), wu64_id (x := x * y) hxy0 (by omega), wu64_id (x := o + x * y) (by omega) (by omega), wu64_id (by omega) (by omega)]
    generalize hp : x * y = p at *
    obtain ⟨out2, q1, q2, q3, q4, q5⟩ := ih (j + 1) (out.set (i + j) ((c + (o + p)) % 4294967296)) ((c + (o + p)) / 4294967296) (by omega) (by omega) (by simpa using hol) (hd.set _ (by omega) (by omega)) (by omega) (by omega) (fun r hr => by
      rw [List.getD_eq_getElem?_getD, List.getElem?_set_ne (by omega), ← List.getD_eq_getElem?_getD]
      exact hz r hr)
    refine ⟨out2, by simpa using q1, q2, q3, ?_, fun z hz' => ?_⟩
    · rw [q4, Vb_set _ _ _ _ (by omega), hoe, ← Nat.add_assoc, Int.pow_succ]
      simp only [Vb]
      rw [Int.add_assoc, pow_step]
      congr 2
      rw [Int.mul_add x, hp, ← Int.mul_assoc x, Int.mul_comm x 4294967296, Int.mul_assoc]
      generalize x * Vb 4294967296 (b.2.drop (j + 1)) = q
      omega
    · refine .step (fun k => whole_Int_Times_c7_eq k _ _ _ _ _ _ _ _ _ _ _ _ _) (.ck (by omega) (.ck (by omega) (.ck (by omega) ?_)))
      rw [e1]
      refine .ck (by omega) (.ck (by omega) (.ck (by omega) (.ck (by omega) ?_)))
      rw [hti, Int.toNat_natCast, hye, hoe, et, shr32, wu32_mod, e2]
      exact q5 z hz'

theorem ev_Times_c3 (a b : Bool × List Int) (s4 : Bool × List Int) (ha : Dg 4294967296 a.2) (hb : Dg 4294967296 b.2) (hlen : a.2.length + b.2.length < 1099511627776) : ∀ (m i : Nat) (out : List Int), a.2.length - i = m → i ≤ a.2.length → out.length = a.2.length + b.2.length → Dg 4294967296 out → (∀ p, i + b.2.length ≤ p → out.getD p 0 = 0) →
    Ev (fun k => whole_Int_Times_c3 k a b s4 out a.2 (a.2.length : Int) (i : Int)) (W (cond (!(a.1 == b.1)) (-(Vb 4294967296 out + 4294967296 ^ i * (Vb 4294967296 (a.2.drop i) * Vb 4294967296 b.2))) (Vb 4294967296 out + 4294967296 ^ i * (Vb 4294967296 (a.2.drop i) * Vb 4294967296 b.2)))) := by
  intro m
  induction m with
  | zero =>
    intro i out hm hi hol hd hz
    have hi' : i = a.2.length := by omega
    subst hi'
    refine .step (fun k => whole_Int_Times_c3_eq k _ _ _ _ _ _ _) (.nk (by omega) (.ret (ev_made _ out (by omega) hd) ?_))
    rw [List.drop_length]
    simp [Vb]
  | succ m ih =>
    intro i out hm hi hol hd hz
    have hlt : i < a.2.length := by omega
    have hx := ha.at (by omega) i
    have hti : ((i : Int)).toNat = i := Int.toNat_natCast i
    have e2 : wi64 ((i : Int) + 1) = ((i + 1 : Nat) : Int) := by rw [wi64_id (by omega) (by omega)]; rfl
    obtain ⟨out2, q1, q2, q3, q4, q5⟩ := ev_Times_c7 a b s4 hb (a.2.getD i 0) hx.1 hx.2 i (by omega) a.2 (a.2.length : Int) (i : Int) _ 0 out 0 rfl (by omega) (by omega) hd (by omega) (by omega) hz
    refine .step (fun k => whole_Int_Times_c3_eq k _ _ _ _ _ _ _) (.ck (by omega) (.ck (by omega) (.ck (by omega) ?_)))
    rw [hti]
    refine q5 _ ?_
    rw [e2]
    refine .to (ih (i + 1) out2 (by omega) (by omega) (by omega) q2 (fun p hp => q3 p (by omega))) ?_
    have hv : Vb 4294967296 out2 + 4294967296 ^ (i + 1) * (Vb 4294967296 (a.2.drop (i + 1)) * Vb 4294967296 b.2) = Vb 4294967296 out + 4294967296 ^ i * (Vb 4294967296 (a.2.drop i) * Vb 4294967296 b.2) := by
      rw [q4, drop_cons hlt, Int.pow_succ]
      simp only [Vb, Nat.add_zero, List.drop_zero]
      rw [Int.add_assoc, pow_step, Int.add_mul, Int.zero_add, Int.mul_assoc]
    rw [hv]

theorem ev_Times (a b : Int) (ha : Sm a) (hb : Sm b) : Ev (fun k => whole_Int_Times k (W a) (W b)) (W (a * b)) := by
  have la := ha.len
  have lb := hb.len
  have e1 : wi64 (((W a).2.length : Int) + ((W b).2.length : Int)) = (((W a).2.length + (W b).2.length : Nat) : Int) := by rw [wi64_id (by omega) (by omega)]; rfl
  refine .step (fun k => whole_Int_Times_eq k _ _) ?_
  rw [e1, Int.toNat_natCast]
  have hz : ∀ n p : Nat, (List.replicate n (0 : Int)).getD p 0 = 0 := by
    intro n p
    rw [List.getD_eq_getElem?_getD, List.getElem?_replicate]
    split <;> rfl
  refine .ck (by omega) (.ck (by omega) (.to (ev_Times_c3 (W a) (W b) (false, []) (W_dg a) (W_dg b) (by omega) _ 0 _ rfl (by omega) (by simp) (.zeros (by omega) _) (fun p _ => hz _ p)) ?_))
  rw [Vb_zeros]
  simp only [List.drop_zero, W_V, W_neg]
  congr 1
  have hn : ((a.natAbs : Int) * (b.natAbs : Int)) = ((a * b).natAbs : Int) := by rw [Int.natAbs_mul]; push_cast; rfl
  rw [hn]
  simp only [Int.pow_zero, Int.one_mul, Int.zero_add]
  by_cases h1 : a < 0
  · by_cases h2 : b < 0
    · have := Int.mul_pos_of_neg_of_neg h1 h2
      simp [h1, h2]
      omega
    · have : a * b ≤ 0 := Int.mul_nonpos_of_nonpos_of_nonneg (by omega) (by omega)
      simp [h1, h2]
      omega
  · by_cases h2 : b < 0
    · have : a * b ≤ 0 := Int.mul_nonpos_of_nonneg_of_nonpos (by omega) (by omega)
      simp [h1, h2]
      omega
    · have : 0 ≤ a * b := Int.mul_nonneg (by omega) (by omega)
      simp [h1, h2]
      omega

end Go.Proofs.YtognnibmcifjeaaDoor.Eq
namespace Go.Ra
open Go Go.Ra

theorem eqS_iff (a b : ByteArray) : eqS a b = true ↔ a = b := by
  unfold eqS
  rw [beq_iff_eq, Lib.toList_data, Lib.toList_data]
  constructor
  · intro h
    rw [← Lib.mk_data a, ← Lib.mk_data b, h]
  · intro h
    rw [h]
theorem eqS_self (a : ByteArray) : eqS a a = true := (eqS_iff a a).2 rfl
theorem eqS_ne {a b : ByteArray} (h : a ≠ b) : eqS a b = false := by
  cases he : eqS a b with
  | false => rfl
  | true => exact absurd ((eqS_iff a b).1 he) h

theorem bor' {p q : Bool} (h : p = true → q = true) : ((!p) || q) = true := by
  cases p
  · rfl
  · simp [h rfl]

theorem bt_at {s : ByteArray} {i : Nat} (h : i < s.size) : bt s (i : Int) = (((s.data.toList.getD i 0).toNat : Nat) : Int) := by
  unfold bt
  rw [dif_pos (by simpa using h)]
  have h' : i < s.data.toList.length := by rw [← Lib.size_eq]; exact h
  simp [List.getD_eq_getElem?_getD, List.getElem?_eq_getElem h', ByteArray.getElem_eq_getElem_data]


/-! ### strings and lists of bytes -/
abbrev L (s : ByteArray) : List UInt8 := s.data.toList
def B (l : List UInt8) : ByteArray := ⟨l.toArray⟩
theorem L_B (l : List UInt8) : L (B l) = l := rfl
theorem B_L (s : ByteArray) : B (L s) = s := Lib.mk_data s
theorem L_app (a b : ByteArray) : L (a ++ b) = L a ++ L b := by
  simp [L, ByteArray.data_append]
theorem B_app (a b : List UInt8) : B a ++ B b = B (a ++ b) := by rw [← B_L (B a ++ B b), L_app, L_B, L_B]
theorem size_L (s : ByteArray) : s.size = (L s).length := Lib.size_eq s
theorem size_B (l : List UInt8) : (B l).size = l.length := by rw [size_L, L_B]
theorem L_ext (s : ByteArray) (i j : Nat) : L (s.extract i j) = ((L s).take j).drop i := by
  rw [List.drop_take]
  show (s.extract i j).data.toList = _
  rw [ByteArray.data_extract, Array.toList_extract]
theorem B_ext (l : List UInt8) (i j : Nat) : (B l).extract i j = B ((l.take j).drop i) := by rw [← B_L ((B l).extract i j), L_ext, L_B]
theorem L_inj {a b : ByteArray} (h : L a = L b) : a = b := by rw [← B_L a, h, B_L]
theorem eqS_L (a b : ByteArray) : eqS a b = decide (L a = L b) := by
  by_cases h : a = b
  · subst h; simp [eqS_self]
  · rw [eqS_ne h]
    simp only [Bool.false_eq, decide_eq_false_iff_not]
    exact fun z => h (L_inj z)
theorem L_bs_nil : L (bs []) = [] := rfl
theorem bt_B {l : List UInt8} {i : Nat} (h : i < l.length) : bt (B l) (i : Int) = (((l.getD i 0).toNat : Nat) : Int) := bt_at (by rw [size_B]; exact h)
end Go.Ra
namespace Go.Ra
open Go Go.Ra

end Go.Ra

namespace Go.Proofs.YtognnibmcifjeaaDoor.Eq
open Go Go.Ra
set_option linter.unusedVariables false

abbrev UN : Type := ByteArray × ByteArray × Int × Int
abbrev u0 : UN := (bs [], (bs [], (0, 0)))
/-! ### names -/
end Go.Proofs.YtognnibmcifjeaaDoor.Eq
namespace Go.Proofs.YtognnibmcifjeaaDoor.Eq
open Go Go.Ra
set_option linter.unusedVariables false

def unum (l : List UN) (i : Nat) : Int := (l.getD i u0).2.2.1
def uden (l : List UN) (i : Nat) : Int := (l.getD i u0).2.2.2
/-! ### searching -/
/-! ### each unit by itself -/
def okU (l : List UN) (i : Nat) : Prop := 1 ≤ unum l i ∧ unum l i ≤ 1000000 ∧ 1 ≤ uden l i ∧ uden l i ≤ 1000000
instance (l : List UN) (i : Nat) : Decidable (okU l i) := by unfold okU; infer_instance
/-! ### ways to the base -/
end Go.Proofs.YtognnibmcifjeaaDoor.Eq
namespace Go.Proofs.YtognnibmcifjeaaDoor.Eq
open Go Go.Ra
theorem awake_at (k : Nat) : interchangelaw1_awake (k + 40) = some true := by kernel_rfl
theorem ev_awake : Ev (fun k => interchangelaw1_awake k) true := .off (n := 40) awake_at
end Go.Proofs.YtognnibmcifjeaaDoor.Eq
namespace Go.Ra
open Go Go.Ra
/-- 1 in a year with a 29th of February. -/
def lp (y : Int) : Int := if y % 4 = 0 ∧ (y % 100 ≠ 0 ∨ y % 400 = 0) then 1 else 0
/-- The days of a month. -/
def dom (y : Int) (m : Nat) : Int := if m = 2 then 28 + lp y else if m = 4 ∨ m = 6 ∨ m = 9 ∨ m = 11 then 30 else 31
/-- The days before a year. -/
def bef (y : Int) : Int := 365 * (y - 1) + (y - 1) / 4 - (y - 1) / 100 + (y - 1) / 400
/-- The days of the first months. -/
def cum (y : Int) : Nat → Int
  | 0 => 0
  | j + 1 => cum y j + dom y (j + 1)
/-- A date. -/
structure Dt where
  y : Int
  m : Nat
  d : Int
structure Dt.Ok (t : Dt) : Prop where
  y1 : 1 ≤ t.y
  y2 : t.y ≤ 9999
  m1 : 1 ≤ t.m
  m2 : t.m ≤ 12
  d1 : 1 ≤ t.d
  d2 : t.d ≤ dom t.y t.m
def Dt.n (t : Dt) : Int := bef t.y + cum t.y (t.m - 1) + t.d
end Go.Ra
namespace Go.Proofs.YtognnibmcifjeaaDoor.Eq
open Go Go.Ra
set_option linter.unusedVariables false

/-! ### the number of a date -/
/-- What DayOf computes. -/
def okDt (a b c : Int) : Prop := 1 ≤ a ∧ a ≤ 9999 ∧ 1 ≤ b ∧ b ≤ 12 ∧ 1 ≤ c ∧ c ≤ dom a b.toNat
instance (a b c : Int) : Decidable (okDt a b c) := by unfold okDt; infer_instance
theorem Dt.Ok.is {t : Dt} (h : t.Ok) : okDt t.y (t.m : Int) t.d := by
  refine ⟨h.y1, h.y2, ?_, ?_, h.d1, ?_⟩
  · have := h.m1; omega
  · have := h.m2; omega
  · rw [Int.toNat_natCast]; exact h.d2
/-! ### the date of a number -/
end Go.Proofs.YtognnibmcifjeaaDoor.Eq
namespace Go.Ra
open Go Go.Ra
def dgB (b : UInt8) : Bool := decide (48 ≤ b.toNat) && decide (b.toNat ≤ 57)
/-- Digits, at least one. -/
def digB (l : List UInt8) : Bool := !l.isEmpty && l.all dgB
/-- The number that digits spell. -/
def dvA (a : Nat) : List UInt8 → Nat
  | [] => a
  | b :: l => dvA (a * 10 + (b.toNat - 48)) l
def dv (l : List UInt8) : Nat := dvA 0 l
theorem dvA_app (l m : List UInt8) : ∀ a, dvA a (l ++ m) = dvA (dvA a l) m := by
  induction l with
  | nil => intro a; rfl
  | cons b l ih => intro a; exact ih _
theorem dvA_eq (l : List UInt8) : ∀ a, dvA a l = a * 10 ^ l.length + dvA 0 l := by
  induction l with
  | nil =>
    intro a
    show a = a * 10 ^ 0 + 0
    rw [Nat.pow_zero, Nat.mul_one, Nat.add_zero]
  | cons b l ih =>
    intro a
    have h1 := ih (a * 10 + (b.toNat - 48))
    have h2 := ih (0 * 10 + (b.toNat - 48))
    show dvA (a * 10 + (b.toNat - 48)) l = a * 10 ^ (l.length + 1) + dvA (0 * 10 + (b.toNat - 48)) l
    rw [h1, h2, Nat.pow_succ]
    generalize 10 ^ l.length = p
    generalize dvA 0 l = D
    generalize b.toNat - 48 = d
    rw [Nat.add_mul, Nat.zero_mul, Nat.zero_add, Nat.mul_assoc a 10 p, Nat.mul_comm 10 p, Nat.add_assoc]
theorem dv_app (l m : List UInt8) : dv (l ++ m) = dv l * 10 ^ m.length + dv m := by
  unfold dv
  rw [dvA_app, dvA_eq m]
theorem dvA_ge (l : List UInt8) (a : Nat) : a ≤ dvA a l := by
  rw [dvA_eq]
  have : 1 ≤ 10 ^ l.length := Nat.one_le_pow _ _ (by decide)
  have := Nat.mul_le_mul_left a this
  omega
theorem dv_one (b : UInt8) : dv [b] = b.toNat - 48 := by
  show 0 * 10 + (b.toNat - 48) = b.toNat - 48
  omega
theorem dgB_iff {b : UInt8} : dgB b = true ↔ 48 ≤ b.toNat ∧ b.toNat ≤ 57 := by simp [dgB]
theorem dv_lt {l : List UInt8} (h : ∀ b ∈ l, dgB b = true) : dv l < 10 ^ l.length := by
  induction l with
  | nil =>
    show (0 : Nat) < 10 ^ 0
    rw [Nat.pow_zero]
    omega
  | cons b l ih =>
    have h1 := dgB_iff.1 (h b (by simp))
    have h2 := ih fun x hx => h x (by simp [hx])
    have e : dv (b :: l) = (b.toNat - 48) * 10 ^ l.length + dv l := by
      have := dv_app [b] l
      rw [dv_one] at this
      exact this
    rw [e, List.length_cons, Nat.pow_succ]
    have : (b.toNat - 48) * 10 ^ l.length ≤ 9 * 10 ^ l.length := Nat.mul_le_mul_right _ (by omega)
    omega
theorem take_succ' {l : List UInt8} {i : Nat} (h : i < l.length) : l.take (i + 1) = l.take i ++ [l.getD i 0] := by
  rw [List.take_add_one, List.getD_eq_getElem?_getD, List.getElem?_eq_getElem h]
  rfl
theorem digB_len {l : List UInt8} (h : digB l = true) : 1 ≤ l.length := by
  cases l with
  | nil => simp [digB] at h
  | cons => simp
theorem digB_all {l : List UInt8} (h : digB l = true) : ∀ b ∈ l, dgB b = true := by
  unfold digB at h
  rw [Bool.and_eq_true] at h
  exact List.all_eq_true.1 h.2
theorem digB_iff {l : List UInt8} : digB l = true ↔ l ≠ [] ∧ ∀ b ∈ l, dgB b = true := by
  unfold digB
  rw [Bool.and_eq_true, List.all_eq_true]
  cases l <;> simp
theorem eqS_nil (s : ByteArray) : eqS s (bs []) = (L s).isEmpty := by
  rw [eqS_L, L_bs_nil]
  cases L s <;> simp
end Go.Ra
namespace Go.Proofs.YtognnibmcifjeaaDoor.Eq
open Go Go.Ra
set_option linter.unusedVariables false

theorem wu8_dig {b : UInt8} (h : dgB b = true) : wi64 (wu8 (((b.toNat : Nat) : Int) - 48)) = ((b.toNat - 48 : Nat) : Int) := by
  have := dgB_iff.1 h
  rw [wu8_id (by omega) (by omega), wi64_id (by omega) (by omega)]
  omega
theorem ev_InBytes (s : ByteArray) (lo hi : Int) (hs : s.size < 1125899906842624) : Ev (fun k => kit_InBytes k s lo hi) ((L s).all fun b => decide (lo ≤ (b.toNat : Int)) && decide ((b.toNat : Int) ≤ hi)) := by
  refine .step (fun k => kit_InBytes_eq k _ _ _) ?_
  have hsz := size_L s
  have key : ∀ (m i : Nat), s.size - i = m → i ≤ s.size → Ev (fun k => kit_InBytes_c2 k s lo hi (s.size : Int) (i : Int)) (((L s).drop i).all fun b => decide (lo ≤ (b.toNat : Int)) && decide ((b.toNat : Int) ≤ hi)) := by
    intro m
    induction m with
    | zero =>
      intro i hm hi'
      refine .step (fun k => kit_InBytes_c2_eq k _ _ _ _ _) (.nk (by omega) (.to (.pure _) ?_))
      rw [List.drop_of_length_le (by omega)]
      rfl
    | succ m ih =>
      intro i hm hi'
      have hil : i < (L s).length := by omega
      have hd : (L s).drop i = (L s).getD i 0 :: (L s).drop (i + 1) := by
        rw [List.drop_eq_getElem_cons hil, List.getD_eq_getElem?_getD, List.getElem?_eq_getElem hil]
        rfl
      refine .step (fun k => kit_InBytes_c2_eq k _ _ _ _ _) (.ck (by omega) (.ck (by omega) (.ck (by omega) (.tt (bor' fun _ => by simp) (.tt (bor' fun _ => by simp; omega) ?_)))))
      rw [bt_at (by omega : i < s.size), hd, List.all_cons]
      generalize (L s).getD i 0 = b
      have hw : wi64 ((i : Int) + 1) = ((i + 1 : Nat) : Int) := by rw [wi64_id (by omega) (by omega)]; rfl
      by_cases h : lo ≤ (b.toNat : Int) ∧ (b.toNat : Int) ≤ hi
      · rw [decide_eq_true h.1, decide_eq_true h.2]
        refine .ff (by rw [decide_eq_false (by omega), decide_eq_false (by omega)]; rfl) ?_
        rw [hw]
        exact ih (i + 1) (by omega) (by omega)
      · refine .tt ?_ (.to (.pure _) ?_)
        · by_cases h1 : (b.toNat : Int) < lo
          · rw [decide_eq_true h1]; rfl
          · rw [decide_eq_false h1, decide_eq_true (by omega : (b.toNat : Int) > hi)]; rfl
        · have : (decide (lo ≤ (b.toNat : Int)) && decide ((b.toNat : Int) ≤ hi)) = false := by simpa using h
          rw [this]
          rfl
  have := key _ 0 rfl (by omega)
  simpa using this
theorem dgB_eq (b : UInt8) : (decide ((48 : Int) ≤ (b.toNat : Int)) && decide ((b.toNat : Int) ≤ 57)) = dgB b := by
  unfold dgB
  congr 1
  · exact decide_eq_decide.2 (by omega)
  · exact decide_eq_decide.2 (by omega)
theorem ev_kDig (s : ByteArray) (hs : s.size < 1125899906842624) : Ev (fun k => kit_IsDigits k s) (digB (L s)) := by
  refine .step (fun k => kit_IsDigits_eq k _) ?_
  rw [eqS_nil]
  unfold digB
  cases h : (L s).isEmpty with
  | true => exact .bind (x := false) (.ff rfl (.pure _)) (.pure _)
  | false =>
    refine .bind (.tt rfl (ev_InBytes s 48 57 hs)) (.to (.pure _) ?_)
    simp only [dgB_eq]
    rfl
theorem ev_rDig (s : ByteArray) (hs : s.size < 1125899906842624) : Ev (fun k => interchangeref1_isDigits k s) (digB (L s)) := by
  refine .step (fun k => interchangeref1_isDigits_eq k _) ?_
  rw [eqS_nil]
  unfold digB
  have hsz := size_L s
  cases h : (L s).isEmpty with
  | true => exact .tt rfl (.pure _)
  | false =>
    refine .ff rfl ?_
    have key : ∀ (m i : Nat), s.size - i = m → i ≤ s.size → Ev (fun k => interchangeref1_isDigits_c4 k s (s.size : Int) (i : Int)) (((L s).drop i).all dgB) := by
      intro m
      induction m with
      | zero =>
        intro i hm hi'
        refine .step (fun k => interchangeref1_isDigits_c4_eq k _ _ _) (.nk (by omega) (.to (.pure _) ?_))
        rw [List.drop_of_length_le (by omega)]
        rfl
      | succ m ih =>
        intro i hm hi'
        have hil : i < (L s).length := by omega
        have hd : (L s).drop i = (L s).getD i 0 :: (L s).drop (i + 1) := by
          rw [List.drop_eq_getElem_cons hil, List.getD_eq_getElem?_getD, List.getElem?_eq_getElem hil]
          rfl
        refine .step (fun k => interchangeref1_isDigits_c4_eq k _ _ _) (.ck (by omega) (.ck (by omega) (.ck (by omega) (.tt (bor' fun _ => by simp) (.tt (bor' fun _ => by simp; omega) ?_)))))
        rw [bt_at (by omega : i < s.size), hd, List.all_cons]
        generalize (L s).getD i 0 = b
        have hw : wi64 ((i : Int) + 1) = ((i + 1 : Nat) : Int) := by rw [wi64_id (by omega) (by omega)]; rfl
        cases hb : dgB b with
        | true =>
          have := dgB_iff.1 hb
          refine .ff (by rw [decide_eq_false (by omega), decide_eq_false (by omega)]; rfl) ?_
          rw [hw]
          exact ih (i + 1) (by omega) (by omega)
        | false =>
          refine .tt ?_ (.pure _)
          have : ¬ (48 ≤ b.toNat ∧ b.toNat ≤ 57) := fun z => by rw [dgB_iff.2 z] at hb; cases hb
          by_cases h1 : (b.toNat : Int) < 48
          · rw [decide_eq_true h1]; rfl
          · rw [decide_eq_false h1, decide_eq_true (by omega : (b.toNat : Int) > 57)]; rfl
    have := key _ 0 rfl (by omega)
    simpa using this

theorem ev_ofDigits (s : ByteArray) (hs : s.size ≤ 1000) (hd : ∀ b ∈ L s, dgB b = true) : Ev (fun k => interchangeref1_ofDigits k s) (if dv (L s) ≤ 1000000000000000 then ((dv (L s) : Int), true) else (0, false)) := by
  refine .step (fun k => interchangeref1_ofDigits_eq k _) ?_
  have hsz := size_L s
  have key : ∀ (m i : Nat), s.size - i = m → i ≤ s.size → dv ((L s).take i) ≤ 1000000000000000 → Ev (fun k => interchangeref1_ofDigits_c3 k s ((dv ((L s).take i) : Nat) : Int) (s.size : Int) (i : Int)) (if dv (L s) ≤ 1000000000000000 then ((dv (L s) : Int), true) else (0, false)) := by
    intro m
    induction m with
    | zero =>
      intro i hm hi' hv
      refine .step (fun k => interchangeref1_ofDigits_c3_eq k _ _ _ _) (.nk (by omega) (.to (.pure _) ?_))
      rw [List.take_of_length_le (by omega)] at hv ⊢
      rw [if_pos hv]
    | succ m ih =>
      intro i hm hi' hv
      have hil : i < (L s).length := by omega
      have hdig := hd _ (List.mem_of_getElem? (by rw [List.getElem?_eq_getElem hil] : (L s)[i]? = some ((L s)[i])))
      have hdig' : dgB ((L s).getD i 0) = true := by
        rw [List.getD_eq_getElem?_getD, List.getElem?_eq_getElem hil]
        exact hdig
      have hb := dgB_iff.1 hdig'
      have e : dv ((L s).take (i + 1)) = dv ((L s).take i) * 10 + (((L s).getD i 0).toNat - 48) := by
        rw [take_succ' hil, dv_app, dv_one]
        simp
      refine .step (fun k => interchangeref1_ofDigits_c3_eq k _ _ _ _) (.ck (by omega) (.ck (by omega) (.ck (by omega) ?_)))
      rw [bt_at (by omega : i < s.size), wu8_dig hdig']
      have hw : wi64 ((i : Int) + 1) = ((i + 1 : Nat) : Int) := by rw [wi64_id (by omega) (by omega)]; rfl
      have hv2 : wi64 (wi64 (10 * ((dv ((L s).take i) : Nat) : Int)) + ((((L s).getD i 0).toNat - 48 : Nat) : Int)) = ((dv ((L s).take (i + 1)) : Nat) : Int) := by
        rw [e, wi64_id (x := 10 * ((dv ((L s).take i) : Nat) : Int)) (by omega) (by omega), wi64_id (by omega) (by omega)]
        push_cast
        omega
      rw [hv2, hw]
      by_cases hg : dv ((L s).take (i + 1)) ≤ 1000000000000000
      · exact .nk (by omega) (ih (i + 1) (by omega) (by omega) hg)
      · refine .ck (by omega) (.to (.pure _) ?_)
        rw [if_neg]
        intro z
        have := dvA_ge ((L s).drop (i + 1)) (dv ((L s).take (i + 1)))
        have e2 : dv (L s) = dvA (dv ((L s).take (i + 1))) ((L s).drop (i + 1)) := by
          conv => lhs; rw [← List.take_append_drop (i + 1) (L s)]
          unfold dv
          rw [dvA_app]
        omega
  have := key _ 0 rfl (by omega) (by show (0 : Nat) ≤ 1000000000000000; omega)
  exact this
/-! ### cutting -/
def cutP (l : List UInt8) : List UInt8 × Bool := if l.head? = some 45 then (l.drop 1, true) else (l, false)
theorem ev_HasPre (s : ByteArray) (c : UInt8) : Ev (fun k => stringslite_HasPrefix k s (B [c])) (decide ((L s).head? = some c)) := by
  have hsz := size_L s
  have h1 : (B [c]).size = 1 := rfl
  refine .step (fun k => stringslite_HasPrefix_eq k _ _) (.tt (bor' fun _ => by simp) (.tt (bor' fun z => z) (.to (.pure _) ?_)))
  rw [h1]
  cases hl : L s with
  | nil =>
    rw [hl] at hsz
    have h0 : s.size = 0 := hsz
    have : ¬ ((s.size : Int) ≥ ((1 : Nat) : Int)) := by omega
    rw [decide_eq_false this]
    rfl
  | cons b t =>
    rw [hl] at hsz
    have h0 : s.size = t.length + 1 := hsz
    have : ((s.size : Int) ≥ ((1 : Nat) : Int)) := by omega
    rw [decide_eq_true this]
    simp only [cond_true, Int.toNat_natCast]
    rw [eqS_L, L_ext, hl]
    simp [L_B]
theorem ev_CutPre (s : ByteArray) : Ev (fun k => strings_CutPrefix k s (B [45])) (B (cutP (L s)).1, (cutP (L s)).2) := by
  have hsz := size_L s
  have h1 : (B [45]).size = 1 := rfl
  refine .step (fun k => strings_CutPrefix_eq k _ _) (.ret (.step (fun k => stringslite_CutPrefix_eq k _ _) (.bind (ev_HasPre s 45) ?_)) rfl)
  unfold cutP
  by_cases h : (L s).head? = some 45
  · rw [if_pos h, decide_eq_true h]
    have : 1 ≤ (L s).length := by
      cases hl : L s with
      | nil => rw [hl] at h; simp at h
      | cons => simp
    refine .ff rfl (.ck (by omega) (.ck (by rw [h1]; omega) (.to (.pure _) ?_)))
    rw [h1]
    congr 1
    rw [← B_L (s.extract _ _), L_ext, List.take_of_length_le (by omega)]
    rfl
  · rw [if_neg h, decide_eq_false h]
    refine .tt rfl (.to (.pure _) ?_)
    rw [B_L]
theorem ev_Idx (s : ByteArray) (c : UInt8) : Ev (fun k => stringslite_Index k s (B [c])) (Lib.indexByte (L s) c) := by
  have h1 : (B [c]).size = 1 := rfl
  have hb : bt (B [c]) 0 = ((c.toNat : Nat) : Int) := by
    have := bt_B (l := [c]) (i := 0) (by simp)
    simpa using this
  refine .step (fun k => stringslite_Index_eq k _ _) ?_
  rw [h1, eqS_L, L_B]
  by_cases h : [c] = L s
  · refine .tt (by simp [h]) (.to (.pure _) ?_)
    rw [← h]
    simp [Lib.indexByte]
  · refine .ff (by simp [h]) (.tt rfl (.ck (by decide) (.ret ?_ rfl)))
    refine .off (n := 0) fun k => ?_
    show stringslite_IndexByte (k + 0) s _ = _
    rw [stringslite_IndexByte_eq, hb]
    simp
def cutB (l : List UInt8) (c : UInt8) : List UInt8 × List UInt8 × Bool :=
  if 0 ≤ Lib.indexByte l c then (l.take (Lib.indexByte l c).toNat, l.drop ((Lib.indexByte l c).toNat + 1), true) else (l, [], false)
theorem indexByte_lt : ∀ (l : List UInt8) (c : UInt8), 0 ≤ Lib.indexByte l c → (Lib.indexByte l c).toNat < l.length
  | [], _, h => by simp [Lib.indexByte] at h
  | b :: l, c, h => by
    unfold Lib.indexByte at h ⊢
    split
    · simp
    · rename_i hb
      rw [if_neg hb] at h
      split
      · rename_i hm
        rw [if_pos hm] at h
        simp at h
      · rename_i hm
        rw [if_neg hm] at h
        have hge := Lib.indexByte_ge l c
        have hne : Lib.indexByte l c ≠ -1 := by simpa using hm
        have := indexByte_lt l c (by omega)
        simp only [List.length_cons]
        omega
theorem ev_Cut (s : ByteArray) (c : UInt8) (hs : s.size < 1125899906842624) : Ev (fun k => strings_Cut k s (B [c])) (B (cutB (L s) c).1, (B (cutB (L s) c).2.1, (cutB (L s) c).2.2)) := by
  have h1 : (B [c]).size = 1 := rfl
  have hsz := size_L s
  refine .step (fun k => strings_Cut_eq k _ _) (.ret (.step (fun k => stringslite_Cut_eq k _ _) (.bind (ev_Idx s c) ?_)) rfl)
  unfold cutB
  by_cases h : 0 ≤ Lib.indexByte (L s) c
  · rw [if_pos h]
    have hl := indexByte_lt _ _ h
    have hw : wi64 (Lib.indexByte (L s) c + ((B [c]).size : Int)) = (((Lib.indexByte (L s) c).toNat + 1 : Nat) : Int) := by
      rw [h1, wi64_id (by omega) (by omega)]
      omega
    refine .ck h (.ck h (.ck (by omega) ?_))
    rw [hw]
    refine .ck (by omega) (.ck (by omega) (.to (.pure _) ?_))
    rw [Int.toNat_natCast]
    congr 1
    · rw [← B_L (s.extract _ _), L_ext, List.drop_zero]
    · congr 1
      rw [← B_L (s.extract _ _), L_ext, List.take_of_length_le (by omega)]
  · rw [if_neg h]
    refine .nk h (.to (.pure _) ?_)
    rw [B_L]
    rfl
theorem indexByte_none {l : List UInt8} {c : UInt8} (h : c ∉ l) : Lib.indexByte l c = -1 := by
  induction l with
  | nil => rfl
  | cons b l ih =>
    unfold Lib.indexByte
    have hb : b ≠ c := fun z => h (by simp [z])
    have := ih fun z => h (by simp [z])
    rw [this]
    simp [hb]
theorem indexByte_app {l m : List UInt8} {c : UInt8} (h : c ∉ l) : Lib.indexByte (l ++ c :: m) c = l.length := by
  induction l with
  | nil => simp [Lib.indexByte]
  | cons b l ih =>
    show Lib.indexByte (b :: (l ++ c :: m)) c = _
    unfold Lib.indexByte
    have hb : b ≠ c := fun z => h (by simp [z])
    have := ih fun z => h (by simp [z])
    rw [this]
    have hne : ¬ ((l.length : Int) == -1) = true := by simp
    simp [hb, hne]
theorem cutB_none {l : List UInt8} {c : UInt8} (h : c ∉ l) : cutB l c = (l, [], false) := by
  unfold cutB
  rw [indexByte_none h]
  rfl
theorem cutB_app {l m : List UInt8} {c : UInt8} (h : c ∉ l) : cutB (l ++ c :: m) c = (l, m, true) := by
  unfold cutB
  rw [indexByte_app h, if_pos (by omega), Int.toNat_natCast]
  simp
/-- What is cut is a text with the mark, or has none. -/
theorem cutB_cases (l : List UInt8) (c : UInt8) : (c ∉ l ∧ cutB l c = (l, [], false)) ∨ ∃ a b, l = a ++ c :: b ∧ c ∉ a ∧ cutB l c = (a, b, true) := by
  by_cases h : c ∈ l
  · obtain ⟨a, b, e, hn⟩ : ∃ a b, l = a ++ c :: b ∧ c ∉ a := by
      induction l with
      | nil => simp at h
      | cons x l ih =>
        by_cases hx : x = c
        · exact ⟨[], l, by simp [hx], by simp⟩
        · have : c ∈ l := by
            rcases List.mem_cons.1 h with z | z
            · exact absurd z.symm hx
            · exact z
          obtain ⟨a, b, rfl, q⟩ := ih this
          exact ⟨x :: a, b, rfl, by simp [q, Ne.symm hx]⟩
    subst e
    exact .inr ⟨a, b, rfl, hn, cutB_app hn⟩
  · exact .inl ⟨h, cutB_none h⟩
end Go.Proofs.YtognnibmcifjeaaDoor.Eq
namespace Go.Ra
open Go Go.Ra
end Go.Ra
namespace Go.Proofs.YtognnibmcifjeaaDoor.Eq
open Go Go.Ra
set_option linter.unusedVariables false

end Go.Proofs.YtognnibmcifjeaaDoor.Eq
namespace Go.Ra
open Go Go.Ra
end Go.Ra
namespace Go.Proofs.YtognnibmcifjeaaDoor.Eq
open Go Go.Ra
set_option linter.unusedVariables false

end Go.Proofs.YtognnibmcifjeaaDoor.Eq
namespace Go.Proofs.YtognnibmcifjeaaDoor.Eq
open Go Go.Ra
set_option linter.unusedVariables false

/-- A right decimal. -/
def okD (d : Int × Int) : Prop := -1000000000000000 ≤ d.1 ∧ d.1 ≤ 1000000000000000 ∧ 0 ≤ d.2 ∧ d.2 ≤ 9
instance (d : Int × Int) : Decidable (okD d) := by unfold okD; infer_instance

theorem ev_Outside (a b c : Int) : Ev (fun k => kit_Outside k a b c) (decide (a < b ∨ a > c)) := by
  refine .step (fun k => kit_Outside_eq k a b c) (.to (.pure _) ?_)
  by_cases h : a < b <;> simp [h]

/-- What becomes of a number of units. -/
def mk (v p : Int) : (Int × Int) × Int := if v.natAbs ≤ 1000000000000000 then ((v, p), 0) else ((0, 0), 1)
theorem ev_Made (v p : Int) : Ev (fun k => amount_Made k (W v) p) (mk v p) := by
  refine .step (fun k => amount_Made_eq k _ p) (.bind (ev_Int v 1000000000000000 (by omega) (by omega)) ?_)
  unfold mk
  by_cases h : v.natAbs ≤ 1000000000000000
  · rw [if_pos h, if_pos (by omega)]
    exact .ff rfl (.pure _)
  · rw [if_neg h, if_neg (by omega)]
    exact .tt rfl (.pure _)

end Go.Proofs.YtognnibmcifjeaaDoor.Eq
namespace Go.Proofs.YtognnibmcifjeaaDoor.Eq
open Go Go.Ra
set_option linter.unusedVariables false

/-- The canonical form of a number. -/
def N (n : Int) : Bool × List Int := (decide (n < 0), digs 1000000 n.natAbs)
/-- Of fewer than a hundred digits. -/
def Sr (n : Int) : Prop := n.natAbs < 1000000 ^ 100
theorem Sr.len {n : Int} (h : Sr n) : (N n).2.length ≤ 100 := digs_len (by omega) 100 _ h
theorem Sr.of {n : Int} (h : n.natAbs ≤ 10 ^ 130) : Sr n := Nat.lt_of_le_of_lt h (by decide)

theorem Sr.neg {a : Int} (h : Sr a) : Sr (-a) := by unfold Sr at *; omega
end Go.Proofs.YtognnibmcifjeaaDoor.Eq
namespace Go.Proofs.YtognnibmcifjeaaDoor.Eq
open Go Go.Ra
set_option linter.unusedVariables false

/- products -/
/- as an int -/
/- long division -/
end Go.Proofs.YtognnibmcifjeaaDoor.Eq
namespace Go.Proofs.YtognnibmcifjeaaDoor.Eq
open Go Go.Ra
set_option linter.unusedVariables false

theorem ev_within (a b c : Int) : Ev (fun k => interchangeref1_within k a b c) (decide (b ≤ a ∧ a ≤ c)) := by
  refine .step (fun k => interchangeref1_within_eq k a b c) (.to (.pure _) ?_)
  by_cases h : b ≤ a <;> simp [h]

end Go.Proofs.YtognnibmcifjeaaDoor.Eq
namespace Go.Proofs.YtognnibmcifjeaaDoor.Eq
open Go Go.Ra
set_option linter.unusedVariables false

end Go.Proofs.YtognnibmcifjeaaDoor.Eq
namespace Go.Proofs.YtognnibmcifjeaaDoor.Eq
open Go Go.Ra
set_option linter.unusedVariables false

/-! ### a decimal's text -/
end Go.Proofs.YtognnibmcifjeaaDoor.Eq
namespace Go.Proofs.YtognnibmcifjeaaDoor.Eq
open Go Go.Ra
set_option linter.unusedVariables false

end Go.Proofs.YtognnibmcifjeaaDoor.Eq
namespace Go.Ra
open Go Go.Ra
theorem enc_ascii {n : Int} (h0 : 0 ≤ n) (h : n < 128) : Utf8.encode n = B [n.toNat.toUInt8] := by
  obtain ⟨m, rfl⟩ : ∃ m : Nat, n = m := ⟨n.toNat, by omega⟩
  have hm : m < 128 := by omega
  have : ∀ k : Fin 128, Utf8.encode (k.val : Int) = B [((k.val : Int)).toNat.toUInt8] := by decide +kernel
  exact this ⟨m, hm⟩
theorem wi32_id {x : Int} (h1 : -2147483648 ≤ x) (h2 : x < 2147483648) : wi32 x = x := by
  unfold wi32 IntKind.wrap
  simp [IntKind.signed, IntKind.bits]
  omega
/-- A byte that can stand between digits. -/
def mkOk (b : Int) : Prop := ¬ ((48 ≤ b ∧ b ≤ 57) ∨ b = 45 ∨ b < 32 ∨ b > 126)
instance (b : Int) : Decidable (mkOk b) := by unfold mkOk; infer_instance
/-- Digits in groups of three, from the right. -/
def grpL (c : UInt8) : Nat → List UInt8 → List UInt8 → List UInt8
  | 0, l, o => l ++ o
  | f + 1, l, o => if 3 < l.length then grpL c f (l.take (l.length - 3)) ([c] ++ l.drop (l.length - 3) ++ o) else l ++ o
def grp (c : UInt8) (l : List UInt8) : List UInt8 := grpL c l.length l []
theorem grpL_more (c : UInt8) : ∀ (f g : Nat) (l o : List UInt8), l.length ≤ f → l.length ≤ g → grpL c f l o = grpL c g l o
  | 0, 0, _, _, _, _ => rfl
  | 0, g + 1, l, o, h, _ => by
    have : l = [] := List.eq_nil_of_length_eq_zero (by omega)
    subst this; simp [grpL]
  | f + 1, 0, l, o, _, h => by
    have : l = [] := List.eq_nil_of_length_eq_zero (by omega)
    subst this; simp [grpL]
  | f + 1, g + 1, l, o, h1, h2 => by
    unfold grpL
    split
    · exact grpL_more c f g _ _ (by rw [List.length_take]; omega) (by rw [List.length_take]; omega)
    · rfl
end Go.Ra
namespace Go.Proofs.YtognnibmcifjeaaDoor.Eq
open Go Go.Ra
set_option linter.unusedVariables false

theorem ev_mf1 (b : Int) : Ev (fun k => amount_marksFault_1 k b) (!decide (mkOk b)) := by
  refine .step (fun k => amount_marksFault_1_eq k _) (.to (.pure _) ?_)
  unfold mkOk
  by_cases h1 : 48 ≤ b <;> by_cases h2 : b ≤ 57 <;> by_cases h3 : b = 45 <;> by_cases h4 : b < 32 <;> by_cases h5 : b > 126 <;> simp [h1, h2, h3, h4, h5] <;> omega
theorem ev_mf (a b : Int) : Ev (fun k => amount_marksFault k a b) (if a ≠ b ∧ mkOk a ∧ mkOk b then 0 else 12) := by
  refine .step (fun k => amount_marksFault_eq k _ _) ?_
  by_cases h : a = b
  · rw [if_neg (fun z => z.1 h)]
    exact .bind (x := false) (.ff (by simp [h]) (.pure _)) (.bind (x := false) (.ff (by simp [h]) (.pure _)) (.tt (by simp [h]) (.pure _)))
  · have hb : (a == b) = false := by simpa using h
    rw [hb]
    refine .bind (.tt rfl (ev_mf1 a)) ?_
    by_cases ha : mkOk a
    · rw [decide_eq_true ha]
      refine .bind (.tt rfl (ev_mf1 b)) ?_
      by_cases hb2 : mkOk b
      · rw [decide_eq_true hb2, if_pos ⟨h, ha, hb2⟩]
        exact .ff rfl (.pure _)
      · rw [decide_eq_false hb2, if_neg fun z => hb2 z.2.2]
        exact .tt rfl (.pure _)
    · rw [decide_eq_false ha, if_neg fun z => ha z.2.1]
      exact .bind (x := false) (.ff rfl (.pure _)) (.tt rfl (.pure _))
theorem mk_test (b : Int) : cond (cond (cond (cond (decide (b ≥ 48)) (decide (b ≤ 57)) false) true (b == 45)) true (decide (b < 32))) true (decide (b > 126)) = !decide (mkOk b) := by
  unfold mkOk
  by_cases h1 : 48 ≤ b <;> by_cases h2 : b ≤ 57 <;> by_cases h3 : b = 45 <;> by_cases h4 : b < 32 <;> by_cases h5 : b > 126 <;> simp [h1, h2, h3, h4, h5] <;> omega
theorem ev_rmarks (a b : Int) : Ev (fun k => interchangeref1_marks k a b) (decide (a ≠ b ∧ mkOk a ∧ mkOk b)) := by
  refine .step (fun k => interchangeref1_marks_eq k _ _) (.step (fun k => interchangeref1_marks_c2_eq k _ _ _ _ _) (.ck (show (0:Int) < 2 by decide) (.ck (show (0:Int) ≤ 0 by decide) (.ck (show (0:Int) < 2 by decide) ?_))))
  show Ev (fun k => cond (cond (cond (cond (cond (decide (a ≥ 48)) (decide (a ≤ 57)) false) true (a == 45)) true (decide (a < 32))) true (decide (a > 126))) (some false) (interchangeref1_marks_c2 k a b [a, b] 2 (wi64 (0 + 1)))) _
  rw [mk_test]
  by_cases ha : mkOk a
  · rw [decide_eq_true ha]
    refine .ff rfl (.step (fun k => interchangeref1_marks_c2_eq k _ _ _ _ _) ?_)
    rw [show wi64 (0 + 1) = 1 from wi64_id (by decide) (by decide)]
    refine .ck (show (1:Int) < 2 by decide) (.ck (show (0:Int) ≤ 1 by decide) (.ck (show (1:Int) < 2 by decide) ?_))
    show Ev (fun k => cond (cond (cond (cond (cond (decide (b ≥ 48)) (decide (b ≤ 57)) false) true (b == 45)) true (decide (b < 32))) true (decide (b > 126))) (some false) (interchangeref1_marks_c2 k a b [a, b] 2 (wi64 (1 + 1)))) _
    rw [mk_test]
    by_cases hb : mkOk b
    · rw [decide_eq_true hb]
      refine .ff rfl (.step (fun k => interchangeref1_marks_c2_eq k _ _ _ _ _) ?_)
      rw [show wi64 (1 + 1) = 2 from wi64_id (by decide) (by decide)]
      refine .nk (show ¬ (2:Int) < 2 by decide) (.to (.pure _) ?_)
      by_cases h : a = b
      · simp [h]
      · simp [h, ha, hb]
    · rw [decide_eq_false hb, decide_eq_false (fun z => hb z.2.2)]
      exact .tt rfl (.pure _)
  · rw [decide_eq_false ha, decide_eq_false (fun z => ha z.2.1)]
    exact .tt rfl (.pure _)

theorem ev_agrp (c : Int) (h0 : 0 ≤ c) (h : c < 128) : ∀ (n : Nat) (l o : List UInt8), l.length = n → 2 * l.length + o.length ≤ 10000 → Ev (fun k => amount_grouped_c2 k (B l) c (B o)) (B (grpL c.toNat.toUInt8 n l o)) := by
  intro n
  induction n using Nat.strongRecOn with
  | ind n ih =>
    intro l o hl hlen
    refine .step (fun k => amount_grouped_c2_eq k _ _ _) ?_
    simp only [size_B, enc_ascii h0 h]
    by_cases h3 : (l.length : Int) > 3
    · have hw : wi64 ((l.length : Int) - 3) = ((l.length - 3 : Nat) : Int) := by rw [wi64_id (by omega) (by omega)]; omega
      obtain ⟨m, rfl⟩ : ∃ m, n = m + 1 := ⟨n - 1, by omega⟩
      unfold grpL
      rw [if_pos (by omega), hw, Int.toNat_natCast]
      simp only [B_ext, B_app, size_B, List.drop_zero, List.take_of_length_le (Nat.le_refl l.length)]
      refine .ck h3 (.ck (by omega) (.ck (by omega) (.ck (by simp only [List.length_singleton, List.length_drop]; omega) (.ck (by simp only [List.length_append, List.length_singleton, List.length_drop]; omega) (.ck (by omega) (.ck (by omega) ?_))))))
      have := ih (l.length - 3) (by omega) (l.take (l.length - 3)) ([c.toNat.toUInt8] ++ l.drop (l.length - 3) ++ o) (by rw [List.length_take]; omega) (by simp only [List.length_append, List.length_singleton, List.length_drop, List.length_take, Nat.min_eq_left (Nat.sub_le l.length 3)]; omega)
      rw [grpL_more _ m (l.length - 3) _ _ (by rw [List.length_take]; omega) (by rw [List.length_take]; omega)]
      exact this
    · refine .nk h3 (.ck (by omega) (.to (.pure _) ?_))
      rw [B_app]
      cases n with
      | zero => rfl
      | succ n =>
        unfold grpL
        rw [if_neg (by omega)]
theorem ev_grouped (c : Int) (h0 : 0 ≤ c) (h : c < 128) (l : List UInt8) (hl : l.length ≤ 1000) : Ev (fun k => amount_grouped k (B l) c) (B (grp c.toNat.toUInt8 l)) :=
  .step (fun k => amount_grouped_eq k _ _) (ev_agrp c h0 h l.length l [] rfl (by simp; omega))
end Go.Proofs.YtognnibmcifjeaaDoor.Eq
namespace Go.Ra
open Go Go.Ra
end Go.Ra
namespace Go.Proofs.YtognnibmcifjeaaDoor.Eq
open Go Go.Ra
set_option linter.unusedVariables false

/-! ### letters -/
theorem dropW_nil {p : UInt8 → Bool} : ∀ l : List UInt8, l.dropWhile p = [] ↔ l.all p = true
  | [] => by simp
  | b :: l => by
    rw [List.dropWhile_cons, List.all_cons]
    cases h : p b with
    | true => simpa using dropW_nil (p := p) l
    | false => simp
theorem trimS_nil (l cs : List UInt8) : Lib.trimS l cs = [] ↔ l.all (cs.contains ·) = true := by
  unfold Lib.trimS Lib.trimLeftS Lib.trimRightS
  constructor
  · intro h
    have h1 := (dropW_nil _).1 h
    have h2 : l.reverse.dropWhile (cs.contains ·) = [] := by
      cases hd : l.reverse.dropWhile (cs.contains ·) with
      | nil => rfl
      | cons b t =>
        have h1 := List.all_eq_true.1 h1 b (by rw [hd]; simp)
        have h2 : cs.contains b = false := by
          have := List.head?_dropWhile_not (cs.contains ·) l.reverse
          rw [hd] at this
          simpa using this
        rw [h2] at h1
        cases h1
    have h3 := (dropW_nil _).1 h2
    rw [List.all_reverse] at h3
    exact h3
  · intro h
    refine (dropW_nil _).2 (List.all_eq_true.2 fun x hx => List.all_eq_true.1 h x ?_)
    have := List.mem_reverse.1 hx
    exact List.mem_reverse.1 ((List.dropWhile_sublist _).subset this)
/-! ### rests -/
/-! ### the tax number's digit -/
end Go.Proofs.YtognnibmcifjeaaDoor.Eq
namespace Go.Proofs.YtognnibmcifjeaaDoor.Eq
open Go Go.Ra
set_option linter.unusedVariables false

end Go.Proofs.YtognnibmcifjeaaDoor.Eq
namespace Go.Proofs.YtognnibmcifjeaaDoor.Eq
open Go Go.Ra
set_option linter.unusedVariables false

/- the reference -/
end Go.Proofs.YtognnibmcifjeaaDoor.Eq
namespace Go.Ra
open Go Go.Ra
end Go.Ra
namespace Go.Proofs.YtognnibmcifjeaaDoor.Eq
open Go Go.Ra
set_option linter.unusedVariables false

theorem dg_ne {l : List UInt8} (h : ∀ b ∈ l, dgB b = true) {c : UInt8} (hc : dgB c = false) : c ∉ l := fun z => by rw [h c z] at hc; exact absurd hc (by decide)
/-! ### the implied point -/
theorem ev_TrimPre45 (s : ByteArray) : Ev (fun k => strings_TrimPrefix k s (B [45])) (B (cutP (L s)).1) := by
  have hsz := size_L s
  have h1 : (B [45]).size = 1 := rfl
  refine .step (fun k => strings_TrimPrefix_eq k _ _) (.ret (.step (fun k => stringslite_TrimPrefix_eq k _ _) (.bind (ev_HasPre s 45) ?_)) rfl)
  unfold cutP
  by_cases h : (L s).head? = some 45
  · rw [if_pos h, decide_eq_true h]
    have : 1 ≤ (L s).length := by
      cases hl : L s with
      | nil => rw [hl] at h; simp at h
      | cons => simp
    refine .tt rfl (.ck (by omega) (.ck (by rw [h1]; omega) (.to (.pure _) ?_)))
    rw [h1]
    rw [← B_L (s.extract _ _), L_ext, List.take_of_length_le (by omega)]
    rfl
  · rw [if_neg h, decide_eq_false h]
    refine .ff rfl (.to (.pure _) ?_)
    rw [B_L]
end Go.Proofs.YtognnibmcifjeaaDoor.Eq
namespace Go.Ra
open Go Go.Ra
end Go.Ra
namespace Go.Proofs.YtognnibmcifjeaaDoor.Eq
open Go Go.Ra
set_option linter.unusedVariables false
set_option linter.unusedSimpArgs false

theorem ev_kDigB (l : List UInt8) (hn : l.length < 1125899906842624) : Ev (fun k => kit_IsDigits k (B l)) (digB l) := by
  have := ev_kDig (B l) (by rw [size_B]; exact hn)
  rwa [L_B] at this
theorem ev_rDigB (l : List UInt8) (hn : l.length < 1125899906842624) : Ev (fun k => interchangeref1_isDigits k (B l)) (digB l) := by
  have := ev_rDig (B l) (by rw [size_B]; exact hn)
  rwa [L_B] at this

end Go.Proofs.YtognnibmcifjeaaDoor.Eq
namespace Go.Ra
open Go Go.Ra
end Go.Ra
namespace Go.Proofs.YtognnibmcifjeaaDoor.Eq
open Go Go.Ra
set_option linter.unusedVariables false

/-- What digits are read as. -/
def rdR (neg : Bool) (l m : List UInt8) : (Int × Int) × Int := if neg = true then (if dv (l ++ m) = 0 then ((0, 0), 10) else mk (-((dv (l ++ m) : Nat) : Int)) m.length) else mk ((dv (l ++ m) : Nat) : Int) m.length
theorem ev_aread (neg : Bool) (l m : List UInt8) (h : ∀ b ∈ l ++ m, dgB b = true) (hl : (l ++ m).length ≤ 60) : Ev (fun k => amount_read k neg (B l) (B m)) (rdR neg l m) := by
  have hl' := hl
  rw [List.length_append] at hl'
  refine .step (fun k => amount_read_eq k _ _ _) (.bind (ev_Of 0 (by decide) (by decide)) (.ck (by rw [size_B, size_B]; omega) ?_))
  rw [B_app, size_B]
  have sm : ∀ i, Sm ((dv ((l ++ m).take i) : Nat) : Int) := fun i => by
    refine .of ?_
    rw [Int.natAbs_natCast]
    have h1 : dv ((l ++ m).take i) < 10 ^ ((l ++ m).take i).length := dv_lt fun b hb => h b (List.mem_of_mem_take hb)
    have h2 : (10 : Nat) ^ ((l ++ m).take i).length ≤ 10 ^ 60 := Nat.pow_le_pow_right (by decide) (by rw [List.length_take]; omega)
    exact Nat.le_trans (Nat.le_of_lt h1) (Nat.le_trans h2 (by decide +kernel))
  have key : ∀ (j i : Nat), (l ++ m).length - i = j → i ≤ (l ++ m).length → Ev (fun k => amount_read_c3 k neg (B l) (B m) (0, 0) (W ((dv ((l ++ m).take i) : Nat) : Int)) ((l ++ m).length : Int) (i : Int)) (rdR neg l m) := by
    intro j
    induction j with
    | zero =>
      intro i hj hi
      have hsm := sm i
      refine .step (fun k => amount_read_c3_eq k _ _ _ _ _ _ _) (.nk (by omega) ?_)
      rw [List.take_of_length_le (by omega)] at hsm ⊢
      unfold rdR
      cases neg with
      | true =>
        rw [if_pos rfl]
        refine .tt rfl (.bind (ev_Sign _) ?_)
        by_cases hz : dv (l ++ m) = 0
        · rw [if_pos hz]
          exact .tt (by simp [hz]) (.pure _)
        · rw [if_neg hz]
          have hs : ((dv (l ++ m) : Nat) : Int).sign ≠ 0 := by
            rw [ne_eq, Int.sign_eq_zero_iff_zero]
            omega
          refine .ff (by simpa using hs) (.bind (ev_Minus _ hsm) ?_)
          rw [size_B]
          exact .ret (ev_Made _ _) rfl
      | false =>
        rw [if_neg (by decide), size_B]
        exact .ff rfl (.ret (ev_Made _ _) rfl)
    | succ j ih =>
      intro i hj hi
      have hil : i < (l ++ m).length := by omega
      have hdig : dgB ((l ++ m).getD i 0) = true := by
        rw [List.getD_eq_getElem?_getD, List.getElem?_eq_getElem hil]
        exact h _ (List.getElem_mem hil)
      have hb := dgB_iff.1 hdig
      have e : ((dv ((l ++ m).take (i + 1)) : Nat) : Int) = ((dv ((l ++ m).take i) : Nat) : Int) * 10 + ((((l ++ m).getD i 0).toNat - 48 : Nat) : Int) := by
        rw [take_succ' hil, dv_app, dv_one]
        simp
      have h10 : Sm (10 : Int) := .of (by decide +kernel)
      have s1 : Sm (((dv ((l ++ m).take i) : Nat) : Int) * 10) := by
        refine .of ?_
        have h1 : dv ((l ++ m).take i) < 10 ^ ((l ++ m).take i).length := dv_lt fun b hb => h b (List.mem_of_mem_take hb)
        have h2 : (10 : Nat) ^ ((l ++ m).take i).length ≤ 10 ^ 60 := Nat.pow_le_pow_right (by decide) (by rw [List.length_take]; omega)
        have : (((dv ((l ++ m).take i) : Nat) : Int) * 10).natAbs = dv ((l ++ m).take i) * 10 := by rw [Int.natAbs_mul, Int.natAbs_natCast]; rfl
        rw [this]
        exact Nat.le_trans (Nat.mul_le_mul_right 10 (Nat.le_trans (Nat.le_of_lt h1) h2)) (by decide +kernel)
      have s2 : Sm ((((l ++ m).getD i 0).toNat - 48 : Nat) : Int) := by
        refine .of ?_
        rw [Int.natAbs_natCast]
        exact Nat.le_trans (show _ ≤ 10 by omega) (by decide +kernel)
      refine .step (fun k => amount_read_c3_eq k _ _ _ _ _ _ _) (.ck (by omega) (.bind (ev_Of 10 (by decide) (by decide)) (.bind (ev_Times _ _ (sm i) h10) (.ck (by rw [size_B, size_B]; omega) ?_))))
      rw [B_app, size_B, bt_B hil, wu8_dig hdig]
      have hw : wi64 ((i : Int) + 1) = ((i + 1 : Nat) : Int) := by rw [wi64_id (by omega) (by omega)]; rfl
      refine .ck (by omega) (.ck (by omega) (.bind (ev_Of _ (by omega) (by omega)) (.bind (ev_Plus _ _ s1 s2) ?_)))
      rw [hw, ← e]
      exact ih (i + 1) (by omega) (by omega)
  exact key _ 0 rfl (Nat.zero_le _)

theorem ev_isWhole (l : List UInt8) (hl : l.length < 1125899906842624) : Ev (fun k => amount_isWhole k (B l)) (digB l && (decide (l.length = 1) || decide (l.head? ≠ some 48))) := by
  have hk := ev_kDig (B l) (by rw [size_B]; exact hl)
  rw [L_B] at hk
  refine .step (fun k => amount_isWhole_eq k _) (.bind hk ?_)
  rw [size_B]
  cases hd : digB l with
  | false =>
    refine .tt (by simp) (.tt (by simp) (.pure _))
  | true =>
    have hp := digB_len hd
    refine .tt (by simp) (.tt (by simp; omega) (.to (.pure _) ?_))
    have hb0 : bt (B l) 0 = (((l.getD 0 0).toNat : Nat) : Int) := bt_B (i := 0) (by omega)
    rw [hb0]
    cases l with
    | nil => simp at hp
    | cons b t =>
      by_cases h1 : t = []
      · subst h1; simp
      · have ht : 0 < t.length := List.length_pos_iff.2 h1
        have e1 : ((((b :: t).length : Nat) : Int) == 1) = false := by simp; omega
        rw [e1]
        simp only [cond_true, cond_false, List.getD_cons_zero, Bool.true_and]
        by_cases hb : b = 48
        · subst hb
          simp [h1]
        · have : ((b.toNat : Int)) ≠ 48 := fun z => hb (UInt8.toNat_inj.1 (by rw [show (48 : UInt8).toNat = 48 from rfl]; omega))
          simp [hb, this]
end Go.Proofs.YtognnibmcifjeaaDoor.Eq
namespace Go.Proofs.YtognnibmcifjeaaDoor.Eq
open Go Go.Ra
set_option linter.unusedVariables false

theorem countB_oneR (l : List UInt8) (c : UInt8) : Lib.countB (B l) (B [c]) = l.count c := by
  show Lib.count _ _ = _
  rw [← Lib.count_one]
  rfl
theorem ev_replLoop (l : List UInt8) (c : UInt8) (hl : l.length ≤ 140737488351232) : ∀ (m i st n : Nat) (acc : List UInt8), n = i + m → (l.drop st).count c = m → st ≤ l.length → acc.length ≤ st → n ≤ l.length →
    Ev (fun k => strings_Replace_c13 k (B l) (B [c]) (bs []) (B acc) (st : Int) (n : Int) (i : Int)) (B (acc ++ (l.drop st).filter (fun b => b != c))) := by
  intro m
  induction m with
  | zero =>
    intro i st n acc hn hc hst hacc hnl
    have e : (B l).extract ((st : Nat) : Int).toNat (B l).size = B (l.drop st) := by
      rw [B_ext, size_B, List.take_of_length_le (Nat.le_refl _), Int.toNat_natCast]
    have hf : (l.drop st).filter (fun b => b != c) = l.drop st := List.filter_eq_self.2 fun x hx => by
      have hne : x ≠ c := fun z => by rw [z] at hx; exact List.count_eq_zero.1 hc hx
      simpa using hne
    refine .step (fun k => strings_Replace_c13_eq k _ _ _ _ _ _ _) (.nk (by omega) (.ck (by omega) (.ck (by rw [size_B]; omega) ?_)))
    rw [e, hf]
    exact .ck (by rw [size_B, size_B, List.length_drop]; omega) (.to (.pure _) (by rw [B_app]))
  | succ m ih =>
    intro i st n acc hn hc hst hacc hnl
    have hmem : c ∈ l.drop st := List.count_pos_iff.1 (by omega)
    obtain ⟨x, y, hxy, hx⟩ := List.eq_append_cons_of_mem hmem
    have hlen : (l.drop st).length = x.length + (y.length + 1) := by rw [hxy]; simp
    rw [List.length_drop] at hlen
    have e : (B l).extract ((st : Nat) : Int).toNat (B l).size = B (l.drop st) := by
      rw [B_ext, size_B, List.take_of_length_le (Nat.le_refl _), Int.toNat_natCast]
    have hI : Ev (fun k => strings_Index k (B (l.drop st)) (B [c])) ((x.length : Nat) : Int) := by
      have h := ev_Idx (B (l.drop st)) c
      rw [L_B, hxy, indexByte_app hx] at h
      rw [hxy]
      exact .step (fun k => strings_Index_eq k _ _) (.ret h rfl)
    have hw : wi64 (((st : Nat) : Int) + ((x.length : Nat) : Int)) = ((st + x.length : Nat) : Int) := by rw [wi64_id (by omega) (by omega)]; omega
    have e2 : (B l).extract ((st : Nat) : Int).toNat ((st + x.length : Nat) : Int).toNat = B x := by
      rw [B_ext, Int.toNat_natCast, Int.toNat_natCast, List.drop_take, hxy, Nat.add_sub_cancel_left, List.take_left']
      rfl
    have s1 : (B [c]).size = 1 := rfl
    have s0 : (bs [] : ByteArray).size = 0 := rfl
    have hw2 : wi64 (((st + x.length : Nat) : Int) + (((B [c]).size : Nat) : Int)) = ((st + x.length + 1 : Nat) : Int) := by rw [s1, wi64_id (by omega) (by omega)]; omega
    have hd : l.drop (st + x.length + 1) = y := by
      rw [Nat.add_assoc, ← List.drop_drop, hxy, ← List.drop_drop, List.drop_left']
      · rfl
      · rfl
    have hcy : y.count c = m := by
      rw [hxy, List.count_append, List.count_cons_self, List.count_eq_zero.2 hx] at hc
      omega
    have hr := ih (i + 1) (st + x.length + 1) n (acc ++ x) (by omega) (by rw [hd]; exact hcy) (by omega) (by rw [List.length_append]; omega) hnl
    have hfx : x.filter (fun b => b != c) = x := List.filter_eq_self.2 fun z hz => by
      have hne : z ≠ c := fun w => by rw [w] at hz; exact hx hz
      simpa using hne
    have hfin : acc ++ (l.drop st).filter (fun b => b != c) = acc ++ x ++ (l.drop (st + x.length + 1)).filter (fun b => b != c) := by
      rw [hd, hxy, List.filter_append, hfx, List.filter_cons]
      simp
    rw [hfin]
    refine .step (fun k => strings_Replace_c13_eq k _ _ _ _ _ _ _) (.ck (by omega) (.ck (by omega) (.ck (by rw [size_B]; omega) ?_)))
    rw [e]
    refine .bind hI ?_
    rw [hw, e2, hw2]
    refine .ck (by omega) (.ck (by omega) (.ck (by rw [size_B]; omega) (.ck (by rw [size_B, size_B]; omega) (.ck (by rw [ByteArray.size_append, size_B, size_B, s0]; omega) ?_))))
    have ea : (B acc ++ B x) ++ bs [] = B (acc ++ x) := by
      rw [B_app]
      show B (acc ++ x) ++ B [] = _
      rw [B_app, List.append_nil]
    rw [ea, show wi64 (((i : Nat) : Int) + 1) = ((i + 1 : Nat) : Int) by rw [wi64_id (by omega) (by omega)]; omega]
    exact hr
theorem ev_Repl (l : List UInt8) (c : UInt8) (hl : l.length ≤ 140737488351232) : Ev (fun k => strings_ReplaceAll k (B l) (B [c]) (bs [])) (B (l.filter (fun b => b != c))) := by
  have s1 : (B [c]).size = 1 := rfl
  have s0 : (bs [] : ByteArray).size = 0 := rfl
  have hne : eqS (B [c]) (bs []) = false := eqS_ne fun z => by
    have := congrArg ByteArray.size z
    rw [s1, s0] at this
    omega
  have hC : Ev (fun k => strings_Count k (B l) (B [c])) ((l.count c : Nat) : Int) := .off (n := 0) fun k => by
    rw [strings_Count_eq, s1, countB_oneR]
    rfl
  have hcl : l.count c ≤ l.length := List.count_le_length
  refine .step (fun k => strings_ReplaceAll_eq k _ _ _) (.ret (.step (fun k => strings_Replace_eq k _ _ _ _) (.ff (by rw [hne]; rfl) (.bind hC ?_))) rfl)
  by_cases h0 : l.count c = 0
  · have hf : l.filter (fun b => b != c) = l := List.filter_eq_self.2 fun x hx => by
      have hnx : x ≠ c := fun z => by rw [z] at hx; exact List.count_eq_zero.1 h0 hx
      simpa using hnx
    exact .tt (by rw [h0]; rfl) (.to (.pure _) (by rw [hf]))
  · refine .ff (by simpa using h0) (.tt rfl (.step (fun k => strings_Replace_c8_eq k _ _ _ _) ?_))
    have hg : wi64 (((B l).size : Int) + wi64 (((l.count c : Nat) : Int) * wi64 (((bs [] : ByteArray).size : Int) - ((B [c]).size : Int)))) = ((l.length - l.count c : Nat) : Int) := by
      rw [size_B, s0, s1, wi64_id (x := (((0 : Nat) : Int) - ((1 : Nat) : Int))) (by omega) (by omega), show ((l.count c : Nat) : Int) * (((0 : Nat) : Int) - ((1 : Nat) : Int)) = -((l.count c : Nat) : Int) by omega, wi64_id (x := -((l.count c : Nat) : Int)) (by omega) (by omega), wi64_id (by omega) (by omega)]
      omega
    rw [hg]
    have hr := ev_replLoop l c hl (l.count c) 0 0 (l.count c) [] (by omega) (by rw [List.drop_zero]) (Nat.zero_le _) (Nat.zero_le _) hcl
    rw [List.drop_zero, List.nil_append] at hr
    exact .ck (by omega) (.ck (by omega) (.tt rfl hr))
end Go.Proofs.YtognnibmcifjeaaDoor.Eq
namespace Go.Proofs.YtognnibmcifjeaaDoor.Eq
open Go Go.Ra
set_option linter.unusedVariables false

theorem mk_byte {a : Int} (h0 : 0 ≤ a) (h : mkOk a) : a < 128 ∧ dgB a.toNat.toUInt8 = false ∧ a.toNat.toUInt8.toNat = a.toNat := by
  unfold mkOk at h
  have e : a.toNat.toUInt8.toNat = a.toNat := by
    show (UInt8.ofNat a.toNat).toNat = _
    rw [UInt8.toNat_ofNat']
    omega
  refine ⟨by omega, ?_, e⟩
  unfold dgB
  rw [e]
  simp
  omega
end Go.Proofs.YtognnibmcifjeaaDoor.Eq
namespace Go.Ra
open Go Go.Ra
/-- The pieces between marks. -/
def splL (c : UInt8) : List UInt8 → List (List UInt8)
  | [] => [[]]
  | b :: l => if b = c then [] :: splL c l else match splL c l with
    | p :: ps => (b :: p) :: ps
    | [] => [[b]]
theorem splL_none (c : UInt8) : ∀ l : List UInt8, c ∉ l → splL c l = [l]
  | [], _ => rfl
  | b :: l, h => by
    unfold splL
    rw [if_neg (fun z => h (by simp [z])), splL_none c l (fun z => h (by simp [z]))]
theorem splL_app (c : UInt8) (b : List UInt8) : ∀ a : List UInt8, c ∉ a → splL c (a ++ c :: b) = a :: splL c b
  | [], _ => by
    show (if c = c then [] :: splL c b else _) = _
    rw [if_pos rfl]
  | x :: a, h => by
    have ih := splL_app c b a (fun z => h (by simp [z]))
    show (if x = c then [] :: splL c (a ++ c :: b) else match splL c (a ++ c :: b) with
      | p :: ps => (x :: p) :: ps
      | [] => [[x]]) = _
    rw [if_neg (fun z => h (by simp [z])), ih]
def tlP (c : UInt8) (ps : List (List UInt8)) : List UInt8 := (ps.map fun p => c :: p).flatten
theorem tlP_cons (c : UInt8) (p : List UInt8) (ps : List (List UInt8)) : tlP c (p :: ps) = c :: (p ++ tlP c ps) := rfl
theorem tlP_snoc (c : UInt8) (p : List UInt8) (ps : List (List UInt8)) : tlP c (ps ++ [p]) = tlP c ps ++ c :: p := by simp [tlP]
theorem splL_join (c : UInt8) : ∀ (ps : List (List UInt8)) (p : List UInt8), c ∉ p → (∀ q ∈ ps, c ∉ q) → splL c (p ++ tlP c ps) = p :: ps
  | [], p, h, _ => by
    show splL c (p ++ []) = _
    rw [List.append_nil, splL_none c p h]
  | q :: ps, p, h, hs => by
    rw [tlP_cons, splL_app c _ p h, splL_join c ps q (hs q (by simp)) (fun x hx => hs x (by simp [hx]))]
theorem splL_back (c : UInt8) : ∀ l : List UInt8, ∃ p ps, splL c l = p :: ps ∧ l = p ++ tlP c ps
  | [] => ⟨[], [], rfl, rfl⟩
  | b :: l => by
    obtain ⟨p, ps, h1, h2⟩ := splL_back c l
    unfold splL
    by_cases h : b = c
    · rw [if_pos h]
      refine ⟨[], splL c l, rfl, ?_⟩
      rw [h1, tlP_cons, ← h2, h]
      rfl
    · rw [if_neg h, h1]
      refine ⟨b :: p, ps, rfl, ?_⟩
      rw [h2]; rfl
/-- Groups of three, the first one of at most three. -/
def rgOk : List (List UInt8) → Bool
  | [] => true
  | p :: ps => (digB p && decide (p.length ≤ 3)) && ps.all fun q => digB q && decide (q.length = 3)
theorem grpL_small (c : UInt8) (f : Nat) {l : List UInt8} (o : List UInt8) (h : l.length ≤ 3) : grpL c f l o = l ++ o := by
  cases f with
  | zero => rfl
  | succ f =>
    unfold grpL
    rw [if_neg (by omega)]
theorem grpL_pieces (c : UInt8) : ∀ (n : Nat) (ps : List (List UInt8)) (p o : List UInt8) (f : Nat), ps.length = n → 1 ≤ p.length → p.length ≤ 3 → (∀ q ∈ ps, q.length = 3) → n ≤ f → grpL c f (p ++ ps.flatten) o = p ++ tlP c ps ++ o
  | 0, ps, p, o, f, hn, h1, h3, _, _ => by
    have : ps = [] := List.eq_nil_of_length_eq_zero hn
    subst this
    simp only [List.flatten_nil, List.append_nil, tlP, List.map_nil]
    exact grpL_small c f o h3
  | n + 1, ps, p, o, f, hn, h1, h3, hq, hf => by
    rcases List.eq_nil_or_concat ps with rfl | ⟨ps', q, hcc⟩
    · simp at hn
    · rw [List.concat_eq_append] at hcc
      subst hcc
      have hql : q.length = 3 := hq q (by simp)
      obtain ⟨f, rfl⟩ : ∃ g, f = g + 1 := ⟨f - 1, by omega⟩
      have e : p ++ (ps' ++ [q]).flatten = (p ++ ps'.flatten) ++ q := by simp
      rw [e]
      unfold grpL
      have hlen : ((p ++ ps'.flatten) ++ q).length = (p ++ ps'.flatten).length + 3 := by rw [List.length_append, hql]
      have hp1 : 1 ≤ (p ++ ps'.flatten).length := by rw [List.length_append]; omega
      rw [if_pos (by omega), hlen, Nat.add_sub_cancel, List.take_left, List.drop_left]
      rw [grpL_pieces c n ps' p _ f (by simp at hn; exact hn) h1 h3 (fun x hx => hq x (by simp [hx])) (by omega), tlP_snoc]
      simp
theorem grpL_cut (c : UInt8) : ∀ (f : Nat) (l o : List UInt8), l ≠ [] → l.length ≤ f → ∃ p ps, grpL c f l o = p ++ tlP c ps ++ o ∧ 1 ≤ p.length ∧ p.length ≤ 3 ∧ (∀ q ∈ ps, q.length = 3) ∧ l = p ++ ps.flatten
  | 0, l, o, h, hl => absurd (List.eq_nil_of_length_eq_zero (by omega)) h
  | f + 1, l, o, h, hl => by
    have hpos := List.length_pos_iff.2 h
    by_cases h3 : 3 < l.length
    · have hne : l.take (l.length - 3) ≠ [] := fun z => by
        have := congrArg List.length z
        rw [List.length_take] at this
        simp at this
        omega
      obtain ⟨p, ps, e1, e2, e3, e4, e5⟩ := grpL_cut c f (l.take (l.length - 3)) ([c] ++ l.drop (l.length - 3) ++ o) hne (by rw [List.length_take]; omega)
      refine ⟨p, ps ++ [l.drop (l.length - 3)], ?_, e2, e3, fun q hq => ?_, ?_⟩
      · unfold grpL
        rw [if_pos h3, e1, tlP_snoc]
        simp
      · rcases List.mem_append.1 hq with hq | hq
        · exact e4 q hq
        · rw [List.mem_singleton.1 hq, List.length_drop]; omega
      · have : (ps ++ [l.drop (l.length - 3)]).flatten = ps.flatten ++ l.drop (l.length - 3) := by simp
        rw [this, ← List.append_assoc, ← e5, List.take_append_drop]
    · refine ⟨l, [], ?_, hpos, by omega, by simp, by simp⟩
      rw [grpL_small c _ o (by omega)]
      simp [tlP]
theorem filter_ne {c : UInt8} {l : List UInt8} (h : c ∉ l) : l.filter (fun b => b != c) = l := List.filter_eq_self.2 fun x hx => by
  have : x ≠ c := fun z => h (z ▸ hx)
  simpa using this
theorem filter_tl {c : UInt8} : ∀ ps : List (List UInt8), (∀ q ∈ ps, c ∉ q) → (tlP c ps).filter (fun b => b != c) = ps.flatten
  | [], _ => rfl
  | q :: ps, h => by
    rw [tlP_cons, List.filter_cons]
    simp only [bne_self_eq_false, Bool.false_eq_true, if_false]
    rw [List.filter_append, filter_ne (h q (by simp)), filter_tl ps (fun x hx => h x (by simp [hx]))]
    rfl
/-- What is grouped rightly is the grouped text of its digits. -/
theorem rg_iff {c : UInt8} (hc : dgB c = false) (w : List UInt8) : rgOk (splL c w) = true ↔ digB (w.filter fun b => b != c) = true ∧ grp c (w.filter fun b => b != c) = w := by
  obtain ⟨p, ps, h1, h2⟩ := splL_back c w
  have nod : ∀ {l : List UInt8}, digB l = true → c ∉ l := fun {l} hl z => by
    have := digB_all hl c z
    rw [hc] at this
    cases this
  constructor
  · intro h
    rw [h1] at h
    unfold rgOk at h
    simp only [Bool.and_eq_true, decide_eq_true_eq, List.all_eq_true] at h
    obtain ⟨⟨d1, d2⟩, d3⟩ := h
    have hn := nod d1
    have hns : ∀ q ∈ ps, c ∉ q := fun q hq => nod (d3 q hq).1
    have hf : w.filter (fun b => b != c) = p ++ ps.flatten := by
      rw [h2, List.filter_append, filter_ne hn, filter_tl ps hns]
    have hp1 := digB_len d1
    refine ⟨?_, ?_⟩
    · rw [hf]
      refine digB_iff.2 ⟨fun z => ?_, fun b hb => ?_⟩
      · have hz := congrArg List.length z
        rw [List.length_append, List.length_nil] at hz
        omega
      · rcases List.mem_append.1 hb with hb | hb
        · exact digB_all d1 b hb
        · obtain ⟨q, hq, hbq⟩ := List.mem_flatten.1 hb
          exact digB_all (d3 q hq).1 b hbq
    · rw [hf]
      unfold grp
      have hle : ∀ qs : List (List UInt8), (∀ q ∈ qs, q.length = 3) → qs.length ≤ qs.flatten.length := fun qs => by
        induction qs with
        | nil => intro _; simp
        | cons q qs ih =>
          intro hq
          have := ih fun x hx => hq x (by simp [hx])
          have h3 := hq q (by simp)
          rw [List.flatten_cons, List.length_append, List.length_cons]
          omega
      have := hle ps fun q hq => (d3 q hq).2
      rw [grpL_pieces c ps.length ps p [] _ rfl hp1 d2 (fun q hq => (d3 q hq).2) (by rw [List.length_append]; omega), List.append_nil]
      exact h2.symm
  · rintro ⟨h, hg⟩
    have hne : w.filter (fun b => b != c) ≠ [] := (digB_iff.1 h).1
    obtain ⟨p', ps', e1, e2, e3, e4, e5⟩ := grpL_cut c (w.filter fun b => b != c).length (w.filter fun b => b != c) [] hne (Nat.le_refl _)
    have hall := digB_all h
    rw [e5] at hall
    have hp' : ∀ b ∈ p', dgB b = true := fun b hb => hall b (List.mem_append.2 (.inl hb))
    have hps : ∀ q ∈ ps', ∀ b ∈ q, dgB b = true := fun q hq b hb => hall b (List.mem_append.2 (.inr (List.mem_flatten.2 ⟨q, hq, hb⟩)))
    have nod' : ∀ {l : List UInt8}, (∀ b ∈ l, dgB b = true) → c ∉ l := fun {l} hl z => by
      have := hl c z
      rw [hc] at this
      cases this
    have hw : w = p' ++ tlP c ps' := by
      rw [← hg]
      unfold grp
      rw [e1, List.append_nil]
    rw [hw, splL_join c ps' p' (nod' hp') (fun q hq => nod' (hps q hq))]
    unfold rgOk
    simp only [Bool.and_eq_true, decide_eq_true_eq, List.all_eq_true]
    refine ⟨⟨digB_iff.2 ⟨fun z => by rw [z] at e2; simp at e2, hp'⟩, e3⟩, fun q hq => ⟨digB_iff.2 ⟨fun z => ?_, hps q hq⟩, e4 q hq⟩⟩
    have := e4 q hq
    rw [z] at this
    simp at this
theorem splitK_one (c : UInt8) : ∀ (n : Nat) (s : List UInt8), s.length ≤ n → Lib.splitK [c] 0 (s.count c) s = splL c s
  | n, s, hn => by
    by_cases h : c ∈ s
    · obtain ⟨a, b, rfl, ha⟩ : ∃ a b, s = a ++ c :: b ∧ c ∉ a := by
        rcases Go.Proofs.YtognnibmcifjeaaDoor.Eq.cutB_cases s c with ⟨z, _⟩ | ⟨a, b, e, ha, _⟩
        · exact absurd h z
        · exact ⟨a, b, e, ha⟩
      have e : (a ++ c :: b).count c = b.count c + 1 := by
        rw [List.count_append, List.count_cons_self, List.count_eq_zero_of_not_mem ha]; omega
      cases n with
      | zero => simp at hn
      | succ n =>
        have hi : Lib.index (a ++ c :: b) [c] = a.length := by rw [Lib.index_one]; exact Go.Proofs.YtognnibmcifjeaaDoor.Eq.indexByte_app ha
        rw [e, splL_app c b a ha]
        unfold Lib.splitK
        have hm : ¬ (Lib.index (a ++ c :: b) [c] == -1) = true := by rw [hi, beq_iff_eq]; omega
        rw [if_neg hm, hi, Int.toNat_natCast]
        have e2 : (a ++ c :: b).drop (a.length + [c].length) = b := by simp
        rw [e2, splitK_one c n b (by simp at hn; omega), Nat.add_zero, List.take_left]
    · rw [List.count_eq_zero_of_not_mem h, splL_none c s h]
      rfl
end Go.Ra
namespace Go.Proofs.YtognnibmcifjeaaDoor.Eq
open Go Go.Ra
set_option linter.unusedVariables false
set_option linter.unusedSimpArgs false

theorem countB_one (l : List UInt8) (c : UInt8) : Lib.countB (B l) (B [c]) = l.count c := by
  show Lib.count _ _ = _
  rw [← Lib.count_one]
  rfl
theorem ev_Split (l : List UInt8) (c : UInt8) (hl : l.length < 4294967281) : Ev (fun k => strings_Split k (B l) (B [c])) ((splL c l).map B) := by
  refine .off (n := 0) fun k => ?_
  have e2 : (B [c]).size = 1 := rfl
  rw [strings_Split_eq, size_B, e2, decide_eq_true hl, decide_eq_true (Nat.le_refl 1)]
  show some _ = some _
  congr 1
  have h := Lib.splitB_data (B [c]) 0 (Lib.countB (B l) (B [c])) (B l)
  have e3 : (B l).data.toList = l := L_B l
  have e4 : (B [c]).data.toList = [c] := rfl
  rw [e3, e4, countB_one, splitK_one c l.length l (Nat.le_refl _)] at h
  rw [← h, List.map_map]
  have : (B ∘ fun x : ByteArray => x.data.toList) = id := funext fun x => B_L x
  rw [this, List.map_id, countB_one]
theorem ev_rgloop (ps : List (List UInt8)) (hp : ∀ p ∈ ps, p.length < 1125899906842624) (hn : ps.length < 1125899906842624) : Ev (fun k => interchangeref1_regrouped_c3 k (ps.map B) ((ps.map B).length : Int) 0) (rgOk ps) := by
  have at' : ∀ i, i < ps.length → (ps.map B).getD i (bs []) = B (ps.getD i []) := fun i hi => by
    rw [List.getD_eq_getElem?_getD, List.getElem?_map, List.getElem?_eq_getElem hi, List.getD_eq_getElem?_getD, List.getElem?_eq_getElem hi]
    rfl
  have hsm : ∀ i, i < ps.length → (ps.getD i []).length < 1125899906842624 := fun i hi => by
    rw [List.getD_eq_getElem?_getD, List.getElem?_eq_getElem hi]
    exact hp _ (List.getElem_mem hi)
  have key : ∀ (j i : Nat), ps.length - i = j → 1 ≤ i → i ≤ ps.length → Ev (fun k => interchangeref1_regrouped_c3 k (ps.map B) (ps.length : Int) (i : Int)) ((ps.drop i).all fun q => digB q && decide (q.length = 3)) := by
    intro j
    induction j with
    | zero =>
      intro i hj h1 hi
      refine .step (fun k => interchangeref1_regrouped_c3_eq k _ _ _) (.nk (by omega) (.to (.pure _) ?_))
      rw [List.drop_of_length_le (by omega)]; rfl
    | succ j ih =>
      intro i hj h1 hi
      have hil : i < ps.length := by omega
      have hd : ps.drop i = ps.getD i [] :: ps.drop (i + 1) := by
        rw [List.drop_eq_getElem_cons hil, List.getD_eq_getElem?_getD, List.getElem?_eq_getElem hil]; rfl
      refine .step (fun k => interchangeref1_regrouped_c3_eq k _ _ _) (.ck (by omega) (.ck (by omega) (.ck (by rw [List.length_map]; omega) ?_)))
      rw [Int.toNat_natCast, at' i hil, hd, List.all_cons, size_B]
      have hs := hsm i hil
      generalize ps.getD i [] = q at hs
      refine .bind (ev_rDigB q hs) ?_
      rw [decide_eq_true (by omega : (i : Int) > 0), show ((i : Int) == 0) = false by (have : (i : Int) ≠ 0 := by omega); simpa using this, show wi64 ((i : Int) + 1) = ((i + 1 : Nat) : Int) by rw [wi64_id (by omega) (by omega)]; rfl]
      have e3 : (((q.length : Nat) : Int) != 3) = !decide (q.length = 3) := by
        by_cases h : q.length = 3
        · rw [h]; rfl
        · have : ((q.length : Nat) : Int) ≠ 3 := by omega
          rw [decide_eq_false h]; simpa using this
      rw [e3]
      cases hq : digB q with
      | false => exact .tt rfl (.pure _)
      | true =>
        cases h3 : decide (q.length = 3) with
        | false => exact .tt rfl (.pure _)
        | true => exact .ff rfl (by simpa using ih (i + 1) (by omega) (by omega) (by omega))
  rw [List.length_map]
  cases ps with
  | nil => exact .step (fun k => interchangeref1_regrouped_c3_eq k _ _ _) (.nk (by simp) (.pure _))
  | cons p ps' =>
    have h0 := at' 0 (by simp)
    have hs := hsm 0 (by simp)
    refine .step (fun k => interchangeref1_regrouped_c3_eq k _ _ _) (.ck (by simp only [List.length_cons]; omega) (.ck (by omega) (.ck (by simp only [List.length_map, List.length_cons]; omega) ?_)))
    show Ev (fun k => (interchangeref1_isDigits k (B p)).bind fun y2 => cond (cond (cond (!y2) true (cond (decide ((0 : Int) > 0)) (((B p).size : Int) != 3) false)) true (cond ((0 : Int) == 0) (decide (((B p).size : Int) > 3)) false)) (some false) (interchangeref1_regrouped_c3 k ((p :: ps').map B) ((p :: ps').length : Int) (wi64 (0 + 1)))) _
    refine .bind (ev_rDigB p hs) ?_
    rw [size_B, show wi64 (0 + 1) = ((1 : Nat) : Int) from wi64_id (by decide) (by decide)]
    show Ev _ ((digB p && decide (p.length ≤ 3)) && ps'.all fun q => digB q && decide (q.length = 3))
    cases hq : digB p with
    | false => exact .tt rfl (.pure _)
    | true =>
      by_cases h3 : p.length ≤ 3
      · rw [decide_eq_true h3, decide_eq_false (by omega : ¬ ((p.length : Nat) : Int) > 3)]
        exact .ff rfl (key _ 1 rfl (Nat.le_refl _) (by simp))
      · rw [decide_eq_false h3, decide_eq_true (by omega : ((p.length : Nat) : Int) > 3)]
        exact .tt rfl (.pure _)
theorem splL_len (c : UInt8) : ∀ l : List UInt8, (splL c l).length ≤ l.length + 1 ∧ ∀ p ∈ splL c l, p.length ≤ l.length
  | [] => ⟨by simp [splL], fun p hp => by simp [splL] at hp; simp [hp]⟩
  | b :: l => by
    obtain ⟨h1, h2⟩ := splL_len c l
    unfold splL
    by_cases h : b = c
    · rw [if_pos h]
      refine ⟨by simp; omega, fun p hp => ?_⟩
      rcases List.mem_cons.1 hp with rfl | hp
      · simp
      · have := h2 p hp; simp; omega
    · rw [if_neg h]
      obtain ⟨q, qs, e1, e2⟩ := splL_back c l
      rw [e1] at h1 h2 ⊢
      refine ⟨by simp at h1 ⊢; omega, fun p hp => ?_⟩
      rcases List.mem_cons.1 hp with rfl | hp
      · have := h2 q (by simp); simp; omega
      · have := h2 p (by simp [hp]); simp; omega
theorem ev_regrouped (w : List UInt8) (c : Int) (h0 : 0 ≤ c) (h : c < 128) (hl : w.length ≤ 1048576) : Ev (fun k => interchangeref1_regrouped k (B w) c) (rgOk (splL c.toNat.toUInt8 (cutP w).1)) := by
  have ht := ev_TrimPre45 (B w)
  rw [L_B] at ht
  have hcl : (cutP w).1.length ≤ w.length := by
    unfold cutP
    split
    · simp
    · exact Nat.le_refl _
  have hs := splL_len c.toNat.toUInt8 (cutP w).1
  refine .step (fun k => interchangeref1_regrouped_eq k _ _) (.bind ht ?_)
  rw [wi32_id (by omega) (by omega), enc_ascii h0 h]
  exact .bind (ev_Split _ _ (by omega)) (ev_rgloop _ (fun p hp => by have := hs.2 p hp; omega) (by omega))
end Go.Proofs.YtognnibmcifjeaaDoor.Eq
namespace Go.Proofs.YtognnibmcifjeaaDoor.Eq
open Go Go.Ra
set_option linter.unusedVariables false
set_option linter.unusedSimpArgs false
/-- What a text is read as. -/
def bad : (Int × Int) × Int := ((0, 0), 10)
def wholeL (w : List UInt8) : Bool := digB w && (decide (w.length = 1) || decide (w.head? ≠ some 48))
def rtc (neg : Bool) (w f : List UInt8) (has : Bool) : (Int × Int) × Int := if (wholeL w && (!has || (digB f && decide (f.length ≤ 9)))) = true then rdR neg w f else bad
def rtx (l : List UInt8) : (Int × Int) × Int := if 40 < l.length then bad else rtc (cutP l).2 (cutB (cutP l).1 46).1 (cutB (cutP l).1 46).2.1 (cutB (cutP l).1 46).2.2
theorem cutP_le (l : List UInt8) : (cutP l).1.length ≤ l.length := by
  unfold cutP
  split
  · simp
  · exact Nat.le_refl _
theorem cutB_le (l : List UInt8) (c : UInt8) : (cutB l c).1.length + (cutB l c).2.1.length ≤ l.length := by
  rcases cutB_cases l c with ⟨_, h⟩ | ⟨a, b, rfl, _, h⟩
  · rw [h]; simp
  · rw [h]; simp
theorem cutB_no (l : List UInt8) (c : UInt8) (h : (cutB l c).2.2 = false) : (cutB l c).2.1 = [] := by
  rcases cutB_cases l c with ⟨_, e⟩ | ⟨a, b, rfl, _, e⟩
  · rw [e]
  · rw [e] at h; cases h
theorem dv_zero : ∀ l : List UInt8, (∀ b ∈ l, dgB b = true) → (dv l = 0 ↔ l.all (fun b => b == 48) = true)
  | [], _ => ⟨fun _ => rfl, fun _ => rfl⟩
  | b :: l, h => by
    have hb := dgB_iff.1 (h b (by simp))
    have ih := dv_zero l fun x hx => h x (by simp [hx])
    have e : dv (b :: l) = (b.toNat - 48) * 10 ^ l.length + dv l := by
      have := dv_app [b] l
      rw [dv_one] at this
      exact this
    have hp : 0 < 10 ^ l.length := Nat.pow_pos (by decide)
    rw [List.all_cons, Bool.and_eq_true, ← ih, e]
    constructor
    · intro hz
      have h0 : (b.toNat - 48) * 10 ^ l.length = 0 := by omega
      have hb0 : b.toNat - 48 = 0 := by
        rcases Nat.mul_eq_zero.1 h0 with q | q
        · exact q
        · omega
      refine ⟨?_, by omega⟩
      have : b = 48 := UInt8.toNat_inj.1 (by rw [show (48 : UInt8).toNat = 48 from rfl]; omega)
      simp [this]
    · rintro ⟨h1, h2⟩
      have : b = 48 := by simpa using h1
      rw [this, h2]
      simp

theorem rdR_bad {neg : Bool} {w f : List UInt8} : rdR neg w f = (if neg = true ∧ dv (w ++ f) = 0 then bad else if dv (w ++ f) ≤ 1000000000000000 then (((if neg = true then -((dv (w ++ f) : Nat) : Int) else ((dv (w ++ f) : Nat) : Int)), ((f.length : Nat) : Int)), 0) else ((0, 0), 1)) := by
  unfold rdR mk bad
  cases neg with
  | true =>
    rw [if_pos rfl]
    by_cases hz : dv (w ++ f) = 0
    · rw [if_pos hz, if_pos ⟨rfl, hz⟩]
    · rw [if_neg hz, if_neg (show ¬ (true = true ∧ dv (w ++ f) = 0) from fun z => hz z.2)]
      by_cases hl : dv (w ++ f) ≤ 1000000000000000
      · rw [if_pos (by omega), if_pos hl, if_pos rfl]
      · rw [if_neg (by omega), if_neg hl]
  | false =>
    rw [if_neg (by decide), if_neg (show ¬ (false = true ∧ dv (w ++ f) = 0) from fun z => by cases z.1)]
    by_cases hl : dv (w ++ f) ≤ 1000000000000000
    · rw [if_pos (by omega), if_pos hl, if_neg (by decide)]
    · rw [if_neg (by omega), if_neg hl]
theorem whole_dg {w : List UInt8} (h : wholeL w = true) : digB w = true := by
  unfold wholeL at h
  rw [Bool.and_eq_true] at h
  exact h.1
theorem dg_both {w f : List UInt8} {has : Bool} (hw : wholeL w = true) (hf : (!has || (digB f && decide (f.length ≤ 9))) = true) (hno : has = false → f = []) : ∀ b ∈ w ++ f, dgB b = true := by
  intro b hb
  rcases List.mem_append.1 hb with hb | hb
  · exact digB_all (whole_dg hw) b hb
  · cases has with
    | false => rw [hno rfl] at hb; cases hb
    | true =>
      simp only [Bool.not_true, Bool.false_or, Bool.and_eq_true] at hf
      exact digB_all hf.1 b hb
theorem ev_aRead (l : List UInt8) (hl : l.length ≤ 140737488351232) : Ev (fun k => amount_ReadText k (B l)) (rtx l) := by
  have hcp := ev_CutPre (B l)
  rw [L_B] at hcp
  have hle := cutP_le l
  have hcb := ev_Cut (B (cutP l).1) 46 (by rw [size_B]; omega)
  rw [L_B] at hcb
  have hle2 := cutB_le (cutP l).1 46
  have hno := cutB_no (cutP l).1 46
  refine .step (fun k => amount_ReadText_eq k _) (.bind hcp (.bind hcb ?_))
  unfold rtx
  generalize (cutP l).2 = neg
  generalize (cutB (cutP l).1 46).2.2 = has at hno
  generalize (cutB (cutP l).1 46).2.1 = f at hno hle2
  generalize (cutB (cutP l).1 46).1 = w at hle2
  simp only [size_B]
  by_cases hX : 40 < l.length
  · rw [if_pos hX, decide_eq_true (by omega : ((l.length : Nat) : Int) > 40)]
    exact .bind (x := false) (.ff rfl (.pure _)) (.bind (x := false) (.ff rfl (.pure _)) (.tt rfl (.pure _)))
  · rw [if_neg hX, decide_eq_false (by omega : ¬ ((l.length : Nat) : Int) > 40)]
    refine .bind (.tt rfl (ev_isWhole w (by omega))) ?_
    have hwd : (digB w && (decide (w.length = 1) || decide (w.head? ≠ some 48))) = wholeL w := rfl
    rw [hwd]
    unfold rtc
    cases hw : wholeL w with
    | false =>
      exact .bind (x := false) (.ff rfl (.pure _)) (.tt rfl (.pure _))
    | true =>
      cases has with
      | false =>
        have hf := hno rfl
        subst hf
        refine .bind (x := false) (.ff rfl (.pure _)) (.ff rfl (.ret ?_ rfl))
        exact ev_aread neg w [] (dg_both (has := false) hw rfl (fun _ => rfl)) (by simp; omega)
      | true =>
        refine .bind (.tt rfl (ev_kDigB f (by omega))) ?_
        cases hd : digB f with
        | false => exact .tt rfl (.pure _)
        | true =>
          by_cases h9 : f.length ≤ 9
          · rw [decide_eq_false (by omega : ¬ ((f.length : Nat) : Int) > 9), decide_eq_true h9]
            refine .ff rfl (.ret ?_ rfl)
            exact ev_aread neg w f (dg_both (has := true) hw (by rw [hd, decide_eq_true h9]; rfl) (fun z => by cases z)) (by rw [List.length_append]; omega)
          · rw [decide_eq_true (by omega : ((f.length : Nat) : Int) > 9), decide_eq_false h9]
            exact .tt rfl (.pure _)
theorem ev_Trim48 (l : List UInt8) (hl : l.length ≤ 1000) : Ev (fun k => strings_Trim k (B l) (bs [48])) (B (Lib.trimS l [48])) := by
  refine .off (n := 0) fun k => ?_
  have e3 : (B l).data.toList = l := L_B l
  rw [strings_Trim_eq, size_B, e3, decide_eq_true (by omega)]
  rfl
theorem trim48 (l : List UInt8) : eqS (B (Lib.trimS l [48])) (bs []) = l.all (fun b => b == 48) := by
  have h1 : (fun x : UInt8 => [48].contains x) = fun b => b == 48 := funext fun b => by
    by_cases h : b = 48 <;> simp [h]
  have := trimS_nil l [48]
  rw [h1] at this
  rw [eqS_nil, L_B]
  cases hl : l.all (fun b => b == 48) with
  | true => rw [this.2 hl]; rfl
  | false =>
    have h2 : Lib.trimS l [48] ≠ [] := fun z => by rw [this.1 z] at hl; cases hl
    cases ht : Lib.trimS l [48] with
    | nil => exact absurd ht h2
    | cons => rfl
theorem ev_rRead (l : List UInt8) (hl : l.length ≤ 140737488351232) : Ev (fun k => interchangeref1_ReadText k (B l)) (rtx l) := by
  refine .step (fun k => interchangeref1_ReadText_eq k _) ?_
  rw [size_B]
  unfold rtx
  by_cases hX : 40 < l.length
  · rw [if_pos hX]
    exact .ck (by omega) (.pure _)
  rw [if_neg hX]
  refine .nk (by omega) ?_
  have hcp := ev_CutPre (B l)
  rw [L_B] at hcp
  have hle := cutP_le l
  have hcb := ev_Cut (B (cutP l).1) 46 (by rw [size_B]; omega)
  rw [L_B] at hcb
  have hle2 := cutB_le (cutP l).1 46
  have hno := cutB_no (cutP l).1 46
  refine .bind hcp (.bind hcb ?_)
  generalize (cutP l).2 = neg
  generalize (cutB (cutP l).1 46).2.2 = has at hno
  generalize (cutB (cutP l).1 46).2.1 = f at hno hle2
  generalize (cutB (cutP l).1 46).1 = w at hle2
  simp only [size_B]
  refine .bind (ev_rDigB w (by omega)) ?_
  have hz : (cond (decide (((w.length : Nat) : Int) > 1)) (bt (B w) 0 == 48) false) = (decide (1 < w.length) && decide (w.head? = some 48)) := by
    by_cases h1 : 1 < w.length
    · have hb0 : bt (B w) 0 = (((w.getD 0 0).toNat : Nat) : Int) := bt_B (i := 0) (by omega)
      rw [hb0, decide_eq_true h1, decide_eq_true (by omega : ((w.length : Nat) : Int) > 1)]
      cases w with
      | nil => simp at h1
      | cons b t =>
        simp only [List.getD_cons_zero, List.head?_cons, Option.some.injEq, cond_true, Bool.true_and]
        by_cases h : b = 48
        · rw [h]; rfl
        · rw [decide_eq_false h]
          have : ((b.toNat : Nat) : Int) ≠ 48 := fun z => h (UInt8.toNat_inj.1 (by rw [show (48 : UInt8).toNat = 48 from rfl]; omega))
          simpa using this
    · rw [decide_eq_false h1, decide_eq_false (by omega : ¬ ((w.length : Nat) : Int) > 1)]; rfl
  rw [hz]
  refine .tt (Bool.or_true _) (.tt (bor' fun q => ?_) ?_)
  · rw [Bool.and_eq_true] at q
    have := of_decide_eq_true q.2
    exact decide_eq_true (by omega)
  unfold rtc
  cases hd : digB w with
  | false =>
    have hw : wholeL w = false := by unfold wholeL; rw [hd]; rfl
    rw [hw]
    exact .bind (x := false) (.ff rfl (.pure _)) (.tt rfl (.pure _))
  | true =>
    have hww : wholeL w = !(decide (1 < w.length) && decide (w.head? = some 48)) := by
      unfold wholeL
      rw [hd]
      have := digB_len hd
      by_cases h1 : w.length = 1
      · rw [decide_eq_true h1, decide_eq_false (by omega : ¬ 1 < w.length)]; rfl
      · rw [decide_eq_false h1, decide_eq_true (by omega : 1 < w.length)]
        by_cases h2 : w.head? = some 48
        · simp [h2]
        · simp [h2]
    cases hq : (decide (1 < w.length) && decide (w.head? = some 48)) with
    | true =>
      rw [hq] at hww
      rw [hww]
      exact .bind (x := false) (.ff rfl (.pure _)) (.tt rfl (.pure _))
    | false =>
      rw [hq] at hww
      have hww' : wholeL w = true := hww
      rw [hww']
      have tail : (∀ b ∈ w ++ f, dgB b = true) → Ev (fun k => cond ((!neg) || (decide (w.length + f.length ≤ 9223372036854775807))) (
          (cond neg (strings_Trim k (B w ++ B f) (bs [48])) (some (bs []))).bind fun y4 =>
          cond (cond neg (eqS y4 (bs [])) false) (some ((0, 0), (10 : Int))) (
            cond (decide (w.length + f.length ≤ 9223372036854775807)) (
            (interchangeref1_ofDigits k (B w ++ B f)).bind fun y5 =>
            cond (!y5.2) (some ((0, 0), 1)) (
              cond neg (some (((wi64 (0 - y5.1)), ((f.length : Nat) : Int)), 0)) (some ((y5.1, ((f.length : Nat) : Int)), 0)))) none)) none) (rdR neg w f) := by
        intro hall
        rw [B_app]
        have hlen : (w ++ f).length ≤ 1000 := by rw [List.length_append]; omega
        have hod := ev_ofDigits (B (w ++ f)) (by rw [size_B]; exact hlen) (by rw [L_B]; exact hall)
        rw [L_B] at hod
        rw [rdR_bad]
        refine .tt (bor' fun _ => decide_eq_true (by omega)) ?_
        have fin : ¬ (neg = true ∧ dv (w ++ f) = 0) → Ev (fun k => cond (decide (w.length + f.length ≤ 9223372036854775807)) (
            (interchangeref1_ofDigits k (B (w ++ f))).bind fun y5 =>
            cond (!y5.2) (some ((0, 0), (1 : Int))) (
              cond neg (some (((wi64 (0 - y5.1)), ((f.length : Nat) : Int)), 0)) (some ((y5.1, ((f.length : Nat) : Int)), 0)))) none) (if neg = true ∧ dv (w ++ f) = 0 then bad else if dv (w ++ f) ≤ 1000000000000000 then (((if neg = true then -((dv (w ++ f) : Nat) : Int) else ((dv (w ++ f) : Nat) : Int)), ((f.length : Nat) : Int)), 0) else ((0, 0), 1)) := by
          intro hn
          rw [if_neg hn]
          refine .ck (by omega) (.bind hod ?_)
          by_cases hl : dv (w ++ f) ≤ 1000000000000000
          · rw [if_pos hl, if_pos hl]
            cases neg with
            | true =>
              refine .ff rfl (.tt rfl (.to (.pure _) ?_))
              rw [wi64_id (by simp only; omega) (by simp only; omega), if_pos rfl]
              simp
            | false => exact .ff rfl (.ff rfl (.pure _))
          · rw [if_neg hl, if_neg hl]
            exact .tt rfl (.pure _)
        cases neg with
        | true =>
          refine .bind (.tt rfl (ev_Trim48 _ hlen)) ?_
          rw [trim48]
          by_cases h0 : dv (w ++ f) = 0
          · rw [(dv_zero _ hall).1 h0, if_pos ⟨rfl, h0⟩]
            exact .tt rfl (.pure _)
          · have : ((w ++ f).all fun b => b == 48) = false := by
              cases hq2 : ((w ++ f).all fun b => b == 48) with
              | false => rfl
              | true => exact absurd ((dv_zero _ hall).2 hq2) h0
            rw [this]
            exact .ff rfl (fin (fun z => h0 z.2))
        | false =>
          exact .bind (x := bs []) (.ff rfl (.pure _)) (.ff rfl (fin (fun z => by cases z.1)))
      cases has with
      | false =>
        have hf := hno rfl
        subst hf
        refine .bind (x := false) (.ff rfl (.pure _)) (.ff rfl ?_)
        exact tail (dg_both (has := false) hww' rfl (fun _ => rfl))
      | true =>
        refine .bind (.tt rfl (ev_rDigB f (by omega))) ?_
        cases hdf : digB f with
        | false => exact .tt rfl (.pure _)
        | true =>
          by_cases h9 : f.length ≤ 9
          · rw [decide_eq_false (by omega : ¬ ((f.length : Nat) : Int) > 9), decide_eq_true h9]
            exact .ff rfl (tail (dg_both (has := true) hww' (by rw [hdf, decide_eq_true h9]; rfl) (fun z => by cases z)))
          · rw [decide_eq_true (by omega : ((f.length : Nat) : Int) > 9), decide_eq_false h9]
            exact .tt rfl (.pure _)

/-! ### the implied point -/
def rix (l : List UInt8) (b : Int) : (Int × Int) × Int :=
  if ¬ (0 ≤ b ∧ b ≤ 9) then ((0, 0), 1) else if 30 < l.length ∨ digB (cutP l).1 = false then bad
  else if dv (cutP l).1 ≤ 1000000000000000 then (((if (cutP l).2 = true then -((dv (cutP l).1 : Nat) : Int) else ((dv (cutP l).1 : Nat) : Int)), b), 0) else ((0, 0), 1)
theorem ev_aReadImp (l : List UInt8) (b : Int) (hl : l.length ≤ 140737488351232) : Ev (fun k => amount_ReadImplied k (B l) b) (rix l b) := by
  refine .step (fun k => amount_ReadImplied_eq k _ _) (.bind (ev_Outside b 0 9) ?_)
  unfold rix
  by_cases hb : 0 ≤ b ∧ b ≤ 9
  · rw [if_neg (not_not_intro hb), decide_eq_false (by omega)]
    have hcp := ev_CutPre (B l)
    rw [L_B] at hcp
    have hle := cutP_le l
    refine .ff rfl (.bind hcp ?_)
    generalize (cutP l).2 = neg
    generalize (cutP l).1 = w at hle
    simp only [size_B]
    by_cases hX : 30 < l.length
    · rw [if_pos (.inl hX), decide_eq_true (by omega : ((l.length : Nat) : Int) > 30)]
      exact .bind (x := false) (.ff rfl (.pure _)) (.tt rfl (.pure _))
    · rw [decide_eq_false (by omega : ¬ ((l.length : Nat) : Int) > 30)]
      refine .bind (.tt rfl (ev_kDigB w (by omega))) ?_
      cases hd : digB w with
      | false => rw [if_pos (.inr rfl)]; exact .tt rfl (.pure _)
      | true =>
        rw [if_neg (fun z => by rcases z with z | z; exact hX z; cases z)]
        have hrd := ev_aread false w [] (by simpa using digB_all hd) (by simp; omega)
        have hrr : rdR false w [] = mk ((dv w : Nat) : Int) 0 := by unfold rdR; rw [if_neg (by decide), List.append_nil]; rfl
        rw [hrr] at hrd
        refine .ff rfl (.bind hrd ?_)
        by_cases hv : dv w ≤ 1000000000000000
        · have hmk : mk ((dv w : Nat) : Int) 0 = ((((dv w : Nat) : Int), 0), 0) := by unfold mk; rw [if_pos (by omega)]
          rw [hmk, if_pos hv]
          cases neg with
          | true =>
            refine .ff rfl (.tt rfl (.to (.pure _) ?_))
            rw [wi64_id (by simp only; omega) (by simp only; omega), if_pos rfl]
            simp
          | false => exact .ff rfl (.ff rfl (.pure _))
        · have hmk : mk ((dv w : Nat) : Int) 0 = ((0, 0), 1) := by unfold mk; rw [if_neg (by omega)]
          rw [hmk, if_neg hv]
          exact .tt rfl (.pure _)
  · rw [if_pos hb, decide_eq_true (by omega)]
    exact .tt rfl (.pure _)
theorem ev_rReadImp (l : List UInt8) (b : Int) (hl : l.length ≤ 140737488351232) : Ev (fun k => interchangeref1_ReadImplied k (B l) b) (rix l b) := by
  refine .step (fun k => interchangeref1_ReadImplied_eq k _ _) (.bind (ev_within b 0 9) ?_)
  unfold rix
  by_cases hb : 0 ≤ b ∧ b ≤ 9
  · rw [if_neg (not_not_intro hb), decide_eq_true hb]
    have hcp := ev_CutPre (B l)
    rw [L_B] at hcp
    have hle := cutP_le l
    refine .ff rfl (.bind hcp ?_)
    generalize (cutP l).2 = neg
    generalize (cutP l).1 = w at hle
    simp only [size_B]
    by_cases hX : 30 < l.length
    · rw [if_pos (.inl hX), decide_eq_true (by omega : ((l.length : Nat) : Int) > 30)]
      exact .bind (x := false) (.ff rfl (.pure _)) (.tt rfl (.pure _))
    · rw [decide_eq_false (by omega : ¬ ((l.length : Nat) : Int) > 30)]
      refine .bind (.tt rfl (ev_rDigB w (by omega))) ?_
      cases hd : digB w with
      | false => rw [if_pos (.inr rfl)]; exact .tt rfl (.pure _)
      | true =>
        rw [if_neg (fun z => by rcases z with z | z; exact hX z; cases z)]
        have hod := ev_ofDigits (B w) (by rw [size_B]; omega) (by rw [L_B]; exact digB_all hd)
        rw [L_B] at hod
        refine .ff rfl (.bind hod ?_)
        by_cases hv : dv w ≤ 1000000000000000
        · rw [if_pos hv, if_pos hv]
          cases neg with
          | true =>
            refine .ff rfl (.tt rfl (.to (.pure _) ?_))
            rw [wi64_id (by simp only; omega) (by simp only; omega), if_pos rfl]
            simp
          | false => exact .ff rfl (.ff rfl (.pure _))
        · rw [if_neg hv, if_neg hv]
          exact .tt rfl (.pure _)
  · rw [if_pos hb, decide_eq_false hb]
    exact .tt rfl (.pure _)
end Go.Proofs.YtognnibmcifjeaaDoor.Eq
namespace Go.Proofs.YtognnibmcifjeaaDoor.Eq
open Go Go.Ra
set_option linter.unusedVariables false
set_option linter.unusedSimpArgs false

/-- What a text in groups is read as, marks P and C. -/
def rgx (l : List UInt8) (P C : UInt8) : (Int × Int) × Int :=
  if 40 < l.length then bad
  else if (wholeL ((cutB (cutP l).1 P).1.filter fun b => b != C) && (decide (grp C ((cutB (cutP l).1 P).1.filter fun b => b != C) = (cutB (cutP l).1 P).1) && (!(cutB (cutP l).1 P).2.2 || (digB (cutB (cutP l).1 P).2.1 && decide ((cutB (cutP l).1 P).2.1.length ≤ 9))))) = true
  then rdR (cutP l).2 ((cutB (cutP l).1 P).1.filter fun b => b != C) (cutB (cutP l).1 P).2.1 else bad
theorem ev_aReadGr (l : List UInt8) (p c : Int) (hp0 : 0 ≤ p) (hc0 : 0 ≤ c) (hl : l.length ≤ 140737488351232) : Ev (fun k => amount_ReadGrouped k (B l) p c) (if p ≠ c ∧ mkOk p ∧ mkOk c then rgx l p.toNat.toUInt8 c.toNat.toUInt8 else ((0, 0), 12)) := by
  refine .step (fun k => amount_ReadGrouped_eq k _ _ _) (.bind (ev_mf p c) ?_)
  by_cases hm : p ≠ c ∧ mkOk p ∧ mkOk c
  · rw [if_pos hm, if_pos hm]
    obtain ⟨a1, a2, a3⟩ := mk_byte hp0 hm.2.1
    obtain ⟨b1, b2, b3⟩ := mk_byte hc0 hm.2.2
    have hcp := ev_CutPre (B l)
    rw [L_B] at hcp
    have hle := cutP_le l
    have hcb := ev_Cut (B (cutP l).1) p.toNat.toUInt8 (by rw [size_B]; omega)
    rw [L_B] at hcb
    have hle2 := cutB_le (cutP l).1 p.toNat.toUInt8
    have hno := cutB_no (cutP l).1 p.toNat.toUInt8
    refine .ff rfl (.bind hcp ?_)
    simp only [enc_ascii hp0 a1, enc_ascii hc0 b1]
    refine .bind hcb ?_
    unfold rgx
    generalize (cutP l).2 = neg
    generalize (cutB (cutP l).1 p.toNat.toUInt8).2.2 = has at hno
    generalize (cutB (cutP l).1 p.toNat.toUInt8).2.1 = f at hno hle2
    generalize (cutB (cutP l).1 p.toNat.toUInt8).1 = w at hle2
    refine .bind (ev_Repl w c.toNat.toUInt8 (by omega)) ?_
    have hfl : (w.filter fun b => b != c.toNat.toUInt8).length ≤ w.length := List.length_filter_le _ _
    generalize (w.filter fun b => b != c.toNat.toUInt8) = wf at hfl
    simp only [size_B]
    by_cases hX : 40 < l.length
    · rw [if_pos hX, decide_eq_true (by omega : ((l.length : Nat) : Int) > 40)]
      exact .bind (x := false) (.ff rfl (.pure _)) (.bind (x := bs []) (.ff rfl (.pure _)) (.bind (x := false) (.ff rfl (.pure _)) (.tt rfl (.pure _))))
    · rw [if_neg hX, decide_eq_false (by omega : ¬ ((l.length : Nat) : Int) > 40)]
      refine .bind (.tt rfl (ev_isWhole wf (by omega))) ?_
      have hwd : (digB wf && (decide (wf.length = 1) || decide (wf.head? ≠ some 48))) = wholeL wf := rfl
      rw [hwd]
      cases hw : wholeL wf with
      | false => exact .bind (x := bs []) (.ff rfl (.pure _)) (.bind (x := false) (.ff rfl (.pure _)) (.tt rfl (.pure _)))
      | true =>
        refine .bind (.tt rfl (ev_grouped c hc0 b1 wf (by omega))) ?_
        have he : eqS (B (grp c.toNat.toUInt8 wf)) (B w) = decide (grp c.toNat.toUInt8 wf = w) := by rw [eqS_L, L_B, L_B]
        rw [he]
        cases hg : decide (grp c.toNat.toUInt8 wf = w) with
        | false => exact .bind (x := false) (.ff rfl (.pure _)) (.tt rfl (.pure _))
        | true =>
          cases has with
          | false =>
            have hf := hno rfl
            subst hf
            refine .bind (x := false) (.ff rfl (.pure _)) (.ff rfl (.ret ?_ rfl))
            exact ev_aread neg wf [] (dg_both (has := false) hw rfl (fun _ => rfl)) (by simp; omega)
          | true =>
            refine .bind (.tt rfl (ev_kDigB f (by omega))) ?_
            cases hd : digB f with
            | false => exact .tt rfl (.pure _)
            | true =>
              by_cases h9 : f.length ≤ 9
              · rw [decide_eq_false (by omega : ¬ ((f.length : Nat) : Int) > 9), decide_eq_true h9]
                refine .ff rfl (.ret ?_ rfl)
                exact ev_aread neg wf f (dg_both (has := true) hw (by rw [hd, decide_eq_true h9]; rfl) (fun z => by cases z)) (by rw [List.length_append]; omega)
              · rw [decide_eq_true (by omega : ((f.length : Nat) : Int) > 9), decide_eq_false h9]
                exact .tt rfl (.pure _)
  · rw [if_neg hm, if_neg hm]
    exact .tt rfl (.pure _)

theorem cutP_cases (l : List UInt8) : (∃ r, l = 45 :: r ∧ cutP l = (r, true)) ∨ (l.head? ≠ some 45 ∧ cutP l = (l, false)) := by
  unfold cutP
  cases l with
  | nil => exact .inr ⟨by simp, rfl⟩
  | cons b t =>
    by_cases h : b = 45
    · exact .inl ⟨t, by rw [h], by simp [h]⟩
    · exact .inr ⟨by simpa using h, by simp [h]⟩
theorem cutB_45 {P : UInt8} (hP : P ≠ 45) (r : List UInt8) : cutB (45 :: r) P = (45 :: (cutB r P).1, (cutB r P).2) := by
  rcases cutB_cases r P with ⟨h1, h2⟩ | ⟨a, b, rfl, h1, h2⟩
  · rw [h2, cutB_none (by simp [hP, h1])]
  · rw [h2]
    have : (45 :: (a ++ P :: b) : List UInt8) = (45 :: a) ++ P :: b := rfl
    rw [this, cutB_app (by simp [hP, h1])]
theorem ib_ge (l : List UInt8) (c : UInt8) : decide (Lib.indexByte l c ≥ 0) = decide (c ∈ l) := by
  by_cases h : c ∈ l
  · rcases cutB_cases l c with ⟨z, _⟩ | ⟨a, b, rfl, ha, _⟩
    · exact absurd h z
    · rw [indexByte_app ha, decide_eq_true h, decide_eq_true (by omega)]
  · rw [indexByte_none h, decide_eq_false h]; rfl
theorem ev_IB (l : List UInt8) : Ev (fun k => strings_IndexByte k (B l) 46) (Lib.indexByte l 46) := by
  refine .step (fun k => strings_IndexByte_eq k _ _) (.ret (.off (n := 0) fun k => ?_) rfl)
  have e3 : (B l).data.toList = l := L_B l
  show stringslite_IndexByte (k + 0) (B l) 46 = _
  rw [stringslite_IndexByte_eq, e3]
  rfl
theorem rdR_10 {neg : Bool} {w f : List UInt8} (h : (rdR neg w f).2 = 10) : rdR neg w f = bad := by
  rw [rdR_bad] at h ⊢
  split
  · rfl
  · rename_i hz
    rw [if_neg hz] at h
    split at h
    · cases h
    · cases h

theorem ev_rReadGr (l : List UInt8) (p c : Int) (hp0 : 0 ≤ p) (hc0 : 0 ≤ c) (hp255 : p < 256) (hc255 : c < 256) (hl : l.length ≤ 140737488351232) : Ev (fun k => interchangeref1_ReadGrouped k (B l) p c) (if p ≠ c ∧ mkOk p ∧ mkOk c then rgx l p.toNat.toUInt8 c.toNat.toUInt8 else ((0, 0), 12)) := by
  refine .step (fun k => interchangeref1_ReadGrouped_eq k _ _ _) (.bind (ev_rmarks p c) ?_)
  by_cases hm : p ≠ c ∧ mkOk p ∧ mkOk c
  · rw [decide_eq_true hm, if_pos hm]
    obtain ⟨a1, a2, a3⟩ := mk_byte hp0 hm.2.1
    obtain ⟨b1, b2, b3⟩ := mk_byte hc0 hm.2.2
    have hPC : p.toNat.toUInt8 ≠ c.toNat.toUInt8 := fun z => by
      apply hm.1
      have := congrArg UInt8.toNat z
      omega
    have hp45 : p ≠ 45 := fun z => by have := hm.2.1; unfold mkOk at this; omega
    have hc45 : c ≠ 45 := fun z => by have := hm.2.2; unfold mkOk at this; omega
    have hP45 : p.toNat.toUInt8 ≠ 45 := fun z => by
      have := congrArg UInt8.toNat z
      rw [a3, show (45 : UInt8).toNat = 45 from rfl] at this
      omega
    have hC45 : c.toNat.toUInt8 ≠ 45 := fun z => by
      have := congrArg UInt8.toNat z
      rw [b3, show (45 : UInt8).toNat = 45 from rfl] at this
      omega
    have hc46 : (c != 46) = decide (c.toNat.toUInt8 ≠ 46) := by
      by_cases h : c = 46
      · subst h; rfl
      · have : c.toNat.toUInt8 ≠ 46 := fun z => h (by
          have := congrArg UInt8.toNat z
          rw [b3, show (46 : UInt8).toNat = 46 from rfl] at this
          omega)
        rw [decide_eq_true this]; simpa using h
    have hp46 : (p != 46) = decide (p.toNat.toUInt8 ≠ 46) := by
      by_cases h : p = 46
      · subst h; rfl
      · have : p.toNat.toUInt8 ≠ 46 := fun z => h (by
          have := congrArg UInt8.toNat z
          rw [a3, show (46 : UInt8).toNat = 46 from rfl] at this
          omega)
        rw [decide_eq_true this]; simpa using h
    refine .ff rfl ?_
    simp only [wi32_id (x := p) (by omega) (by omega), wi32_id (x := c) (by omega) (by omega), enc_ascii hp0 a1, enc_ascii hc0 b1]
    have hcb := ev_Cut (B l) p.toNat.toUInt8 (by rw [size_B]; omega)
    rw [L_B] at hcb
    generalize hPg : p.toNat.toUInt8 = P at *
    generalize hCg : c.toNat.toUInt8 = C at *
    unfold rgx
    -- the sign, and what stands behind it
    obtain ⟨sg, r, neg, hsl, hcp, hcut, hsg, hhead⟩ : ∃ (sg r : List UInt8) (neg : Bool), l = sg ++ r ∧ cutP l = (r, neg) ∧ cutB l P = (sg ++ (cutB r P).1, (cutB r P).2) ∧ sg = (if neg = true then [45] else []) ∧ (neg = false → r.head? ≠ some 45) := by
      rcases cutP_cases l with ⟨r, h1, h2⟩ | ⟨h1, h2⟩
      · exact ⟨[45], r, true, h1, h2, by rw [h1, cutB_45 hP45]; rfl, rfl, fun z => by cases z⟩
      · exact ⟨[], l, false, rfl, h2, rfl, rfl, fun _ => h1⟩
    have hle2 := cutB_le r P
    have hno := cutB_no r P
    have hwh : neg = false → (cutB r P).1.head? ≠ some 45 := fun hn => by
      have h := hhead hn
      rcases cutB_cases r P with ⟨_, e⟩ | ⟨a, b, e0, _, e⟩
      · rw [e]; exact h
      · rw [e]
        cases a with
        | nil => simp
        | cons x t => rw [e0] at h; simpa using h
    have hfull : (cutB r P).1.length + (if (cutB r P).2.2 = true then (cutB r P).2.1.length + 1 else 0) ≤ r.length := by
      rcases cutB_cases r P with ⟨_, e⟩ | ⟨a, b, e0, _, e⟩
      · rw [e]; simp
      · rw [e, e0]; simp
    rw [hcut] at hcb
    simp only [hcp]
    refine .bind hcb ?_
    generalize (cutB r P).2.2 = has at hno hfull
    generalize (cutB r P).2.1 = f at hno hle2 hfull
    generalize (cutB r P).1 = w at hle2 hwh hfull
    have hll : l.length = sg.length + r.length := by rw [hsl, List.length_append]
    have hrep := ev_Repl (sg ++ w) C (by rw [List.length_append]; omega)
    have hsgf : (sg ++ w).filter (fun b => b != C) = sg ++ w.filter (fun b => b != C) := by
      rw [List.filter_append]
      congr 1
      rw [hsg]
      cases neg with
      | true => simp [Ne.symm hC45]
      | false => rfl
    rw [hsgf] at hrep
    refine .bind hrep ?_
    have hrg := rg_iff b2 w
    have hmemf : ∀ x, x ∈ w → x ≠ C → x ∈ w.filter (fun b => b != C) := fun x h1 h2 => List.mem_filter.2 ⟨h1, by simpa using h2⟩
    have hfl : (w.filter fun b => b != C).length ≤ w.length := List.length_filter_le _ _
    generalize hwf : (w.filter fun b => b != C) = wf at hrg hmemf hfl
    have hsglen : sg.length ≤ 1 := by rw [hsg]; split <;> simp
    -- the loop's body, with the text that is read at last
    have c7 : ∀ s11 : List UInt8, s11 = sg ++ (wf ++ (if has = true then 46 :: f else [])) → Ev (fun k => interchangeref1_ReadGrouped_c7 k (B l) p c (0, 0) (B (sg ++ w)) (B f) (B s11))
        (if 40 < l.length then bad else if (wholeL wf && (decide (grp C wf = w) && (!has || (digB f && decide (f.length ≤ 9))))) = true then rdR neg wf f else bad) := by
      intro s11 hs11
      refine .step (fun k => interchangeref1_ReadGrouped_c7_eq k _ _ _ _ _ _ _) ?_
      rw [size_B, hc46, hp46]
      by_cases hX : 40 < l.length
      · rw [if_pos hX, decide_eq_true (by omega : ((l.length : Nat) : Int) > 40)]
        exact .bind (x := 0) (.ff rfl (.pure _)) (.bind (x := 0) (.ff rfl (.pure _)) (.tt rfl (.pure _)))
      rw [if_neg hX, decide_eq_false (by omega : ¬ ((l.length : Nat) : Int) > 40)]
      refine .bind (.tt rfl (ev_IB (sg ++ w))) ?_
      rw [ib_ge]
      have hbadrg : digB wf = false → rgOk (splL C w) = false := fun h => by
        cases hq : rgOk (splL C w) with
        | false => rfl
        | true => rw [(hrg.1 hq).1] at h; cases h
      have h46w : (46 ∈ sg ++ w) → 46 ∈ w := fun h => by
        rcases List.mem_append.1 h with h | h
        · rw [hsg] at h
          cases neg with
          | true => exact absurd (List.mem_singleton.1 h) (by decide)
          | false => simp at h
        · exact h
      have hcutw : (cutP (sg ++ w)).1 = w := by
        rw [hsg]
        cases neg with
        | true => rfl
        | false =>
          show (cutP w).1 = w
          unfold cutP
          rw [if_neg (hwh rfl)]
      have hreg := ev_regrouped (sg ++ w) c hc0 b1 (by rw [List.length_append]; omega)
      rw [hCg, hcutw] at hreg
      have hsl11 : s11.length ≤ 40 := by
        rw [hs11, List.length_append, List.length_append]
        split
        · rename_i hh
          rw [if_pos hh] at hfull
          rw [List.length_cons]
          omega
        · simp; omega
      have hrd := ev_rRead s11 (by omega)
      cases hA : (cond (decide (46 ∈ sg ++ w)) (decide (C ≠ 46)) false) with
      | true =>
        have hno2 : wholeL wf = false := by
          have h1 : 46 ∈ sg ++ w ∧ C ≠ 46 := by
            by_cases h1 : 46 ∈ sg ++ w
            · rw [decide_eq_true h1] at hA
              exact ⟨h1, of_decide_eq_true hA⟩
            · rw [decide_eq_false h1] at hA; cases hA
          have h2 := hmemf 46 (h46w h1.1) (Ne.symm h1.2)
          cases hq : wholeL wf with
          | false => rfl
          | true =>
            have := digB_all (whole_dg hq) 46 h2
            exact absurd this (by decide)
        rw [hno2]
        exact .bind (x := 0) (.ff rfl (.pure _)) (.tt rfl (.pure _))
      | false =>
        have hB : ∃ y4 : Int, Ev (fun k => cond ((!(cond false true false)) && decide (P ≠ 46)) (strings_IndexByte k (B f) 46) (some 0)) y4 ∧ (cond (decide (P ≠ 46)) (decide (y4 ≥ 0)) false) = (decide (P ≠ 46) && decide (46 ∈ f)) := by
          cases hP : decide (P ≠ 46) with
          | true => exact ⟨_, .tt rfl (ev_IB f), by rw [ib_ge]; rfl⟩
          | false => exact ⟨0, .ff rfl (.pure _), rfl⟩
        obtain ⟨y4, y41, y42⟩ := hB
        refine .bind y41 ?_
        rw [y42]
        cases hBd : (decide (P ≠ 46) && decide (46 ∈ f)) with
        | true =>
          rw [Bool.and_eq_true] at hBd
          have hf46 := of_decide_eq_true hBd.2
          have hh : has = true := by
            cases has with
            | true => rfl
            | false => rw [hno rfl] at hf46; cases hf46
          have hdf : digB f = false := by
            cases hq : digB f with
            | false => rfl
            | true => exact absurd (digB_all hq 46 hf46) (by decide)
          rw [hh, hdf]
          refine .tt rfl (.to (.pure _) ?_)
          rw [if_neg]
          · rfl
          · simp
        | false =>
          refine .ff rfl (.bind hrd ?_)
          cases hdw : digB wf with
          | false =>
            have hno2 : wholeL wf = false := by unfold wholeL; rw [hdw]; rfl
            rw [hno2]
            by_cases h10 : (rtx s11).2 = 10
            · exact .tt (by simpa using h10) (.to (.pure _) (by rw [h10]; rfl))
            · refine .ff (by simpa using h10) (.bind hreg ?_)
              rw [hbadrg hdw]
              exact .tt rfl (.pure _)
          | true =>
            have hwd := digB_all hdw
            have hne : wf ≠ [] := (digB_iff.1 hdw).1
            have h45 : wf.head? ≠ some 45 := fun z => by
              cases hq : wf with
              | nil => exact hne hq
              | cons x t =>
                rw [hq] at z hwd
                have : x = 45 := by simpa using z
                have h2 := hwd x (by simp)
                rw [this] at h2
                exact absurd h2 (by decide)
            have hcp11 : cutP s11 = (wf ++ (if has = true then 46 :: f else []), neg) := by
              rw [hs11, hsg]
              cases neg with
              | true => rfl
              | false =>
                show cutP (wf ++ _) = _
                cases hq : wf with
                | nil => exact absurd hq hne
                | cons x t =>
                  rw [hq] at h45
                  have : x ≠ 45 := by simpa using h45
                  unfold cutP
                  simp [this]
            have h46 : (46 : UInt8) ∉ wf := dg_ne hwd (by decide)
            have hcb11 : cutB (wf ++ (if has = true then 46 :: f else [])) 46 = (wf, f, has) := by
              cases has with
              | true => exact cutB_app h46
              | false =>
                show cutB (wf ++ []) 46 = _
                rw [List.append_nil, cutB_none h46, hno rfl]
            have hrtx : rtx s11 = rtc neg wf f has := by
              unfold rtx
              rw [if_neg (by omega), hcp11, hcb11]
            rw [hrtx]
            have hrg' : rgOk (splL C w) = decide (grp C wf = w) := by
              by_cases hq : grp C wf = w
              · rw [decide_eq_true hq]; exact hrg.2 ⟨hdw, hq⟩
              · rw [decide_eq_false hq]
                cases hz : rgOk (splL C w) with
                | false => rfl
                | true => exact absurd (hrg.1 hz).2 hq
            by_cases h10 : (rtc neg wf f has).2 = 10
            · refine .tt (by simpa using h10) (.to (.pure _) ?_)
              rw [h10]
              show bad = _
              split
              · rename_i hq
                simp only [Bool.and_eq_true] at hq
                have hc2 : (wholeL wf && (!has || (digB f && decide (f.length ≤ 9)))) = true := by rw [Bool.and_eq_true]; exact ⟨hq.1, hq.2.2⟩
                unfold rtc at h10
                rw [if_pos hc2] at h10
                exact (rdR_10 h10).symm
              · rfl
            · refine .ff (by simpa using h10) (.bind hreg ?_)
              rw [hrg']
              have hc2 : (wholeL wf && (!has || (digB f && decide (f.length ≤ 9)))) = true := by
                cases hq : (wholeL wf && (!has || (digB f && decide (f.length ≤ 9)))) with
                | true => rfl
                | false =>
                  exfalso
                  apply h10
                  unfold rtc
                  rw [hq]; rfl
              have hrt : rtc neg wf f has = rdR neg wf f := by unfold rtc; rw [if_pos hc2]
              rw [Bool.and_eq_true] at hc2
              rw [hrt, hc2.1]
              cases hq : decide (grp C wf = w) with
              | true => rw [hc2.2]; exact .ff rfl (.pure _)
              | false => exact .tt rfl (.pure _)
    cases hh : has with
    | true =>
      subst hh
      rw [if_pos rfl] at hfull
      have e46 : bs [46] = B [46] := rfl
      refine .tt rfl ?_
      simp only [e46, B_app, size_B]
      refine .ck (by omega) (.ck (by simp; omega) ?_)
      exact c7 ((sg ++ wf) ++ ([46] ++ f)) (by rw [if_pos rfl]; simp)
    | false =>
      subst hh
      exact .ff rfl (c7 (sg ++ wf) (by rw [if_neg (by decide)]; simp))
  · rw [decide_eq_false hm, if_neg hm]
    exact .tt rfl (.pure _)

theorem ev_law_reads (a : ByteArray) (b c d : Int) (ha : a.size ≤ 140737488351232) (hc : 0 ≤ c ∧ c < 256) (hd : 0 ≤ d ∧ d < 256) : Ev (fun k => interchangelaw1_AmountReadsMatchSpec k a b c d) true := by
  have e1 : a = B (L a) := (B_L a).symm
  have s1 : (L a).length = a.size := size_L a
  rw [e1]
  have hl : (L a).length ≤ 140737488351232 := by omega
  generalize L a = l at hl
  refine .step (fun k => interchangelaw1_AmountReadsMatchSpec_eq k _ _ _ _) (.bind (ev_rRead l (by omega)) (.bind (ev_aRead l (by omega)) (.ff (by simp) (.bind (ev_rReadImp l b hl) (.bind (ev_aReadImp l b hl) (.ff (by simp) (.bind (ev_rReadGr l c d hc.1 hd.1 hc.2 hd.2 hl) (.bind (ev_aReadGr l c d hc.1 hd.1 hl) (.bind (.tt (by simp) ev_awake) (.to (.pure _) (by simp)))))))))))
end Go.Proofs.YtognnibmcifjeaaDoor.Eq
