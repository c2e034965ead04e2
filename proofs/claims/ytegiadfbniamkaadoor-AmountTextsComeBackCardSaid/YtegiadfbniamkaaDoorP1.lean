/- What the functions of this law compute, part 1. -/
import Derived.Test.YtegiadfbniamkaaDoorRaEq
import Derived.Lib.Strings
import Derived.Lib.ItoaNum
import Derived.Lib.Repeat
import Derived.Lib.IndexBytes
import Derived.Lib.Replace
namespace Go.Proofs.YtegiadfbniamkaaDoor.Eq
open Go Go.Ra
set_option linter.unusedVariables false

theorem dV (n : Nat) : Vb 4294967296 (digs 4294967296 n) = n := digs_V (b := 4294967296) (by decide) n
theorem dD (n : Nat) : Dg 4294967296 (digs 4294967296 n) := digs_dg (b := 4294967296) (by decide) n
theorem dE {l : List Int} (h : Dg 4294967296 l) (h2 : l.getLast? ≠ some 0) : l = digs 4294967296 (Vb 4294967296 l).toNat := digs_eq (b := 4294967296) (by decide) h h2

theorem pow_step (p d c b : Int) : p * d + p * b * c = p * (d + b * c) := by rw [Int.mul_add, Int.mul_assoc]

theorem ev_trimmed_c1 : ∀ (n : Nat) (l : List Int), l.length = n → n < 1099511627776 → Dg 4294967296 l → Ev (fun k => whole_trimmed_c1 k l) (digs 4294967296 (Vb 4294967296 l).toNat) := by
  intro n
  induction n with
  | zero =>
    intro l hl _ _
    have : l = [] := by simpa using hl
    subst this
    refine .step (fun k => whole_trimmed_c1_eq k _) (.tt (by simp) (.tt (by simp) (.ff (by simp) ?_)))
    exact .pure _
  | succ n ih =>
    intro l hl hn hd
    obtain ⟨m, x, rfl⟩ : ∃ m x, l = m ++ [x] := by
      rcases List.eq_nil_or_concat l with rfl | ⟨m, x, rfl⟩
      · simp at hl
      · exact ⟨m, x, by simp⟩
    have hm : m.length = n := by simpa using hl
    have e : wi64 (((m ++ [x]).length : Int) - 1) = (n : Int) := by
      rw [hl, wi64_id (by omega) (by omega)]
      omega
    refine .step (fun k => whole_trimmed_c1_eq k _) ?_
    rw [e, hl]
    have hg : (m ++ [x]).getD ((n : Int)).toNat 0 = x := by
      rw [Int.toNat_natCast, List.getD_eq_getElem?_getD, ← hm]
      simp
    have ht : (m ++ [x]).take ((n : Int)).toNat = m := by
      rw [Int.toNat_natCast, ← hm]
      simp
    rw [hg, ht]
    refine .tt (by simp) (.tt (by simp; omega) ?_)
    by_cases hx : x = 0
    · subst hx
      refine .tt (by simp) (.ck (by omega) (.ck (by omega) ?_))
      have := ih m hm (by omega) (fun y hy => hd y (by simp [hy]))
      rw [Vb_append, Vb_one, Int.mul_zero, Int.add_zero]
      exact this
    · refine .ff (by simp [hx]) ?_
      rw [← dE hd (by simpa using hx)]
      exact .pure _

theorem ev_trimmed (l : List Int) (hn : l.length < 1099511627776) (hd : Dg 4294967296 l) : Ev (fun k => whole_trimmed k l) (digs 4294967296 (Vb 4294967296 l).toNat) :=
  .step (fun k => whole_trimmed_eq k l) (ev_trimmed_c1 _ l rfl hn hd)

/-- The canonical form of a number. -/
def W (n : Int) : Bool × List Int := (decide (n < 0), digs 4294967296 n.natAbs)

theorem digs_len_pos {b n : Nat} (hb : 2 ≤ b) : decide (((digs b n).length : Int) > 0) = decide (0 < n) := by
  rcases Nat.eq_zero_or_pos n with rfl | h
  · simp [digs_zero]
  · rw [digs_pos hb h]
    simp [h]

theorem ev_made (s : Bool) (l : List Int) (hn : l.length < 1099511627776) (hd : Dg 4294967296 l) : Ev (fun k => whole_made k s l) (W (cond s (-(Vb 4294967296 l)) (Vb 4294967296 l))) := by
  refine .step (fun k => whole_made_eq k s l) (.bind (ev_trimmed l hn hd) ?_)
  refine .to (.pure _) ?_
  have hv := Vb_nonneg (b := 4294967296) (by omega) hd
  generalize Vb 4294967296 l = v at *
  obtain ⟨m, rfl⟩ : ∃ m : Nat, v = m := ⟨v.toNat, by omega⟩
  unfold W
  rw [digs_len_pos (by omega)]
  cases s with
  | true => simp
  | false => simp

theorem W_neg (n : Int) : (W n).1 = decide (n < 0) := rfl
theorem W_dg (n : Int) : Dg 4294967296 (W n).2 := dD _
theorem W_V (n : Int) : Vb 4294967296 (W n).2 = n.natAbs := dV _

/-- Of fewer than a hundred digits. -/
def Sm (n : Int) : Prop := n.natAbs < 4294967296 ^ 100
theorem Sm.len {n : Int} (h : Sm n) : (W n).2.length ≤ 100 := digs_len (by omega) 100 _ h
theorem Sm.of {n : Int} (h : n.natAbs ≤ 10 ^ 130) : Sm n := Nat.lt_of_le_of_lt h (by decide)

theorem ev_Of (n : Int) (h1 : -9223372036854775808 ≤ n) (h2 : n < 9223372036854775808) : Ev (fun k => whole_Of k n) (W n) := by
  refine .step (fun k => whole_Of_eq k n) ?_
  have key : ∀ (s : Bool) (u : Int), 0 ≤ u → u < 18446744073709551616 → Ev (fun k => whole_made k s [wu32 u, wu32 (shrI .u64 u 32)]) (W (cond s (-u) u)) := by
    intro s u hu hu2
    have h := ev_made s [wu32 u, wu32 (shrI .u64 u 32)] (by simp) (by
      rw [wu32_mod, wu32_mod]
      exact .mk (by omega) (by omega) (.mk (by omega) (by omega) .nil))
    have e : Vb 4294967296 [wu32 u, wu32 (shrI .u64 u 32)] = u := by
      rw [shr32, wu32_mod, wu32_mod]
      simp only [Vb]
      omega
    rw [e] at h
    exact h
  refine .dec (fun h => ?_) (fun h => ?_)
  · have e : wu64 (0 - wu64 n) = -n := by rw [wu64_mod, wu64_mod]; omega
    rw [e]
    have := key (decide (n < 0)) (-n) (by omega) (by omega)
    refine .ret this ?_
    simp [h]
  · have e : wu64 n = n := by rw [wu64_mod]; omega
    rw [e]
    refine .ret (key (decide (n < 0)) n (by omega) (by omega)) ?_
    simp [h]

theorem drop_cons {l : List Int} {i : Nat} (h : i < l.length) : l.drop i = l.getD i 0 :: l.drop (i + 1) := by
  rw [List.drop_eq_getElem_cons h, List.getD_eq_getElem?_getD, List.getElem?_eq_getElem h]
  rfl

theorem ev_sum_c6 (a b : List Int) (ha : Dg 4294967296 a) (hb : Dg 4294967296 b) (hl : b.length ≤ a.length) (hn : a.length < 1099511627776) : ∀ (m i : Nat) (out : List Int) (c : Int), a.length - i = m → i ≤ a.length → out.length = i → Dg 4294967296 out → 0 ≤ c → c ≤ 1 →
    ∃ s, Ev (fun k => whole_sum_c6 k b out c a (a.length : Int) (i : Int)) s ∧ Dg 4294967296 s ∧ s.length = a.length + 1 ∧ Vb 4294967296 s = Vb 4294967296 out + 4294967296 ^ i * (c + Vb 4294967296 (a.drop i) + Vb 4294967296 (b.drop i)) := by
  intro m
  induction m with
  | zero =>
    intro i out c hm hi ho hd hc hc1
    have hi' : i = a.length := by omega
    subst hi'
    refine ⟨out ++ [wu32 c], ?_, ?_, by simp [ho], ?_⟩
    · refine .step (fun k => whole_sum_c6_eq k _ _ _ _ _ _) (.nk (by omega) (.ck (by omega) (.pure _)))
    · rw [wu32_id (by omega) (by omega)]
      exact hd.append (.mk hc (by omega) .nil)
    · rw [wu32_id (by omega) (by omega), Vb_append, Vb_one, ho, List.drop_length, List.drop_of_length_le hl]
      simp [Vb]
  | succ m ih =>
    intro i out c hm hi ho hd hc hc1
    have hlt : i < a.length := by omega
    have hx := ha.at (by omega) i
    have hti : ((i : Int)).toNat = i := Int.toNat_natCast i
    have e1 : wi64 ((i : Int) + 1) = ((i + 1 : Nat) : Int) := by rw [wi64_id (by omega) (by omega)]; rfl
    rw [drop_cons hlt]
    generalize hxe : a.getD i 0 = x at *
    by_cases hb2 : i < b.length
    · have hy := hb.at (by omega) i
      rw [drop_cons hb2]
      generalize hye : b.getD i 0 = y at *
      have et : wu64 (wu64 (c + wu64 x) + wu64 y) = c + x + y := by
        rw [wu64_id (x := x) (by omega) (by omega), wu64_id (x := c + x) (by omega) (by omega), wu64_id (x := y) (by omega) (by omega), wu64_id (by omega) (by omega)]
      obtain ⟨s, q1, q2, q3, q4⟩ := ih (i + 1) (out ++ [(c + x + y) % 4294967296]) ((c + x + y) / 4294967296) (by omega) (by omega) (by simp [ho]) (hd.append (.mk (by omega) (by omega) .nil)) (by omega) (by omega)
      refine ⟨s, ?_, q2, q3, ?_⟩
      · refine .step (fun k => whole_sum_c6_eq k _ _ _ _ _ _) (.ck (by omega) (.ck (by omega) (.ck (by omega) (.ck (by omega) (.ck (by omega) (.ck (by omega) (.ck (by omega) ?_)))))))
        rw [hti, hxe, hye, et, shr32, wu32_mod, e1]
        exact q1
      · rw [q4, Vb_append, Vb_one, ho, Int.pow_succ]
        simp only [Vb]
        rw [Int.add_assoc, pow_step]
        congr 2
        omega
    · have et : wu64 (c + wu64 x) = c + x := by
        rw [wu64_id (x := x) (by omega) (by omega), wu64_id (x := c + x) (by omega) (by omega)]
      rw [List.drop_of_length_le (show b.length ≤ i by omega)]
      obtain ⟨s, q1, q2, q3, q4⟩ := ih (i + 1) (out ++ [(c + x) % 4294967296]) ((c + x) / 4294967296) (by omega) (by omega) (by simp [ho]) (hd.append (.mk (by omega) (by omega) .nil)) (by omega) (by omega)
      refine ⟨s, ?_, q2, q3, ?_⟩
      · refine .step (fun k => whole_sum_c6_eq k _ _ _ _ _ _) (.ck (by omega) (.ck (by omega) (.ck (by omega) (.nk (by omega) (.ck (by omega) ?_)))))
        rw [hti, hxe, et, shr32, wu32_mod, e1]
        exact q1
      · rw [q4, Vb_append, Vb_one, ho, Int.pow_succ, List.drop_of_length_le (show b.length ≤ i + 1 by omega)]
        simp only [Vb]
        rw [Int.add_assoc, pow_step]
        congr 2
        omega

theorem ev_sum_c3 (a b : List Int) (ha : Dg 4294967296 a) (hb : Dg 4294967296 b) (hl : b.length ≤ a.length) (hn : a.length < 549755813888) :
    ∃ s, Ev (fun k => whole_sum_c3 k a b) s ∧ Dg 4294967296 s ∧ s.length = a.length + 1 ∧ Vb 4294967296 s = Vb 4294967296 a + Vb 4294967296 b := by
  obtain ⟨s, q1, q2, q3, q4⟩ := ev_sum_c6 a b ha hb hl (by omega) _ 0 [] 0 rfl (by omega) rfl .nil (by omega) (by omega)
  refine ⟨s, ?_, q2, q3, ?_⟩
  · have e : wi64 ((a.length : Int) + 1) = (a.length : Int) + 1 := wi64_id (by omega) (by omega)
    refine .step (fun k => whole_sum_c3_eq k _ _) ?_
    rw [e]
    exact .ck (by omega) (.ck (by omega) q1)
  · rw [q4]
    simp [Vb]

theorem ev_sum (a b : List Int) (ha : Dg 4294967296 a) (hb : Dg 4294967296 b) (h1 : a.length < 549755813888) (h2 : b.length < 549755813888) :
    ∃ s, Ev (fun k => whole_sum k a b) s ∧ Dg 4294967296 s ∧ s.length = max a.length b.length + 1 ∧ Vb 4294967296 s = Vb 4294967296 a + Vb 4294967296 b := by
  by_cases h : a.length < b.length
  · obtain ⟨s, q1, q2, q3, q4⟩ := ev_sum_c3 b a hb ha (by omega) h2
    exact ⟨s, .step (fun k => whole_sum_eq k a b) (.ck (by omega) q1), q2, by omega, by omega⟩
  · obtain ⟨s, q1, q2, q3, q4⟩ := ev_sum_c3 a b ha hb (by omega) h1
    exact ⟨s, .step (fun k => whole_sum_eq k a b) (.nk (by omega) q1), q2, by omega, q4⟩

theorem ev_compare_c4 (a b : List Int) (ha : Dg 4294967296 a) (hb : Dg 4294967296 b) (hl : a.length = b.length) (hn : a.length < 1099511627776) : ∀ n : Nat, n ≤ a.length → a.drop n = b.drop n →
    ∃ r, Ev (fun k => whole_compare_c4 k a b ((n : Int) - 1)) r ∧ (0 ≤ r ↔ Vb 4294967296 b ≤ Vb 4294967296 a) := by
  intro n
  induction n with
  | zero =>
    intro _ he
    refine ⟨0, .step (fun k => whole_compare_c4_eq k _ _ _) (.nk (by omega) (.pure _)), ?_⟩
    have : a = b := by simpa using he
    subst this
    simp
  | succ n ih =>
    intro hle he
    have hlt : n < a.length := by omega
    have hx := ha.at (by omega) n
    have hy := hb.at (by omega) n
    have e0 : (((n + 1 : Nat) : Int) - 1) = (n : Int) := by omega
    have hti : ((n : Int)).toNat = n := Int.toNat_natCast n
    have e1 : wi64 ((n : Int) - 1) = (n : Int) - 1 := wi64_id (by omega) (by omega)
    have va : Vb 4294967296 a = Vb 4294967296 (a.take n) + 4294967296 ^ n * (a.getD n 0 + 4294967296 * Vb 4294967296 (a.drop (n + 1))) := by
      have h := Vb_append 4294967296 (a.take n) (a.drop n)
      rw [List.take_append_drop, drop_cons hlt, List.length_take, Nat.min_eq_left (by omega)] at h
      simpa only [Vb] using h
    have vb : Vb 4294967296 b = Vb 4294967296 (b.take n) + 4294967296 ^ n * (b.getD n 0 + 4294967296 * Vb 4294967296 (b.drop (n + 1))) := by
      have h := Vb_append 4294967296 (b.take n) (b.drop n)
      rw [List.take_append_drop, drop_cons (show n < b.length by omega), List.length_take, Nat.min_eq_left (by omega)] at h
      simpa only [Vb] using h
    have ta := Vb_lt (b := 4294967296) (by omega) (ha.take n)
    have tb := Vb_lt (b := 4294967296) (by omega) (hb.take n)
    have na := Vb_nonneg (b := 4294967296) (by omega) (ha.take n)
    have nb := Vb_nonneg (b := 4294967296) (by omega) (hb.take n)
    rw [List.length_take, Nat.min_eq_left (by omega)] at ta tb
    rw [he] at va
    rw [e0]
    generalize hxe : a.getD n 0 = x at *
    generalize hye : b.getD n 0 = y at *
    have cmp : ∀ u v : Int, u < v → Vb 4294967296 (a.take n) + 4294967296 ^ n * (u + 4294967296 * Vb 4294967296 (b.drop (n + 1))) < 4294967296 ^ n * (v + 4294967296 * Vb 4294967296 (b.drop (n + 1))) := by
      intro u v huv
      have : (4294967296 : Int) ^ n * (u + 4294967296 * Vb 4294967296 (b.drop (n + 1)) + 1) ≤ 4294967296 ^ n * (v + 4294967296 * Vb 4294967296 (b.drop (n + 1))) := Int.mul_le_mul_of_nonneg_left (by omega) (by omega)
      rw [Int.mul_add _ (u + _) 1] at this
      omega
    have cmp' : ∀ u v : Int, u < v → Vb 4294967296 (b.take n) + 4294967296 ^ n * (u + 4294967296 * Vb 4294967296 (b.drop (n + 1))) < 4294967296 ^ n * (v + 4294967296 * Vb 4294967296 (b.drop (n + 1))) := by
      intro u v huv
      have : (4294967296 : Int) ^ n * (u + 4294967296 * Vb 4294967296 (b.drop (n + 1)) + 1) ≤ 4294967296 ^ n * (v + 4294967296 * Vb 4294967296 (b.drop (n + 1))) := Int.mul_le_mul_of_nonneg_left (by omega) (by omega)
      rw [Int.mul_add _ (u + _) 1] at this
      omega
    by_cases hxy : x = y
    · subst hxy
      obtain ⟨r, q1, q2⟩ := ih (by omega) (by rw [drop_cons hlt, drop_cons (show n < b.length by omega), hxe, hye, he])
      refine ⟨r, ?_, q2⟩
      refine .step (fun k => whole_compare_c4_eq k _ _ _) (.ck (by omega) (.ck (by omega) (.ck (by omega) (.ck (by omega) (.ck (by omega) (.ff (by rw [hti, hxe, hye]; simp) ?_))))))
      rw [e1]
      exact q1
    · have pre : ∀ r, Ev (fun k => Bool.rec (some (1 : Int)) (some (-1)) (decide (x < y))) r → Ev (fun k => whole_compare_c4 k a b (n : Int)) r := by
        intro r hr
        refine .step (fun k => whole_compare_c4_eq k _ _ _) (.ck (by omega) (.ck (by omega) (.ck (by omega) (.ck (by omega) (.ck (by omega) (.tt (by rw [hti, hxe, hye]; simpa using hxy) (.ck (by omega) (.ck (by omega) (.ck (by omega) (.ck (by omega) ?_))))))))))
        rw [hti, hxe, hye]
        refine .dec (fun h => ?_) (fun h => ?_)
        · simpa [h] using hr
        · simpa [h] using hr
      by_cases h : x < y
      · refine ⟨-1, pre _ (by simp [h]; exact .pure _), ?_⟩
        have := cmp x y h
        constructor
        · omega
        · omega
      · refine ⟨1, pre _ (by simp [h]; exact .pure _), ?_⟩
        have := cmp' y x (by omega)
        constructor
        · omega
        · omega

theorem ev_compare (a b : Nat) (ha : (digs 4294967296 a).length < 1099511627776) (hb : (digs 4294967296 b).length < 1099511627776) :
    ∃ r, Ev (fun k => whole_compare k (digs 4294967296 a) (digs 4294967296 b)) r ∧ (0 ≤ r ↔ b ≤ a) := by
  by_cases h : (digs 4294967296 a).length = (digs 4294967296 b).length
  · obtain ⟨r, q1, q2⟩ := ev_compare_c4 _ _ (dD a) (dD b) h ha (digs 4294967296 a).length (Nat.le_refl _) (by rw [List.drop_length, h, List.drop_length])
    refine ⟨r, .step (fun k => whole_compare_eq k _ _) (.ff (by simp [h]) ?_), ?_⟩
    · rw [wi64_id (by omega) (by omega)]
      exact q1
    · rw [q2, dV, dV]
      omega
  · refine ⟨_, .step (fun k => whole_compare_eq k _ _) (.tt (by simp; omega) (.pure _)), ?_⟩
    rw [wi64_id (by omega) (by omega)]
    rcases Nat.lt_or_ge (digs 4294967296 a).length (digs 4294967296 b).length with z | z
    · have := digs_lt_of_len (b := 4294967296) (by decide) z
      omega
    · have := digs_lt_of_len (b := 4294967296) (by decide) (show (digs 4294967296 b).length < (digs 4294967296 a).length by omega)
      omega

theorem ev_less_c4 (a b : List Int) (ha : Dg 4294967296 a) (hb : Dg 4294967296 b) (hl : b.length ≤ a.length) (hn : a.length < 549755813888) : ∀ (m i : Nat) (out : List Int) (c : Int), a.length - i = m → i ≤ a.length → out.length = i → Dg 4294967296 out → 0 ≤ c → c ≤ 1 →
    0 ≤ Vb 4294967296 out + 4294967296 ^ i * (Vb 4294967296 (a.drop i) - Vb 4294967296 (b.drop i) - c) →
    Ev (fun k => whole_less_c4 k b out c a (a.length : Int) (i : Int)) (digs 4294967296 (Vb 4294967296 out + 4294967296 ^ i * (Vb 4294967296 (a.drop i) - Vb 4294967296 (b.drop i) - c)).toNat) := by
  intro m
  induction m with
  | zero =>
    intro i out c hm hi ho hd hc hc1 hp
    have hi' : i = a.length := by omega
    subst hi'
    rw [List.drop_length, List.drop_of_length_le hl] at hp ⊢
    simp only [Vb] at hp ⊢
    have hc0 : c = 0 := by
      have h1 := Vb_lt (b := 4294967296) (by omega) hd
      rw [ho] at h1
      rcases (show c = 0 ∨ c = 1 by omega) with h | h
      · exact h
      · subst h
        exfalso
        rw [show (0 - 0 - 1 : Int) = -1 by omega, Int.mul_neg, Int.mul_one] at hp
        omega
    subst hc0
    refine .step (fun k => whole_less_c4_eq k _ _ _ _ _ _) (.nk (by omega) ?_)
    refine .ret (ev_trimmed out (by omega) hd) ?_
    simp
  | succ m ih =>
    intro i out c hm hi ho hd hc hc1 hp
    have hlt : i < a.length := by omega
    have hx := ha.at (by omega) i
    have hti : ((i : Int)).toNat = i := Int.toNat_natCast i
    have e1 : wi64 ((i : Int) + 1) = ((i + 1 : Nat) : Int) := by rw [wi64_id (by omega) (by omega)]; rfl
    have bor : ∀ t : Int, -4294967296 ≤ t → t < 4294967296 → bitsI .and .u64 (shrI .u64 (t % 18446744073709551616) 32) 1 = (if t < 0 then 1 else 0) ∧ wu32 (t % 18446744073709551616) = t + 4294967296 * (if t < 0 then 1 else 0) := by
      intro t h1 h2
      rw [shr32, and1 rfl (by decide) (by omega) (by simp [IntKind.bits]; omega), wu32_mod]
      split <;> omega
    rw [drop_cons hlt] at hp ⊢
    generalize hxe : a.getD i 0 = x at *
    by_cases hb2 : i < b.length
    · have hy := hb.at (by omega) i
      rw [drop_cons hb2] at hp ⊢
      generalize hye : b.getD i 0 = y at *
      obtain ⟨b1, b2⟩ := bor (x - c - y) (by omega) (by omega)
      have et : wu64 (wu64 (wu64 x - c) - wu64 y) = (x - c - y) % 18446744073709551616 := by
        rw [wu64_id (x := x) (by omega) (by omega), wu64_id (x := y) (by omega) (by omega), wu64_mod, wu64_mod]
        omega
      have hval : Vb 4294967296 (out ++ [x - c - y + 4294967296 * (if x - c - y < 0 then 1 else 0)]) + 4294967296 ^ (i + 1) * (Vb 4294967296 (a.drop (i + 1)) - Vb 4294967296 (b.drop (i + 1)) - (if x - c - y < 0 then 1 else 0)) = Vb 4294967296 out + 4294967296 ^ i * (Vb 4294967296 (x :: a.drop (i + 1)) - Vb 4294967296 (y :: b.drop (i + 1)) - c) := by
        rw [Vb_append, Vb_one, ho, Int.pow_succ]
        simp only [Vb]
        rw [Int.add_assoc, pow_step]
        congr 2
        omega
      rw [← hval] at hp ⊢
      refine .step (fun k => whole_less_c4_eq k _ _ _ _ _ _) (.ck (by omega) (.ck (by omega) (.ck (by omega) (.ck (by omega) (.ck (by omega) (.ck (by omega) (.ck (by omega) ?_)))))))
      rw [hti, hxe, hye, et, b1, b2, e1]
      exact ih (i + 1) _ _ (by omega) (by omega) (by simp [ho]) (hd.append (.mk (by split <;> omega) (by split <;> omega) .nil)) (by split <;> omega) (by split <;> omega) hp
    · obtain ⟨b1, b2⟩ := bor (x - c) (by omega) (by omega)
      have et : wu64 (wu64 x - c) = (x - c) % 18446744073709551616 := by
        rw [wu64_id (x := x) (by omega) (by omega), wu64_mod]
      rw [List.drop_of_length_le (show b.length ≤ i by omega)] at hp ⊢
      have hval : Vb 4294967296 (out ++ [x - c + 4294967296 * (if x - c < 0 then 1 else 0)]) + 4294967296 ^ (i + 1) * (Vb 4294967296 (a.drop (i + 1)) - Vb 4294967296 (b.drop (i + 1)) - (if x - c < 0 then 1 else 0)) = Vb 4294967296 out + 4294967296 ^ i * (Vb 4294967296 (x :: a.drop (i + 1)) - Vb 4294967296 [] - c) := by
        rw [Vb_append, Vb_one, ho, Int.pow_succ, List.drop_of_length_le (show b.length ≤ i + 1 by omega)]
        simp only [Vb]
        rw [Int.add_assoc, pow_step]
        congr 2
        omega
      rw [← hval] at hp ⊢
      refine .step (fun k => whole_less_c4_eq k _ _ _ _ _ _) (.ck (by omega) (.ck (by omega) (.ck (by omega) (.nk (by omega) (.ck (by omega) ?_)))))
      rw [hti, hxe, et, b1, b2, e1]
      exact ih (i + 1) _ _ (by omega) (by omega) (by simp [ho]) (hd.append (.mk (by split <;> omega) (by split <;> omega) .nil)) (by split <;> omega) (by split <;> omega) hp

theorem ev_less (a b : Nat) (ha : (digs 4294967296 a).length < 549755813888) (h : b ≤ a) : Ev (fun k => whole_less k (digs 4294967296 a) (digs 4294967296 b)) (digs 4294967296 (a - b)) := by
  have hl : (digs 4294967296 b).length ≤ (digs 4294967296 a).length := by
    rcases Nat.lt_or_ge (digs 4294967296 a).length (digs 4294967296 b).length with z | z
    · have := digs_lt_of_len (b := 4294967296) (by decide) z
      omega
    · exact z
  have := ev_less_c4 _ _ (dD a) (dD b) hl ha _ 0 [] 0 rfl (by omega) rfl .nil (by omega) (by omega) (by simp [Vb, dV]; omega)
  refine .step (fun k => whole_less_eq k _ _) (.ck (by omega) (.ck (by omega) (.to this ?_)))
  simp only [List.drop_zero, dV, Vb]
  congr 1
  simp

theorem ev_made_digs (s : Bool) (n : Nat) (hn : (digs 4294967296 n).length < 1099511627776) : Ev (fun k => whole_made k s (digs 4294967296 n)) (W (cond s (-(n : Int)) n)) := by
  have := ev_made s _ hn (dD n)
  rwa [dV] at this

theorem ev_Plus (a b : Int) (ha : Sm a) (hb : Sm b) : Ev (fun k => whole_Int_Plus k (W a) (W b)) (W (a + b)) := by
  have la := ha.len
  have lb := hb.len
  refine .step (fun k => whole_Int_Plus_eq k _ _) ?_
  by_cases hs : decide (a < 0) = decide (b < 0)
  · refine .tt (by simpa [W] using hs) ?_
    obtain ⟨s, q1, q2, q3, q4⟩ := ev_sum (W a).2 (W b).2 (W_dg a) (W_dg b) (by omega) (by omega)
    refine .bind q1 (.ret (ev_made (W a).1 s (by omega) q2) ?_)
    rw [q4, W_V, W_V, W_neg]
    congr 1
    have hs' : a < 0 ↔ b < 0 := by simpa using hs
    by_cases h0 : a < 0
    · have := hs'.1 h0
      simp [h0]
      omega
    · have : ¬ b < 0 := fun z => h0 (hs'.2 z)
      simp [h0]
      omega
  · refine .ff (by simpa [W] using hs) ?_
    obtain ⟨r, q1, q2⟩ := ev_compare a.natAbs b.natAbs (show (W a).2.length < _ by omega) (show (W b).2.length < _ by omega)
    have hs' : ¬ (a < 0 ↔ b < 0) := by simpa using hs
    refine .bind q1 (.dec (fun h => ?_) (fun h => ?_))
    · have hba := q2.1 h
      refine .bind (ev_less a.natAbs b.natAbs (show (W a).2.length < _ by omega) hba) (.ret (ev_made_digs (W a).1 _ ?_) ?_)
      · have h1 : a.natAbs < 4294967296 ^ 100 := ha
        have := digs_len (b := 4294967296) (by decide) 100 (a.natAbs - b.natAbs) (by omega)
        omega
      · rw [W_neg]
        congr 1
        by_cases h0 : a < 0
        · simp [h0]
          omega
        · simp [h0]
          omega
    · have hba : a.natAbs < b.natAbs := by
        rcases Nat.lt_or_ge a.natAbs b.natAbs with z | z
        · exact z
        · exact absurd (q2.2 z) h
      refine .bind (ev_less b.natAbs a.natAbs (show (W b).2.length < _ by omega) (by omega)) (.ret (ev_made_digs (W b).1 _ ?_) ?_)
      · have h1 : b.natAbs < 4294967296 ^ 100 := hb
        have := digs_len (b := 4294967296) (by decide) 100 (b.natAbs - a.natAbs) (by omega)
        omega
      · rw [W_neg]
        congr 1
        by_cases h0 : b < 0
        · simp [h0]
          omega
        · simp [h0]
          omega

theorem ev_Minus (a : Int) (ha : Sm a) : Ev (fun k => whole_Int_Minus k (W a)) (W (-a)) := by
  have la := ha.len
  refine .step (fun k => whole_Int_Minus_eq k _) (.ret (ev_made_digs (!(W a).1) a.natAbs (show (W a).2.length < _ by omega)) ?_)
  rw [W_neg]
  congr 1
  by_cases h0 : a < 0
  · simp [h0]
    omega
  · simp [h0]
    omega
theorem ev_Abs (a : Int) (ha : Sm a) : Ev (fun k => whole_Int_Abs k (W a)) (W a.natAbs) := by
  have la := ha.len
  exact .step (fun k => whole_Int_Abs_eq k _) (.ret (ev_made_digs false a.natAbs (show (W a).2.length < _ by omega)) rfl)
theorem Sm.neg {a : Int} (h : Sm a) : Sm (-a) := by unfold Sm at *; omega
theorem ev_Less (a b : Int) (ha : Sm a) (hb : Sm b) : Ev (fun k => whole_Int_Less k (W a) (W b)) (W (a - b)) :=
  .step (fun k => whole_Int_Less_eq k _ _) (.bind (ev_Minus b hb) (.ret (ev_Plus a (-b) ha hb.neg) (by rw [Int.sub_eq_add_neg])))
theorem ev_Sign (a : Int) : Ev (fun k => whole_Int_Sign k (W a)) a.sign := by
  refine .step (fun k => whole_Int_Sign_eq k _) ?_
  by_cases h0 : a < 0
  · exact .tt (by simpa [W] using h0) (.to (.pure _) (Int.sign_eq_neg_one_of_neg h0).symm)
  · refine .ff (by simpa [W] using h0) ?_
    by_cases hz : a = 0
    · subst hz
      exact .tt (by simp [W, digs_zero]) (.pure _)
    · refine .ff ?_ (.to (.pure _) (Int.sign_eq_one_of_pos (by omega)).symm)
      have := digs_ne (b := 4294967296) (n := a.natAbs) (by decide) (by omega)
      simpa [W] using this
theorem ev_Compare (a b : Int) (ha : Sm a) (hb : Sm b) : Ev (fun k => whole_Int_Compare k (W a) (W b)) (a - b).sign :=
  .step (fun k => whole_Int_Compare_eq k _ _) (.bind (ev_Less a b ha hb) (.ret (ev_Sign _) rfl))

theorem digs_one {n : Nat} (h : 0 < n) (h2 : n < 4294967296) : digs 4294967296 n = [(n : Int)] := by
  rw [digs_pos (by decide) h, Nat.mod_eq_of_lt h2, Nat.div_eq_of_lt h2]
  rfl
theorem digs_two {n : Nat} (h : 4294967296 ≤ n) (h2 : n < 18446744073709551616) : digs 4294967296 n = [((n % 4294967296 : Nat) : Int), ((n / 4294967296 : Nat) : Int)] := by
  rw [digs_pos (by decide) (by omega), digs_one (Nat.div_pos h (by omega)) (by omega)]

theorem ev_Int_c5 (most v : Int) (s2 : Bool × List Int) (l : List Int) (hm : 0 ≤ most) (hm2 : most < 4611686018427387904) (hv : 0 ≤ v) (hv2 : v < 18446744073709551616) :
    Ev (fun k => whole_Int_Int_c5 k most s2 v l (l.length : Int) (l.length : Int)) (if v ≤ most then (cond s2.1 (-v) v, true) else (0, false)) := by
  refine .step (fun k => whole_Int_Int_c5_eq k _ _ _ _ _ _) (.nk (by omega) ?_)
  rw [wu64_id (x := most) hm (by omega)]
  refine .dec (fun h => .to (.pure _) (by rw [if_neg (by omega)])) (fun h => ?_)
  rw [if_pos (by omega)]
  rw [wi64_id (x := v) (by omega) (by omega), wi64_id (x := 0 - v) (by omega) (by omega)]
  refine .cond (fun h => .to (.pure _) (by rw [h]; simp)) (fun h => .to (.pure _) (by rw [h]; simp))

theorem shl_id {x i : Int} (n : Nat) (hi : i = n) (hn : n ≤ 64) (hx : 0 ≤ x) (h : x * 2 ^ n < 18446744073709551616) : shlI .u64 x i = x * 2 ^ n := by
  subst hi
  show wu64 (x * 2 ^ (min ((n : Int)).toNat 64)) = _
  rw [Int.toNat_natCast, Nat.min_eq_left hn]
  exact wu64_id (Int.mul_nonneg hx (Int.pow_nonneg (by omega))) h

theorem ev_Int (a most : Int) (hm : 0 ≤ most) (hm2 : most < 4611686018427387904) : Ev (fun k => whole_Int_Int k (W a) most) (if a.natAbs ≤ most then (a, true) else (0, false)) := by
  have fin : ∀ v : Int, v = a.natAbs → (if v ≤ most then (cond (W a).1 (-v) v, true) else (0, false)) = (if (a.natAbs : Int) ≤ most then (a, true) else (0, false)) := by
    intro v hv
    subst hv
    have : cond (W a).1 (-(a.natAbs : Int)) (a.natAbs : Int) = a := by
      rw [W_neg]
      by_cases h : a < 0
      · simp [h]; omega
      · simp [h]; omega
    rw [this]
  rcases Nat.eq_zero_or_pos a.natAbs with h0 | h0
  · have hd : (W a).2 = [] := by show digs _ _ = _; rw [h0]; rfl
    refine .step (fun k => whole_Int_Int_eq k _ _) (.nk (by rw [hd]; simp) ?_)
    rw [hd]
    refine .to (ev_Int_c5 most 0 (W a) [] hm hm2 (by omega) (by omega)) (fin 0 (by omega))
  · rcases Nat.lt_or_ge a.natAbs 4294967296 with h1 | h1
    · have hd : (W a).2 = [(a.natAbs : Int)] := digs_one h0 h1
      refine .step (fun k => whole_Int_Int_eq k _ _) (.nk (by rw [hd]; simp) ?_)
      rw [hd]
      have e0 : wi64 (32 * 0) = 0 := wi64_id (by omega) (by omega)
      refine .step (fun k => whole_Int_Int_c5_eq k _ _ _ _ _ _) (.ck (by simp) (.ck (by omega) (.ck (by simp) ?_)))
      rw [e0]
      refine .ck (by omega) ?_
      have e1 : bitsI .or .u64 0 (shlI .u64 (wu64 ([(a.natAbs : Int)].getD (0 : Int).toNat 0)) 0) = (a.natAbs : Int) := by
        show bitsI .or .u64 0 (shlI .u64 (wu64 (a.natAbs : Int)) 0) = _
        rw [wu64_id (by omega) (by omega), shl_id (i := 0) 0 (by rfl) (by omega) (by omega) (by simp; omega)]
        have := or_add (k := .u64) (x := 0) (y := (a.natAbs : Int)) (i := 64) rfl (by omega) (by omega) (by simp [IntKind.bits]; omega) (by simp; omega)
        simpa using this
      have e2 : wi64 (0 + 1) = (([(a.natAbs : Int)].length : Nat) : Int) := wi64_id (by omega) (by omega)
      rw [e1, e2]
      exact .to (ev_Int_c5 most _ (W a) _ hm hm2 (by omega) (by omega)) (fin _ rfl)
    · rcases Nat.lt_or_ge a.natAbs 18446744073709551616 with h2 | h2
      · have hd : (W a).2 = [((a.natAbs % 4294967296 : Nat) : Int), ((a.natAbs / 4294967296 : Nat) : Int)] := digs_two h1 h2
        refine .step (fun k => whole_Int_Int_eq k _ _) (.nk (by rw [hd]; simp) ?_)
        rw [hd]
        generalize hx : a.natAbs % 4294967296 = x
        generalize hy : a.natAbs / 4294967296 = y
        have e0 : wi64 (32 * 0) = 0 := wi64_id (by omega) (by omega)
        refine .step (fun k => whole_Int_Int_c5_eq k _ _ _ _ _ _) (.ck (by simp) (.ck (by omega) (.ck (by simp) ?_)))
        rw [e0]
        refine .ck (by omega) ?_
        have e1 : bitsI .or .u64 0 (shlI .u64 (wu64 ([(x : Int), (y : Int)].getD (0 : Int).toNat 0)) 0) = (x : Int) := by
          show bitsI .or .u64 0 (shlI .u64 (wu64 (x : Int)) 0) = _
          rw [wu64_id (by omega) (by omega), shl_id (i := 0) 0 (by rfl) (by omega) (by omega) (by simp; omega)]
          have := or_add (k := .u64) (x := 0) (y := (x : Int)) (i := 64) rfl (by omega) (by omega) (by simp [IntKind.bits]; omega) (by simp; omega)
          simpa using this
        have e2 : wi64 (0 + 1) = 1 := wi64_id (by omega) (by omega)
        rw [e1, e2]
        have e3 : wi64 (32 * 1) = 32 := wi64_id (by omega) (by omega)
        refine .step (fun k => whole_Int_Int_c5_eq k _ _ _ _ _ _) (.ck (by simp) (.ck (by omega) (.ck (by simp) ?_)))
        rw [e3]
        refine .ck (by omega) ?_
        have e4 : bitsI .or .u64 (x : Int) (shlI .u64 (wu64 ([(x : Int), (y : Int)].getD (1 : Int).toNat 0)) 32) = (a.natAbs : Int) := by
          show bitsI .or .u64 (x : Int) (shlI .u64 (wu64 (y : Int)) 32) = _
          rw [wu64_id (by omega) (by omega), shl_id (i := 32) 32 (by rfl) (by omega) (by omega) (by omega)]
          have := or_add (k := .u64) (x := (y : Int)) (y := (x : Int)) (i := 32) rfl (by omega) (by omega) (by simp [IntKind.bits]; omega) (by simp; omega)
          rw [bits_or rfl (by omega) (by simp [IntKind.bits]; omega) (by omega) (by simp [IntKind.bits]; omega), Nat.or_comm, ← bits_or (k := .u64) rfl (by omega) (by simp [IntKind.bits]; omega) (by omega) (by simp [IntKind.bits]; omega), this]
          omega
        have e5 : wi64 (1 + 1) = (([(x : Int), (y : Int)].length : Nat) : Int) := wi64_id (by omega) (by omega)
        rw [e4, e5]
        exact .to (ev_Int_c5 most _ (W a) _ hm hm2 (by omega) (by omega)) (fin _ rfl)
      · have hl : 2 < (W a).2.length := digs_len_ge (b := 4294967296) (by decide) (m := 2) h2
        exact .step (fun k => whole_Int_Int_eq k _ _) (.ck (by omega) (.to (.pure _) (by rw [if_neg (by omega)])))

/-! ### products -/
theorem ev_Times_c7 (a b : Bool × List Int) (s4 : Bool × List Int) (hb : Dg 4294967296 b.2) (x : Int) (hx : 0 ≤ x) (hx2 : x < 4294967296) (i : Nat) (hlen : i + b.2.length < 1099511627776) (s20 : List Int) (s21 s22 : Int) : ∀ (m j : Nat) (out : List Int) (c : Int), b.2.length - j = m → j ≤ b.2.length → i + b.2.length < out.length → Dg 4294967296 out → 0 ≤ c → c < 4294967296 → (∀ p, i + b.2.length ≤ p → out.getD p 0 = 0) →
    ∃ out2, out2.length = out.length ∧ Dg 4294967296 out2 ∧ (∀ p, i + b.2.length + 1 ≤ p → out2.getD p 0 = 0) ∧ Vb 4294967296 out2 = Vb 4294967296 out + 4294967296 ^ (i + j) * (c + x * Vb 4294967296 (b.2.drop j)) ∧
      ∀ y, Ev (fun k => whole_Int_Times_c3 k a b s4 out2 s20 s21 (wi64 (s22 + 1))) y → Ev (fun k => whole_Int_Times_c7 k a b s4 out (i : Int) x c s20 s21 s22 b.2 (b.2.length : Int) (j : Int)) y := by
  intro m
  induction m with
  | zero =>
    intro j out c hm hj hol hd hc hc2 hz
    have hj' : j = b.2.length := by omega
    subst hj'
    have e1 : wi64 ((i : Int) + (b.2.length : Int)) = ((i + b.2.length : Nat) : Int) := by rw [wi64_id (by omega) (by omega)]; rfl
    refine ⟨out.set (i + b.2.length) (wu32 c), by simp, ?_, fun p hp => ?_, ?_, fun y hy => ?_⟩
    · rw [wu32_id hc hc2]
      exact hd.set _ hc hc2
    · rw [List.getD_eq_getElem?_getD, List.getElem?_set_ne (by omega), ← List.getD_eq_getElem?_getD]
      exact hz p (by omega)
    · rw [Vb_set _ _ _ _ hol, wu32_id hc hc2, hz _ (Nat.le_refl _), List.drop_length]
      simp [Vb]
    · refine .step (fun k => whole_Int_Times_c7_eq k _ _ _ _ _ _ _ _ _ _ _ _ _) (.nk (by omega) ?_)
      rw [e1]
      exact .ck (by omega) (.ck (by omega) (by rw [Int.toNat_natCast]; exact hy))
  | succ m ih =>
    intro j out c hm hj hol hd hc hc2 hz
    have hlt : j < b.2.length := by omega
    have hy := hb.at (by omega) j
    have ho := hd.at (by omega) (i + j)
    have hti : ((j : Int)).toNat = j := Int.toNat_natCast j
    have e1 : wi64 ((i : Int) + (j : Int)) = ((i + j : Nat) : Int) := by rw [wi64_id (by omega) (by omega)]; rfl
    have e2 : wi64 ((j : Int) + 1) = ((j + 1 : Nat) : Int) := by rw [wi64_id (by omega) (by omega)]; rfl
    rw [drop_cons hlt]
    generalize hye : b.2.getD j 0 = y at *
    generalize hoe : out.getD (i + j) 0 = o at *
    have hxy0 : 0 ≤ x * y := Int.mul_nonneg hx hy.1
    have hxy : x * y ≤ 4294967295 * 4294967295 := Int.le_trans (Int.mul_le_mul_of_nonneg_right (show x ≤ 4294967295 by omega) hy.1) (Int.mul_le_mul_of_nonneg_left (show y ≤ 4294967295 by omega) (by omega))
    have et : wu64 (c + wu64 (wu64 o + wu64 (wu64 x * wu64 y))) = c + (o + x * y) := by
      rw [wu64_id (x := x) hx (by omega), wu64_id (x := y) hy.1 (by omega), wu64_id (x := o) ho.1 (by omega), wu64_id (x := x * y) hxy0 (by omega), wu64_id (x := o + x * y) (by omega) (by omega), wu64_id (by omega) (by omega)]
    generalize hp : x * y = p at *
    obtain ⟨out2, q1, q2, q3, q4, q5⟩ := ih (j + 1) (out.set (i + j) ((c + (o + p)) % 4294967296)) ((c + (o + p)) / 4294967296) (by omega) (by omega) (by simpa using hol) (hd.set _ (by omega) (by omega)) (by omega) (by omega) (fun r hr => by
      rw [List.getD_eq_getElem?_getD, List.getElem?_set_ne (by omega), ← List.getD_eq_getElem?_getD]
      exact hz r hr)
    refine ⟨out2, by simpa using q1, q2, q3, ?_, fun z hz' => ?_⟩
    · rw [q4, Vb_set _ _ _ _ (by omega), hoe, ← Nat.add_assoc, Int.pow_succ]
      simp only [Vb]
      rw [Int.add_assoc, pow_step]
      congr 2
      rw [Int.mul_add x, hp, ← Int.mul_assoc x, Int.mul_comm x 4294967296, Int.mul_assoc]
      generalize x * Vb 4294967296 (b.2.drop (j + 1)) = q
      omega
    · refine .step (fun k => whole_Int_Times_c7_eq k _ _ _ _ _ _ _ _ _ _ _ _ _) (.ck (by omega) (.ck (by omega) (.ck (by omega) ?_)))
      rw [e1]
      refine .ck (by omega) (.ck (by omega) (.ck (by omega) (.ck (by omega) ?_)))
      rw [hti, Int.toNat_natCast, hye, hoe, et, shr32, wu32_mod, e2]
      exact q5 z hz'

theorem ev_Times_c3 (a b : Bool × List Int) (s4 : Bool × List Int) (ha : Dg 4294967296 a.2) (hb : Dg 4294967296 b.2) (hlen : a.2.length + b.2.length < 1099511627776) : ∀ (m i : Nat) (out : List Int), a.2.length - i = m → i ≤ a.2.length → out.length = a.2.length + b.2.length → Dg 4294967296 out → (∀ p, i + b.2.length ≤ p → out.getD p 0 = 0) →
    Ev (fun k => whole_Int_Times_c3 k a b s4 out a.2 (a.2.length : Int) (i : Int)) (W (cond (!(a.1 == b.1)) (-(Vb 4294967296 out + 4294967296 ^ i * (Vb 4294967296 (a.2.drop i) * Vb 4294967296 b.2))) (Vb 4294967296 out + 4294967296 ^ i * (Vb 4294967296 (a.2.drop i) * Vb 4294967296 b.2)))) := by
  intro m
  induction m with
  | zero =>
    intro i out hm hi hol hd hz
    have hi' : i = a.2.length := by omega
    subst hi'
    refine .step (fun k => whole_Int_Times_c3_eq k _ _ _ _ _ _ _) (.nk (by omega) (.ret (ev_made _ out (by omega) hd) ?_))
    rw [List.drop_length]
    simp [Vb]
  | succ m ih =>
    intro i out hm hi hol hd hz
    have hlt : i < a.2.length := by omega
    have hx := ha.at (by omega) i
    have hti : ((i : Int)).toNat = i := Int.toNat_natCast i
    have e2 : wi64 ((i : Int) + 1) = ((i + 1 : Nat) : Int) := by rw [wi64_id (by omega) (by omega)]; rfl
    obtain ⟨out2, q1, q2, q3, q4, q5⟩ := ev_Times_c7 a b s4 hb (a.2.getD i 0) hx.1 hx.2 i (by omega) a.2 (a.2.length : Int) (i : Int) _ 0 out 0 rfl (by omega) (by omega) hd (by omega) (by omega) hz
    refine .step (fun k => whole_Int_Times_c3_eq k _ _ _ _ _ _ _) (.ck (by omega) (.ck (by omega) (.ck (by omega) ?_)))
    rw [hti]
    refine q5 _ ?_
    rw [e2]
    refine .to (ih (i + 1) out2 (by omega) (by omega) (by omega) q2 (fun p hp => q3 p (by omega))) ?_
    have hv : Vb 4294967296 out2 + 4294967296 ^ (i + 1) * (Vb 4294967296 (a.2.drop (i + 1)) * Vb 4294967296 b.2) = Vb 4294967296 out + 4294967296 ^ i * (Vb 4294967296 (a.2.drop i) * Vb 4294967296 b.2) := by
      rw [q4, drop_cons hlt, Int.pow_succ]
      simp only [Vb, Nat.add_zero, List.drop_zero]
      rw [Int.add_assoc, pow_step, Int.add_mul, Int.zero_add, Int.mul_assoc]
    rw [hv]

theorem ev_Times (a b : Int) (ha : Sm a) (hb : Sm b) : Ev (fun k => whole_Int_Times k (W a) (W b)) (W (a * b)) := by
  have la := ha.len
  have lb := hb.len
  have e1 : wi64 (((W a).2.length : Int) + ((W b).2.length : Int)) = (((W a).2.length + (W b).2.length : Nat) : Int) := by rw [wi64_id (by omega) (by omega)]; rfl
  refine .step (fun k => whole_Int_Times_eq k _ _) ?_
  rw [e1, Int.toNat_natCast]
  have hz : ∀ n p : Nat, (List.replicate n (0 : Int)).getD p 0 = 0 := by
    intro n p
    rw [List.getD_eq_getElem?_getD, List.getElem?_replicate]
    split <;> rfl
  refine .ck (by omega) (.ck (by omega) (.to (ev_Times_c3 (W a) (W b) (false, []) (W_dg a) (W_dg b) (by omega) _ 0 _ rfl (by omega) (by simp) (.zeros (by omega) _) (fun p _ => hz _ p)) ?_))
  rw [Vb_zeros]
  simp only [List.drop_zero, W_V, W_neg]
  congr 1
  have hn : ((a.natAbs : Int) * (b.natAbs : Int)) = ((a * b).natAbs : Int) := by rw [Int.natAbs_mul]; push_cast; rfl
  rw [hn]
  simp only [Int.pow_zero, Int.one_mul, Int.zero_add]
  by_cases h1 : a < 0
  · by_cases h2 : b < 0
    · have := Int.mul_pos_of_neg_of_neg h1 h2
      simp [h1, h2]
      omega
    · have : a * b ≤ 0 := Int.mul_nonpos_of_nonpos_of_nonneg (by omega) (by omega)
      simp [h1, h2]
      omega
  · by_cases h2 : b < 0
    · have : a * b ≤ 0 := Int.mul_nonpos_of_nonneg_of_nonpos (by omega) (by omega)
      simp [h1, h2]
      omega
    · have : 0 ≤ a * b := Int.mul_nonneg (by omega) (by omega)
      simp [h1, h2]
      omega

theorem ev_Power_c3 (s2 : Bool × List Int) (n : Nat) (hn : n ≤ 130) : ∀ (m i : Nat), n - i = m → i ≤ n → Ev (fun k => whole_Power_c3 k s2 (W (10 ^ i)) (n : Int) (i : Int)) (W (10 ^ n)) := by
  intro m
  induction m with
  | zero =>
    intro i hm hi
    have hi' : i = n := by omega
    subst hi'
    exact .step (fun k => whole_Power_c3_eq k _ _ _ _) (.nk (by omega) (.pure _))
  | succ m ih =>
    intro i hm hi
    have e2 : wi64 ((i : Int) + 1) = ((i + 1 : Nat) : Int) := by rw [wi64_id (by omega) (by omega)]; rfl
    refine .step (fun k => whole_Power_c3_eq k _ _ _ _) (.ck (by omega) (.bind (ev_Of 10 (by omega) (by omega)) (.bind (ev_Times (10 ^ i) 10 (.of ?_) (.of (by decide))) ?_)))
    · have h1 : (10 : Nat) ^ i ≤ 10 ^ 130 := Nat.pow_le_pow_right (by omega) (by omega)
      have h2 : ((10 : Int) ^ i).natAbs = 10 ^ i := by rw [Int.natAbs_pow]; rfl
      rw [h2]
      exact h1
    · rw [e2, ← Int.pow_succ]
      exact ih (i + 1) (by omega) (by omega)
theorem ev_Power (n : Nat) (hn : n ≤ 130) : Ev (fun k => whole_Power k (n : Int)) (W (10 ^ n)) :=
  .step (fun k => whole_Power_eq k _) (.bind (ev_Of 1 (by omega) (by omega)) (ev_Power_c3 _ n hn _ 0 rfl (by omega)))
end Go.Proofs.YtegiadfbniamkaaDoor.Eq
namespace Go.Ra
open Go Go.Ra

theorem eqS_iff (a b : ByteArray) : eqS a b = true ↔ a = b := by
  unfold eqS
  rw [beq_iff_eq, Lib.toList_data, Lib.toList_data]
  constructor
  · intro h
    rw [← Lib.mk_data a, ← Lib.mk_data b, h]
  · intro h
    rw [h]
theorem eqS_self (a : ByteArray) : eqS a a = true := (eqS_iff a a).2 rfl
theorem eqS_ne {a b : ByteArray} (h : a ≠ b) : eqS a b = false := by
  cases he : eqS a b with
  | false => rfl
  | true => exact absurd ((eqS_iff a b).1 he) h

theorem bor' {p q : Bool} (h : p = true → q = true) : ((!p) || q) = true := by
  cases p
  · rfl
  · simp [h rfl]

theorem bt_at {s : ByteArray} {i : Nat} (h : i < s.size) : bt s (i : Int) = (((s.data.toList.getD i 0).toNat : Nat) : Int) := by
  unfold bt
  rw [dif_pos (by simpa using h)]
  have h' : i < s.data.toList.length := by rw [← Lib.size_eq]; exact h
  simp [List.getD_eq_getElem?_getD, List.getElem?_eq_getElem h', ByteArray.getElem_eq_getElem_data]


/-! ### strings and lists of bytes -/
abbrev L (s : ByteArray) : List UInt8 := s.data.toList
def B (l : List UInt8) : ByteArray := ⟨l.toArray⟩
theorem L_B (l : List UInt8) : L (B l) = l := rfl
theorem B_L (s : ByteArray) : B (L s) = s := Lib.mk_data s
theorem L_app (a b : ByteArray) : L (a ++ b) = L a ++ L b := by
  simp [L, ByteArray.data_append]
theorem B_app (a b : List UInt8) : B a ++ B b = B (a ++ b) := by rw [← B_L (B a ++ B b), L_app, L_B, L_B]
theorem size_L (s : ByteArray) : s.size = (L s).length := Lib.size_eq s
theorem size_B (l : List UInt8) : (B l).size = l.length := by rw [size_L, L_B]
theorem L_ext (s : ByteArray) (i j : Nat) : L (s.extract i j) = ((L s).take j).drop i := by
  rw [List.drop_take]
  show (s.extract i j).data.toList = _
  rw [ByteArray.data_extract, Array.toList_extract]
theorem B_ext (l : List UInt8) (i j : Nat) : (B l).extract i j = B ((l.take j).drop i) := by rw [← B_L ((B l).extract i j), L_ext, L_B]
theorem L_inj {a b : ByteArray} (h : L a = L b) : a = b := by rw [← B_L a, h, B_L]
theorem eqS_L (a b : ByteArray) : eqS a b = decide (L a = L b) := by
  by_cases h : a = b
  · subst h; simp [eqS_self]
  · rw [eqS_ne h]
    simp only [Bool.false_eq, decide_eq_false_iff_not]
    exact fun z => h (L_inj z)
theorem L_bs_nil : L (bs []) = [] := rfl
theorem bt_B {l : List UInt8} {i : Nat} (h : i < l.length) : bt (B l) (i : Int) = (((l.getD i 0).toNat : Nat) : Int) := bt_at (by rw [size_B]; exact h)
end Go.Ra
namespace Go.Proofs.YtegiadfbniamkaaDoor.Eq
open Go Go.Ra
theorem awake_at (k : Nat) : interchangelaw1_awake (k + 40) = some true := by kernel_rfl
theorem ev_awake : Ev (fun k => interchangelaw1_awake k) true := .off (n := 40) awake_at
end Go.Proofs.YtegiadfbniamkaaDoor.Eq
namespace Go.Ra
open Go Go.Ra
/-- 1 in a year with a 29th of February. -/
def lp (y : Int) : Int := if y % 4 = 0 ∧ (y % 100 ≠ 0 ∨ y % 400 = 0) then 1 else 0
/-- The days of a month. -/
def dom (y : Int) (m : Nat) : Int := if m = 2 then 28 + lp y else if m = 4 ∨ m = 6 ∨ m = 9 ∨ m = 11 then 30 else 31
/-- The days before a year. -/
def bef (y : Int) : Int := 365 * (y - 1) + (y - 1) / 4 - (y - 1) / 100 + (y - 1) / 400
/-- The days of the first months. -/
def cum (y : Int) : Nat → Int
  | 0 => 0
  | j + 1 => cum y j + dom y (j + 1)
theorem lp_01 (y : Int) : lp y = 0 ∨ lp y = 1 := by unfold lp; split <;> simp
theorem bef_succ (y : Int) : bef (y + 1) = bef y + 365 + lp y := by
  unfold bef lp
  split <;> omega
theorem dom_pos (y : Int) (m : Nat) : 28 ≤ dom y m ∧ dom y m ≤ 31 := by
  have := lp_01 y
  unfold dom
  split
  · omega
  · split <;> omega
theorem cum_year (y : Int) : cum y 12 = 365 + lp y := by
  simp [cum, dom]
  omega
theorem cum_le {y : Int} {i j : Nat} (h : i ≤ j) : cum y i ≤ cum y j := by
  induction j with
  | zero =>
    have : i = 0 := by omega
    subst this
    exact Int.le_refl _
  | succ j ih =>
    by_cases e : i = j + 1
    · rw [e]; exact Int.le_refl _
    · have := ih (by omega)
      have := dom_pos y (j + 1)
      simp only [cum]
      omega
theorem cum_nonneg (y : Int) (j : Nat) : 0 ≤ cum y j := cum_le (y := y) (Nat.zero_le j)
/-- A date. -/
structure Dt where
  y : Int
  m : Nat
  d : Int
structure Dt.Ok (t : Dt) : Prop where
  y1 : 1 ≤ t.y
  y2 : t.y ≤ 9999
  m1 : 1 ≤ t.m
  m2 : t.m ≤ 12
  d1 : 1 ≤ t.d
  d2 : t.d ≤ dom t.y t.m
def Dt.n (t : Dt) : Int := bef t.y + cum t.y (t.m - 1) + t.d
theorem Dt.Ok.in_year {t : Dt} (h : t.Ok) : bef t.y < t.n ∧ t.n ≤ bef (t.y + 1) := by
  have h1 := cum_nonneg t.y (t.m - 1)
  have h2 : cum t.y (t.m - 1) + dom t.y t.m ≤ cum t.y 12 := by
    have e : cum t.y (t.m - 1) + dom t.y t.m = cum t.y (t.m - 1 + 1) := by
      simp only [cum]
      rw [Nat.sub_add_cancel h.m1]
    rw [e]
    exact cum_le (by have := h.m1; have := h.m2; omega)
  have := cum_year t.y
  have := bef_succ t.y
  have := h.d1
  have := h.d2
  unfold Dt.n
  omega
theorem bef_mono {a b : Int} (h : a ≤ b) : bef a ≤ bef b := by
  unfold bef
  omega
theorem Dt.inj {t u : Dt} (h : t.Ok) (k : u.Ok) (e : t.n = u.n) : t = u := by
  have h1 := h.in_year
  have k1 := k.in_year
  have ey : t.y = u.y := by
    rcases Int.lt_trichotomy t.y u.y with z | z | z
    · have := bef_mono (a := t.y + 1) (b := u.y) (by omega)
      omega
    · exact z
    · have := bef_mono (a := u.y + 1) (b := t.y) (by omega)
      omega
  have hm : ∀ {a b : Dt}, a.Ok → b.Ok → a.y = b.y → a.n = b.n → ¬ a.m < b.m := by
    intro a b ha hb e1 e2 z
    have q : cum a.y (a.m - 1) + dom a.y a.m = cum a.y (a.m - 1 + 1) := by
      simp only [cum]
      rw [Nat.sub_add_cancel ha.m1]
    have q2 : cum a.y (a.m - 1 + 1) ≤ cum a.y (b.m - 1) := cum_le (by have := ha.m1; omega)
    have := ha.d2
    have := hb.d1
    unfold Dt.n at e2
    rw [← e1] at e2
    omega
  have em : t.m = u.m := by
    have a := hm h k ey e
    have b := hm k h ey.symm e.symm
    omega
  have ed : t.d = u.d := by
    unfold Dt.n at e
    rw [ey, em] at e
    omega
  cases t; cases u
  simp_all
end Go.Ra
namespace Go.Proofs.YtegiadfbniamkaaDoor.Eq
open Go Go.Ra
set_option linter.unusedVariables false

/-! ### the number of a date -/
/-- What DayOf computes. -/
def okDt (a b c : Int) : Prop := 1 ≤ a ∧ a ≤ 9999 ∧ 1 ≤ b ∧ b ≤ 12 ∧ 1 ≤ c ∧ c ≤ dom a b.toNat
instance (a b c : Int) : Decidable (okDt a b c) := by unfold okDt; infer_instance
theorem Dt.Ok.is {t : Dt} (h : t.Ok) : okDt t.y (t.m : Int) t.d := by
  refine ⟨h.y1, h.y2, ?_, ?_, h.d1, ?_⟩
  · have := h.m1; omega
  · have := h.m2; omega
  · rw [Int.toNat_natCast]; exact h.d2
/-! ### the date of a number -/
end Go.Proofs.YtegiadfbniamkaaDoor.Eq
namespace Go.Ra
open Go Go.Ra
def dgB (b : UInt8) : Bool := decide (48 ≤ b.toNat) && decide (b.toNat ≤ 57)
/-- Digits, at least one. -/
def digB (l : List UInt8) : Bool := !l.isEmpty && l.all dgB
/-- The number that digits spell. -/
def dvA (a : Nat) : List UInt8 → Nat
  | [] => a
  | b :: l => dvA (a * 10 + (b.toNat - 48)) l
def dv (l : List UInt8) : Nat := dvA 0 l
theorem dvA_app (l m : List UInt8) : ∀ a, dvA a (l ++ m) = dvA (dvA a l) m := by
  induction l with
  | nil => intro a; rfl
  | cons b l ih => intro a; exact ih _
theorem dvA_eq (l : List UInt8) : ∀ a, dvA a l = a * 10 ^ l.length + dvA 0 l := by
  induction l with
  | nil =>
    intro a
    show a = a * 10 ^ 0 + 0
    rw [Nat.pow_zero, Nat.mul_one, Nat.add_zero]
  | cons b l ih =>
    intro a
    have h1 := ih (a * 10 + (b.toNat - 48))
    have h2 := ih (0 * 10 + (b.toNat - 48))
    show dvA (a * 10 + (b.toNat - 48)) l = a * 10 ^ (l.length + 1) + dvA (0 * 10 + (b.toNat - 48)) l
    rw [h1, h2, Nat.pow_succ]
    generalize 10 ^ l.length = p
    generalize dvA 0 l = D
    generalize b.toNat - 48 = d
    rw [Nat.add_mul, Nat.zero_mul, Nat.zero_add, Nat.mul_assoc a 10 p, Nat.mul_comm 10 p, Nat.add_assoc]
theorem dv_app (l m : List UInt8) : dv (l ++ m) = dv l * 10 ^ m.length + dv m := by
  unfold dv
  rw [dvA_app, dvA_eq m]
theorem dv_one (b : UInt8) : dv [b] = b.toNat - 48 := by
  show 0 * 10 + (b.toNat - 48) = b.toNat - 48
  omega
theorem dgB_iff {b : UInt8} : dgB b = true ↔ 48 ≤ b.toNat ∧ b.toNat ≤ 57 := by simp [dgB]
theorem dv_lt {l : List UInt8} (h : ∀ b ∈ l, dgB b = true) : dv l < 10 ^ l.length := by
  induction l with
  | nil =>
    show (0 : Nat) < 10 ^ 0
    rw [Nat.pow_zero]
    omega
  | cons b l ih =>
    have h1 := dgB_iff.1 (h b (by simp))
    have h2 := ih fun x hx => h x (by simp [hx])
    have e : dv (b :: l) = (b.toNat - 48) * 10 ^ l.length + dv l := by
      have := dv_app [b] l
      rw [dv_one] at this
      exact this
    rw [e, List.length_cons, Nat.pow_succ]
    have : (b.toNat - 48) * 10 ^ l.length ≤ 9 * 10 ^ l.length := Nat.mul_le_mul_right _ (by omega)
    omega
theorem take_succ' {l : List UInt8} {i : Nat} (h : i < l.length) : l.take (i + 1) = l.take i ++ [l.getD i 0] := by
  rw [List.take_add_one, List.getD_eq_getElem?_getD, List.getElem?_eq_getElem h]
  rfl
theorem digB_len {l : List UInt8} (h : digB l = true) : 1 ≤ l.length := by
  cases l with
  | nil => simp [digB] at h
  | cons => simp
theorem digB_all {l : List UInt8} (h : digB l = true) : ∀ b ∈ l, dgB b = true := by
  unfold digB at h
  rw [Bool.and_eq_true] at h
  exact List.all_eq_true.1 h.2
theorem digB_iff {l : List UInt8} : digB l = true ↔ l ≠ [] ∧ ∀ b ∈ l, dgB b = true := by
  unfold digB
  rw [Bool.and_eq_true, List.all_eq_true]
  cases l <;> simp
theorem eqS_nil (s : ByteArray) : eqS s (bs []) = (L s).isEmpty := by
  rw [eqS_L, L_bs_nil]
  cases L s <;> simp
end Go.Ra
namespace Go.Proofs.YtegiadfbniamkaaDoor.Eq
open Go Go.Ra
set_option linter.unusedVariables false

theorem wu8_dig {b : UInt8} (h : dgB b = true) : wi64 (wu8 (((b.toNat : Nat) : Int) - 48)) = ((b.toNat - 48 : Nat) : Int) := by
  have := dgB_iff.1 h
  rw [wu8_id (by omega) (by omega), wi64_id (by omega) (by omega)]
  omega
theorem ev_InBytes (s : ByteArray) (lo hi : Int) (hs : s.size < 1125899906842624) : Ev (fun k => kit_InBytes k s lo hi) ((L s).all fun b => decide (lo ≤ (b.toNat : Int)) && decide ((b.toNat : Int) ≤ hi)) := by
  refine .step (fun k => kit_InBytes_eq k _ _ _) ?_
  have hsz := size_L s
  have key : ∀ (m i : Nat), s.size - i = m → i ≤ s.size → Ev (fun k => kit_InBytes_c2 k s lo hi (s.size : Int) (i : Int)) (((L s).drop i).all fun b => decide (lo ≤ (b.toNat : Int)) && decide ((b.toNat : Int) ≤ hi)) := by
    intro m
    induction m with
    | zero =>
      intro i hm hi'
      refine .step (fun k => kit_InBytes_c2_eq k _ _ _ _ _) (.nk (by omega) (.to (.pure _) ?_))
      rw [List.drop_of_length_le (by omega)]
      rfl
    | succ m ih =>
      intro i hm hi'
      have hil : i < (L s).length := by omega
      have hd : (L s).drop i = (L s).getD i 0 :: (L s).drop (i + 1) := by
        rw [List.drop_eq_getElem_cons hil, List.getD_eq_getElem?_getD, List.getElem?_eq_getElem hil]
        rfl
      refine .step (fun k => kit_InBytes_c2_eq k _ _ _ _ _) (.ck (by omega) (.ck (by omega) (.ck (by omega) (.tt (bor' fun _ => by simp) (.tt (bor' fun _ => by simp; omega) ?_)))))
      rw [bt_at (by omega : i < s.size), hd, List.all_cons]
      generalize (L s).getD i 0 = b
      have hw : wi64 ((i : Int) + 1) = ((i + 1 : Nat) : Int) := by rw [wi64_id (by omega) (by omega)]; rfl
      by_cases h : lo ≤ (b.toNat : Int) ∧ (b.toNat : Int) ≤ hi
      · rw [decide_eq_true h.1, decide_eq_true h.2]
        refine .ff (by rw [decide_eq_false (by omega), decide_eq_false (by omega)]; rfl) ?_
        rw [hw]
        exact ih (i + 1) (by omega) (by omega)
      · refine .tt ?_ (.to (.pure _) ?_)
        · by_cases h1 : (b.toNat : Int) < lo
          · rw [decide_eq_true h1]; rfl
          · rw [decide_eq_false h1, decide_eq_true (by omega : (b.toNat : Int) > hi)]; rfl
        · have : (decide (lo ≤ (b.toNat : Int)) && decide ((b.toNat : Int) ≤ hi)) = false := by simpa using h
          rw [this]
          rfl
  have := key _ 0 rfl (by omega)
  simpa using this
theorem dgB_eq (b : UInt8) : (decide ((48 : Int) ≤ (b.toNat : Int)) && decide ((b.toNat : Int) ≤ 57)) = dgB b := by
  unfold dgB
  congr 1
  · exact decide_eq_decide.2 (by omega)
  · exact decide_eq_decide.2 (by omega)
theorem ev_kDig (s : ByteArray) (hs : s.size < 1125899906842624) : Ev (fun k => kit_IsDigits k s) (digB (L s)) := by
  refine .step (fun k => kit_IsDigits_eq k _) ?_
  rw [eqS_nil]
  unfold digB
  cases h : (L s).isEmpty with
  | true => exact .bind (x := false) (.ff rfl (.pure _)) (.pure _)
  | false =>
    refine .bind (.tt rfl (ev_InBytes s 48 57 hs)) (.to (.pure _) ?_)
    simp only [dgB_eq]
    rfl
/-! ### cutting -/
def cutP (l : List UInt8) : List UInt8 × Bool := if l.head? = some 45 then (l.drop 1, true) else (l, false)
theorem ev_HasPre (s : ByteArray) (c : UInt8) : Ev (fun k => stringslite_HasPrefix k s (B [c])) (decide ((L s).head? = some c)) := by
  have hsz := size_L s
  have h1 : (B [c]).size = 1 := rfl
  refine .step (fun k => stringslite_HasPrefix_eq k _ _) (.tt (bor' fun _ => by simp) (.tt (bor' fun z => z) (.to (.pure _) ?_)))
  rw [h1]
  cases hl : L s with
  | nil =>
    rw [hl] at hsz
    have h0 : s.size = 0 := hsz
    have : ¬ ((s.size : Int) ≥ ((1 : Nat) : Int)) := by omega
    rw [decide_eq_false this]
    rfl
  | cons b t =>
    rw [hl] at hsz
    have h0 : s.size = t.length + 1 := hsz
    have : ((s.size : Int) ≥ ((1 : Nat) : Int)) := by omega
    rw [decide_eq_true this]
    simp only [cond_true, Int.toNat_natCast]
    rw [eqS_L, L_ext, hl]
    simp [L_B]
theorem ev_CutPre (s : ByteArray) : Ev (fun k => strings_CutPrefix k s (B [45])) (B (cutP (L s)).1, (cutP (L s)).2) := by
  have hsz := size_L s
  have h1 : (B [45]).size = 1 := rfl
  refine .step (fun k => strings_CutPrefix_eq k _ _) (.ret (.step (fun k => stringslite_CutPrefix_eq k _ _) (.bind (ev_HasPre s 45) ?_)) rfl)
  unfold cutP
  by_cases h : (L s).head? = some 45
  · rw [if_pos h, decide_eq_true h]
    have : 1 ≤ (L s).length := by
      cases hl : L s with
      | nil => rw [hl] at h; simp at h
      | cons => simp
    refine .ff rfl (.ck (by omega) (.ck (by rw [h1]; omega) (.to (.pure _) ?_)))
    rw [h1]
    congr 1
    rw [← B_L (s.extract _ _), L_ext, List.take_of_length_le (by omega)]
    rfl
  · rw [if_neg h, decide_eq_false h]
    refine .tt rfl (.to (.pure _) ?_)
    rw [B_L]
theorem ev_Idx (s : ByteArray) (c : UInt8) : Ev (fun k => stringslite_Index k s (B [c])) (Lib.indexByte (L s) c) := by
  have h1 : (B [c]).size = 1 := rfl
  have hb : bt (B [c]) 0 = ((c.toNat : Nat) : Int) := by
    have := bt_B (l := [c]) (i := 0) (by simp)
    simpa using this
  refine .step (fun k => stringslite_Index_eq k _ _) ?_
  rw [h1, eqS_L, L_B]
  by_cases h : [c] = L s
  · refine .tt (by simp [h]) (.to (.pure _) ?_)
    rw [← h]
    simp [Lib.indexByte]
  · refine .ff (by simp [h]) (.tt rfl (.ck (by decide) (.ret ?_ rfl)))
    refine .off (n := 0) fun k => ?_
    show stringslite_IndexByte (k + 0) s _ = _
    rw [stringslite_IndexByte_eq, hb]
    simp
def cutB (l : List UInt8) (c : UInt8) : List UInt8 × List UInt8 × Bool :=
  if 0 ≤ Lib.indexByte l c then (l.take (Lib.indexByte l c).toNat, l.drop ((Lib.indexByte l c).toNat + 1), true) else (l, [], false)
theorem indexByte_lt : ∀ (l : List UInt8) (c : UInt8), 0 ≤ Lib.indexByte l c → (Lib.indexByte l c).toNat < l.length
  | [], _, h => by simp [Lib.indexByte] at h
  | b :: l, c, h => by
    unfold Lib.indexByte at h ⊢
    split
    · simp
    · rename_i hb
      rw [if_neg hb] at h
      split
      · rename_i hm
        rw [if_pos hm] at h
        simp at h
      · rename_i hm
        rw [if_neg hm] at h
        have hge := Lib.indexByte_ge l c
        have hne : Lib.indexByte l c ≠ -1 := by simpa using hm
        have := indexByte_lt l c (by omega)
        simp only [List.length_cons]
        omega
theorem ev_Cut (s : ByteArray) (c : UInt8) (hs : s.size < 1125899906842624) : Ev (fun k => strings_Cut k s (B [c])) (B (cutB (L s) c).1, (B (cutB (L s) c).2.1, (cutB (L s) c).2.2)) := by
  have h1 : (B [c]).size = 1 := rfl
  have hsz := size_L s
  refine .step (fun k => strings_Cut_eq k _ _) (.ret (.step (fun k => stringslite_Cut_eq k _ _) (.bind (ev_Idx s c) ?_)) rfl)
  unfold cutB
  by_cases h : 0 ≤ Lib.indexByte (L s) c
  · rw [if_pos h]
    have hl := indexByte_lt _ _ h
    have hw : wi64 (Lib.indexByte (L s) c + ((B [c]).size : Int)) = (((Lib.indexByte (L s) c).toNat + 1 : Nat) : Int) := by
      rw [h1, wi64_id (by omega) (by omega)]
      omega
    refine .ck h (.ck h (.ck (by omega) ?_))
    rw [hw]
    refine .ck (by omega) (.ck (by omega) (.to (.pure _) ?_))
    rw [Int.toNat_natCast]
    congr 1
    · rw [← B_L (s.extract _ _), L_ext, List.drop_zero]
    · congr 1
      rw [← B_L (s.extract _ _), L_ext, List.take_of_length_le (by omega)]
  · rw [if_neg h]
    refine .nk h (.to (.pure _) ?_)
    rw [B_L]
    rfl
theorem indexByte_none {l : List UInt8} {c : UInt8} (h : c ∉ l) : Lib.indexByte l c = -1 := by
  induction l with
  | nil => rfl
  | cons b l ih =>
    unfold Lib.indexByte
    have hb : b ≠ c := fun z => h (by simp [z])
    have := ih fun z => h (by simp [z])
    rw [this]
    simp [hb]
theorem indexByte_app {l m : List UInt8} {c : UInt8} (h : c ∉ l) : Lib.indexByte (l ++ c :: m) c = l.length := by
  induction l with
  | nil => simp [Lib.indexByte]
  | cons b l ih =>
    show Lib.indexByte (b :: (l ++ c :: m)) c = _
    unfold Lib.indexByte
    have hb : b ≠ c := fun z => h (by simp [z])
    have := ih fun z => h (by simp [z])
    rw [this]
    have hne : ¬ ((l.length : Int) == -1) = true := by simp
    simp [hb, hne]
theorem cutB_none {l : List UInt8} {c : UInt8} (h : c ∉ l) : cutB l c = (l, [], false) := by
  unfold cutB
  rw [indexByte_none h]
  rfl
theorem cutB_app {l m : List UInt8} {c : UInt8} (h : c ∉ l) : cutB (l ++ c :: m) c = (l, m, true) := by
  unfold cutB
  rw [indexByte_app h, if_pos (by omega), Int.toNat_natCast]
  simp
/-- What is cut is a text with the mark, or has none. -/
theorem cutB_cases (l : List UInt8) (c : UInt8) : (c ∉ l ∧ cutB l c = (l, [], false)) ∨ ∃ a b, l = a ++ c :: b ∧ c ∉ a ∧ cutB l c = (a, b, true) := by
  by_cases h : c ∈ l
  · obtain ⟨a, b, e, hn⟩ : ∃ a b, l = a ++ c :: b ∧ c ∉ a := by
      induction l with
      | nil => simp at h
      | cons x l ih =>
        by_cases hx : x = c
        · exact ⟨[], l, by simp [hx], by simp⟩
        · have : c ∈ l := by
            rcases List.mem_cons.1 h with z | z
            · exact absurd z.symm hx
            · exact z
          obtain ⟨a, b, rfl, q⟩ := ih this
          exact ⟨x :: a, b, rfl, by simp [q, Ne.symm hx]⟩
    subst e
    exact .inr ⟨a, b, rfl, hn, cutB_app hn⟩
  · exact .inl ⟨h, cutB_none h⟩
end Go.Proofs.YtegiadfbniamkaaDoor.Eq
namespace Go.Ra
open Go Go.Ra
theorem nDig_le : ∀ (k u : Nat), 1 ≤ k → u < 10 ^ k → Lib.nDigits u ≤ k
  | 0, _, h, _ => by omega
  | k + 1, u, _, h => by
    by_cases hu : u < 10
    · rw [Lib.nDigits_small hu]; omega
    · rw [Lib.nDigits_big hu]
      have hk : 1 ≤ k := by
        rcases Nat.eq_zero_or_pos k with z | z
        · subst z; simp at h; omega
        · exact z
      have := nDig_le k (u / 10) hk (by rw [Nat.pow_succ] at h; omega)
      omega
theorem itoa_nat (n : Nat) : Lib.itoa (n : Int) = Lib.decDigits n := by
  unfold Lib.itoa
  rw [if_neg (by omega), Int.toNat_natCast]
theorem rep48 (n : Nat) : Lib.repeatL [48] n = List.replicate n 48 := by
  have := Lib.repeatL_replicate 48 1 n
  simpa using this
end Go.Ra
namespace Go.Proofs.YtegiadfbniamkaaDoor.Eq
open Go Go.Ra
set_option linter.unusedVariables false

theorem ev_Rep48 {n : Int} (h1 : 0 ≤ n) (h2 : n ≤ 1000000) : Ev (fun k => strings_Repeat k (bs [48]) n) (B (List.replicate n.toNat 48)) := by
  refine .off (n := 0) fun k => ?_
  show strings_Repeat (k + 0) (bs [48]) n = _
  have hs : (bs [48]).size = 1 := rfl
  rw [strings_Repeat_eq, decide_eq_true h1, decide_eq_true (show n ≤ 9223372036854775807 by omega), hs, decide_eq_true (by omega)]
  show some (B (Lib.repeatL [48] n.toNat)) = _
  rw [rep48]
end Go.Proofs.YtegiadfbniamkaaDoor.Eq
namespace Go.Ra
open Go Go.Ra
/-- A number's digits, the last one first. -/
def revDig : Nat → Nat → List UInt8
  | 0, _ => []
  | f + 1, n => if n = 0 then [] else UInt8.ofNat (48 + n % 10) :: revDig f (n / 10)
theorem dec_rev : ∀ (f n : Nat), n ≤ f → 0 < n → (revDig f n).reverse = Lib.decDigits n
  | 0, n, h, h0 => by omega
  | f + 1, n, h, h0 => by
    unfold revDig
    rw [if_neg (by omega)]
    by_cases h10 : n < 10
    · have e : n / 10 = 0 := Nat.div_eq_of_lt h10
      have e2 : n % 10 = n := Nat.mod_eq_of_lt h10
      rw [e, e2]
      have : revDig f 0 = [] := by cases f <;> simp [revDig]
      rw [this, Lib.decDigits_one h10]
      rfl
    · rw [List.reverse_cons, dec_rev f (n / 10) (by omega) (by omega)]
      conv => rhs; rw [Lib.decDigits]
      rw [dif_neg h10]
theorem revDig_more : ∀ (f g n : Nat), n ≤ f → n ≤ g → revDig f n = revDig g n
  | 0, 0, _, _, _ => rfl
  | 0, g + 1, n, h, _ => by
    have : n = 0 := by omega
    subst this; simp [revDig]
  | f + 1, 0, n, _, h => by
    have : n = 0 := by omega
    subst this; simp [revDig]
  | f + 1, g + 1, n, h1, h2 => by
    unfold revDig
    split
    · rfl
    · rw [revDig_more f g (n / 10) (by omega) (by omega)]
theorem revDig_step {n : Nat} (h : 0 < n) : revDig n n = UInt8.ofNat (48 + n % 10) :: revDig (n / 10) (n / 10) := by
  obtain ⟨m, rfl⟩ : ∃ m, n = m + 1 := ⟨n - 1, by omega⟩
  conv => lhs; unfold revDig
  rw [if_neg (by omega), revDig_more m ((m + 1) / 10) _ (by omega) (Nat.le_refl _)]
/-- Bytes as the program's numbers. -/
def bl (l : List UInt8) : List Int := l.map fun b => ((b.toNat : Nat) : Int)
theorem strOf_bl (l : List UInt8) : strOf (bl l) = B l := by
  unfold strOf bl B
  congr 1
  rw [List.map_map]
  congr 1
  conv => rhs; rw [← List.map_id l]
  apply List.map_congr_left
  intro b _
  simp
theorem bl_app (l m : List UInt8) : bl (l ++ m) = bl l ++ bl m := by simp [bl]
theorem bl_len (l : List UInt8) : (bl l).length = l.length := by simp [bl]
theorem revDig_dig : ∀ (f n : Nat), ∀ b ∈ revDig f n, dgB b = true
  | 0, _, b, h => by simp [revDig] at h
  | f + 1, n, b, h => by
    unfold revDig at h
    split at h
    · simp at h
    · rcases List.mem_cons.1 h with rfl | h
      · rw [dgB_iff, UInt8.toNat_ofNat']
        omega
      · exact revDig_dig f _ b h
theorem dv_rev : ∀ (f n : Nat), n ≤ f → dv (revDig f n).reverse = n
  | 0, n, h => by
    have : n = 0 := by omega
    subst this
    rfl
  | f + 1, n, h => by
    unfold revDig
    by_cases hn : n = 0
    · rw [if_pos hn, hn]; rfl
    · rw [if_neg hn, List.reverse_cons, dv_app, dv_rev f _ (by omega), dv_one, UInt8.toNat_ofNat']
      simp only [List.length_singleton]
      omega
/-- A number's digits. -/
theorem dec_dig (n : Nat) : digB (Lib.decDigits n) = true ∧ dv (Lib.decDigits n) = n := by
  rcases Nat.eq_zero_or_pos n with rfl | h
  · rw [Lib.decDigits_one (by decide)]
    exact ⟨rfl, rfl⟩
  · rw [← dec_rev n n (Nat.le_refl _) h]
    refine ⟨digB_iff.2 ⟨?_, fun b hb => revDig_dig n n b (by simpa using hb)⟩, dv_rev n n (Nat.le_refl _)⟩
    rw [revDig_step h]
    simp
end Go.Ra
namespace Go.Proofs.YtegiadfbniamkaaDoor.Eq
open Go Go.Ra
set_option linter.unusedVariables false

theorem ev_trim1_c1 : ∀ (n : Nat) (l : List Int), l.length = n → n < 1099511627776 → Dg 4294967296 l → Ev (fun k => whole_trimmed_1_c1 k l) (digs 4294967296 (Vb 4294967296 l).toNat) := by
  intro n
  induction n with
  | zero =>
    intro l hl hn hd
    have : l = [] := List.eq_nil_of_length_eq_zero hl
    subst this
    exact .step (fun k => whole_trimmed_1_c1_eq k _) (.tt rfl (.tt rfl (.ff rfl (.pure _))))
  | succ n ih =>
    intro l hl hn hd
    have hw : wi64 ((l.length : Int) - 1) = (n : Int) := by rw [wi64_id (by omega) (by omega)]; omega
    have hlast : l = l.take n ++ [l.getD n 0] := by
      have h1 := List.take_append_drop n l
      rw [drop_cons (l := l) (i := n) (by omega), List.drop_of_length_le (by omega)] at h1
      exact h1.symm
    refine .step (fun k => whole_trimmed_1_c1_eq k _) ?_
    rw [hw, Int.toNat_natCast]
    refine .tt (bor' fun _ => by simp) (.tt (bor' fun _ => by simp; omega) ?_)
    by_cases h0 : l.getD n 0 = 0
    · refine .tt ?_ (.ck (by omega) (.ck (by omega) ?_))
      · rw [decide_eq_true (show (l.length : Int) > 0 by omega), h0]; rfl
      · have := ih (l.take n) (by rw [List.length_take]; omega) (by omega) (hd.take n)
        have e : Vb 4294967296 l = Vb 4294967296 (l.take n) := by
          conv => lhs; rw [hlast, h0]
          rw [Vb_append, Vb_one]
          simp
        rw [e]
        exact this
    · refine .ff ?_ (.to (.pure _) ?_)
      · rw [decide_eq_true (show (l.length : Int) > 0 by omega)]
        simpa using h0
      · refine dE hd ?_
        rw [hlast]
        simp only [List.getLast?_append, List.getLast?_singleton, Option.some_or]
        intro z
        exact h0 (Option.some.inj z)
theorem ev_Div32 (r d : Int) (hr : 0 ≤ r) (hr2 : r < 10) (hd : 0 ≤ d) (hd2 : d < 4294967296) : Ev (fun k => bits_Div32 k r d 10) ((r * 4294967296 + d) / 10, (r * 4294967296 + d) % 10) := by
  have e1 : wu64 10 = 10 := wu64_id (by decide) (by decide)
  have e2 : wu64 r = r := wu64_id hr (by omega)
  have e3 : wu64 d = d := wu64_id hd (by omega)
  have e4 : shlI .u64 r 32 = r * 4294967296 := shl_id 32 rfl (by decide) hr (by omega)
  have e5 : bitsI .or .u64 (r * 4294967296) d = r * 4294967296 + d := or_add (i := 32) rfl hr hd (by
    show r * 4294967296 + d < 18446744073709551616
    omega) hd2
  refine .step (fun k => bits_Div32_eq k _ _ _) (.ff (by rw [decide_eq_false (by omega)]; rfl) ?_)
  rw [e1, e2, e3, e4, e5]
  refine .tt rfl (.tt rfl (.to (.pure _) ?_))
  rw [Int.tdiv_eq_ediv_of_nonneg (by omega), Int.tmod_eq_emod_of_nonneg (by omega), wu64_id (by omega) (by omega), wu32_id (by omega) (by omega), wu32_id (by omega) (by omega)]

/-- A number's list of digits divided by 10, in place. -/
theorem ev_Text_c8 (s1 : Bool × List Int) (s3 : List Int) (l0 : List Int) (hd0 : Dg 4294967296 l0) (hn : l0.length < 1000) (hn3 : s3.length < 100000) {y : ByteArray}
    (hy : Ev (fun k => whole_Int_Text_c5 k s1 (s3 ++ [48 + Vb 4294967296 l0 % 10]) (digs 4294967296 (Vb 4294967296 l0 / 10).toNat)) y) :
    Ev (fun k => whole_Int_Text_c8 k s1 s3 l0 0 (wi64 ((l0.length : Int) - 1))) y := by
  have key : ∀ (i : Nat) (l : List Int) (r : Int), i ≤ l0.length → l.length = l0.length → Dg 4294967296 l → 0 ≤ r → r < 10 → l.take i = l0.take i → Vb 4294967296 (l.drop i) * 10 + r = Vb 4294967296 (l0.drop i) →
      Ev (fun k => whole_Int_Text_c8 k s1 s3 l r ((i : Int) - 1)) y := by
    intro i
    induction i with
    | zero =>
      intro l r hi hl hd hr hr2 ht hv
      simp only [List.drop_zero] at hv
      have hVl := Vb_nonneg (b := 4294967296) (by decide) hd
      have e10 : Vb 4294967296 l0 % 10 = r := by omega
      have ed : Vb 4294967296 l0 / 10 = Vb 4294967296 l := by omega
      rw [e10, ed] at hy
      have ew : wu8 (48 + wu8 r) = 48 + r := by rw [wu8_id (x := r) hr (by omega), wu8_id (by omega) (by omega)]
      refine .step (fun k => whole_Int_Text_c8_eq k _ _ _ _ _) (.nk (by omega) (.ck (by omega) (.bind (.step (fun k => whole_trimmed_1_eq k _) (ev_trim1_c1 _ l rfl (by omega) hd)) ?_)))
      rw [ew]
      exact hy
    | succ i ih =>
      intro l r hi hl hd hr hr2 ht hv
      have hi' : i < l.length := by omega
      have hi0 : i < l0.length := by omega
      have hx := hd0.at (by decide) i
      have hgl : l.getD i 0 = l0.getD i 0 := by
        have h1 : (l.take (i + 1))[i]? = (l0.take (i + 1))[i]? := by rw [ht]
        rw [List.getElem?_take_of_lt (by omega), List.getElem?_take_of_lt (by omega)] at h1
        rw [List.getD_eq_getElem?_getD, h1, ← List.getD_eq_getElem?_getD]
      have e0 : (((i + 1 : Nat) : Int) - 1) = (i : Int) := by omega
      rw [e0]
      refine .step (fun k => whole_Int_Text_c8_eq k _ _ _ _ _) (.ck (by omega) (.ck (by omega) (.ck (by omega) ?_)))
      rw [Int.toNat_natCast, hgl]
      have hq1 : 0 ≤ (r * 4294967296 + l0.getD i 0) / 10 := by omega
      have hq2 : (r * 4294967296 + l0.getD i 0) / 10 < 4294967296 := by omega
      refine .bind (ev_Div32 r _ hr hr2 hx.1 hx.2) (.ck (by omega) (.ck (by omega) ?_))
      rw [show wi64 ((i : Int) - 1) = (i : Int) - 1 from wi64_id (by omega) (by omega)]
      refine ih (l.set i ((r * 4294967296 + l0.getD i 0) / 10)) _ (by omega) (by rw [List.length_set]; exact hl) (hd.set i hq1 hq2) (by omega) (by omega) ?_ ?_
      · rw [List.take_set_of_le (by omega)]
        have := congrArg (List.take i) ht
        rw [List.take_take, List.take_take, Nat.min_eq_left (by omega)] at this
        exact this
      · rw [drop_consI (l := l.set i _) (by rw [List.length_set]; exact hi'), lset_eq _ _ _ hi', drop_consI hi0]
        have hds : (l.set i ((r * 4294967296 + l0.getD i 0) / 10)).drop (i + 1) = l.drop (i + 1) := by
          rw [List.drop_set_of_lt (by omega)]
        rw [hds]
        simp only [Vb]
        rw [← hv]
        omega
  have hw : wi64 ((l0.length : Int) - 1) = (l0.length : Int) - 1 := wi64_id (by omega) (by omega)
  rw [hw]
  refine key l0.length l0 0 (Nat.le_refl _) rfl hd0 (by decide) (by decide) rfl ?_
  rw [List.drop_of_length_le (Nat.le_refl _)]
  simp [Vb]
end Go.Proofs.YtegiadfbniamkaaDoor.Eq
namespace Go.Proofs.YtegiadfbniamkaaDoor.Eq
open Go Go.Ra
set_option linter.unusedVariables false

/-- A right decimal. -/
def okD (d : Int × Int) : Prop := -1000000000000000 ≤ d.1 ∧ d.1 ≤ 1000000000000000 ∧ 0 ≤ d.2 ∧ d.2 ≤ 9
instance (d : Int × Int) : Decidable (okD d) := by unfold okD; infer_instance

theorem ev_Outside (a b c : Int) : Ev (fun k => kit_Outside k a b c) (decide (a < b ∨ a > c)) := by
  refine .step (fun k => kit_Outside_eq k a b c) (.to (.pure _) ?_)
  by_cases h : a < b <;> simp [h]

theorem ev_CheckDecimal (d : Int × Int) : Ev (fun k => amount_CheckDecimal k d) (if okD d then 0 else 1) := by
  refine .step (fun k => amount_CheckDecimal_eq k d) (.bind (ev_Outside _ _ _) ?_)
  by_cases h : d.1 < -1000000000000000 ∨ d.1 > 1000000000000000
  · refine .bind (x := false) (.ff (by simp [h]) (.pure _)) (.tt (by simp [h]) (.to (.pure _) ?_))
    rw [if_neg]
    intro z
    unfold okD at z
    omega
  · refine .bind (.tt (by simp [h]) (ev_Outside _ _ _)) ?_
    by_cases h2 : d.2 < 0 ∨ d.2 > 9
    · refine .tt (by simp [h, h2]) (.to (.pure _) ?_)
      rw [if_neg]
      intro z
      unfold okD at z
      omega
    · refine .ff (by simp [h, h2]) (.to (.pure _) ?_)
      rw [if_pos]
      unfold okD
      omega

theorem getD_eta (l : List (Int × Int)) (i : Nat) : ((l.getD i (0, 0)).1, (l.getD i (0, 0)).2) = l.getD i (0, 0) := rfl

theorem dropp_cons {α : Type} {l : List α} {i : Nat} {d : α} (h : i < l.length) : l.drop i = l.getD i d :: l.drop (i + 1) := by
  rw [List.drop_eq_getElem_cons h, List.getD_eq_getElem?_getD, List.getElem?_eq_getElem h]
  rfl

theorem wi_succ {i n : Nat} (h : i < n) (hn : n < 1125899906842624) : wi64 ((i : Int) + 1) = ((i + 1 : Nat) : Int) := by
  rw [wi64_id (by omega) (by omega)]
  rfl

theorem ev_CheckDecimals (l : List (Int × Int)) (hn : l.length < 1125899906842624) : Ev (fun k => amount_CheckDecimals k l) (if ∀ d ∈ l, okD d then 0 else 1) := by
  have key : ∀ (m i : Nat), l.length - i = m → i ≤ l.length → Ev (fun k => amount_CheckDecimals_c2 k l (l.length : Int) (i : Int)) (if ∀ d ∈ l.drop i, okD d then 0 else 1) := by
    intro m
    induction m with
    | zero =>
      intro i hm hi
      refine .step (fun k => amount_CheckDecimals_c2_eq k _ _ _) (.nk (by omega) (.to (.pure _) ?_))
      rw [List.drop_of_length_le (by omega)]
      simp
    | succ m ih =>
      intro i hm hi
      refine .step (fun k => amount_CheckDecimals_c2_eq k _ _ _) (.ck (by omega) (.ck (by omega) (.ck (by omega) ?_)))
      rw [Int.toNat_natCast, getD_eta, dropp_cons (d := (0, 0)) (show i < l.length by omega)]
      refine .bind (ev_CheckDecimal _) ?_
      by_cases h : okD (l.getD i (0, 0))
      · rw [if_pos h, wi_succ (show i < l.length by omega) hn]
        refine .ff (by simp) (.to (ih (i + 1) (by omega) (by omega)) ?_)
        simp only [List.forall_mem_cons, h, true_and]
      · rw [if_neg h]
        refine .tt (by simp) (.to (.pure _) ?_)
        simp only [List.forall_mem_cons, h, false_and, if_false]
  exact .step (fun k => amount_CheckDecimals_eq k l) (key _ 0 rfl (by omega))

/-- A decimal's units at more places. -/
def sc (d : Int × Int) (p : Int) : Int := d.1 * 10 ^ (p - d.2).toNat

theorem pow10_abs (n : Nat) : ((10 : Int) ^ n).natAbs = 10 ^ n := by rw [Int.natAbs_pow]; rfl
theorem pow10_le {n : Nat} (m : Nat) (h : n ≤ m) : (10 : Nat) ^ n ≤ 10 ^ m := Nat.pow_le_pow_right (by omega) h
theorem Sm.pow10 {n : Nat} (h : n ≤ 130) : Sm (10 ^ n) := .of (by rw [pow10_abs]; exact pow10_le 130 h)
theorem sc_abs {d : Int × Int} {p : Int} (h : okD d) (hp : p ≤ 20) : (sc d p).natAbs ≤ 10 ^ 35 := by
  unfold sc
  unfold okD at h
  rw [Int.natAbs_mul, pow10_abs]
  have h1 : d.1.natAbs ≤ 10 ^ 15 := by omega
  have h2 : (10 : Nat) ^ (p - d.2).toNat ≤ 10 ^ 20 := pow10_le 20 (by omega)
  exact Nat.le_trans (Nat.mul_le_mul h1 h2) (by decide)

theorem ev_Scaled (d : Int × Int) (p : Int) (h : okD d) (hp : d.2 ≤ p) (hp2 : p ≤ 20) : Ev (fun k => amount_Scaled k d p) (W (sc d p)) := by
  have h' := h
  unfold okD at h'
  have e : wi64 (p - d.2) = (((p - d.2).toNat : Nat) : Int) := by rw [wi64_id (by omega) (by omega)]; omega
  refine .step (fun k => amount_Scaled_eq k d p) (.bind (ev_Of d.1 (by omega) (by omega)) ?_)
  rw [e]
  exact .bind (ev_Power _ (by omega)) (.ret (ev_Times d.1 _ (.of (Nat.le_trans (show d.1.natAbs ≤ 10 ^ 15 by omega) (by decide))) (.pow10 (by omega))) rfl)

theorem ev_Value (d : Int × Int) (h : okD d) : Ev (fun k => amount_Value k d) (W (sc d 9)) :=
  .step (fun k => amount_Value_eq k d) (.ret (ev_Scaled d 9 h h.2.2.2 (by omega)) rfl)

/-- What becomes of a number of units. -/
def mk (v p : Int) : (Int × Int) × Int := if v.natAbs ≤ 1000000000000000 then ((v, p), 0) else ((0, 0), 1)
theorem ev_Made (v p : Int) : Ev (fun k => amount_Made k (W v) p) (mk v p) := by
  refine .step (fun k => amount_Made_eq k _ p) (.bind (ev_Int v 1000000000000000 (by omega) (by omega)) ?_)
  unfold mk
  by_cases h : v.natAbs ≤ 1000000000000000
  · rw [if_pos h, if_pos (by omega)]
    exact .ff rfl (.pure _)
  · rw [if_neg h, if_neg (by omega)]
    exact .tt rfl (.pure _)

theorem ev_acompare (a b : Int × Int) (ha : okD a) (hb : okD b) : Ev (fun k => amount_Compare k a b) ((sc a 9 - sc b 9).sign, 0) := by
  refine .step (fun k => amount_Compare_eq k a b) (.bind (ev_CheckDecimals [a, b] (by simp)) ?_)
  rw [if_pos (by simp [ha, hb])]
  exact .ff rfl (.bind (ev_Value a ha) (.bind (ev_Value b hb) (.bind (ev_Compare _ _ (.of (Nat.le_trans (sc_abs ha (by omega)) (by decide))) (.of (Nat.le_trans (sc_abs hb (by omega)) (by decide)))) (.pure _))))
end Go.Proofs.YtegiadfbniamkaaDoor.Eq
namespace Go.Proofs.YtegiadfbniamkaaDoor.Eq
open Go Go.Ra
set_option linter.unusedVariables false

/-- The canonical form of a number. -/
def N (n : Int) : Bool × List Int := (decide (n < 0), digs 1000000 n.natAbs)
/-- Of fewer than a hundred digits. -/
def Sr (n : Int) : Prop := n.natAbs < 1000000 ^ 100
theorem Sr.len {n : Int} (h : Sr n) : (N n).2.length ≤ 100 := digs_len (by omega) 100 _ h
theorem Sr.of {n : Int} (h : n.natAbs ≤ 10 ^ 130) : Sr n := Nat.lt_of_le_of_lt h (by decide)

theorem Sr.neg {a : Int} (h : Sr a) : Sr (-a) := by unfold Sr at *; omega
end Go.Proofs.YtegiadfbniamkaaDoor.Eq
namespace Go.Proofs.YtegiadfbniamkaaDoor.Eq
open Go Go.Ra
set_option linter.unusedVariables false

/- products -/
/- as an int -/
/- long division -/
end Go.Proofs.YtegiadfbniamkaaDoor.Eq
namespace Go.Proofs.YtegiadfbniamkaaDoor.Eq
open Go Go.Ra
set_option linter.unusedVariables false

theorem Sr.pow10 {n : Nat} (h : n ≤ 130) : Sr (10 ^ n) := .of (by rw [pow10_abs]; exact pow10_le 130 h)

/-- How two decimals stand to each other. -/
def cmpR (a b : Int × Int) : Int × Int := if okD a ∧ okD b then ((sc a 9 - sc b 9).sign, 0) else (0, 1)

theorem ev_aCompare (a b : Int × Int) : Ev (fun k => amount_Compare k a b) (cmpR a b) := by
  unfold cmpR
  by_cases h : okD a ∧ okD b
  · rw [if_pos h]
    exact ev_acompare a b h.1 h.2
  · rw [if_neg h]
    refine .step (fun k => amount_Compare_eq k a b) (.bind (ev_CheckDecimals [a, b] (by simp)) ?_)
    rw [if_neg (by simpa using h)]
    exact .tt rfl (.pure _)

end Go.Proofs.YtegiadfbniamkaaDoor.Eq
namespace Go.Proofs.YtegiadfbniamkaaDoor.Eq
open Go Go.Ra
set_option linter.unusedVariables false

theorem lt_pow_of {x b k : Nat} (h : (x : Int) < (b : Int) ^ k) : x < b ^ k := by
  rw [← Int.natCast_pow] at h
  omega
theorem cp2 (n : Nat) : ((2 ^ n : Nat) : Int) = (2 : Int) ^ n := Int.natCast_pow 2 n

theorem bit_at (A m s : Nat) (hs : s < 32) : (A / 4294967296 ^ m % 4294967296) / 2 ^ s % 2 = A / 2 ^ (32 * m + s) % 2 := by
  have e1 : (4294967296 : Nat) ^ m = 2 ^ (32 * m) := by rw [show (4294967296 : Nat) = 2 ^ 32 from rfl, ← Nat.pow_mul]
  have e2 : (4294967296 : Nat) = 2 ^ s * 2 ^ (32 - s) := by rw [← Nat.pow_add, show s + (32 - s) = 32 by omega]
  rw [e1, Nat.pow_add, ← Nat.div_div_eq_div_mul]
  generalize A / 2 ^ (32 * m) = X
  rw [e2, Nat.mod_mul_right_div_self]
  exact Nat.mod_mod_of_dvd _ (Nat.dvd_trans (show 2 ∣ 2 ^ 1 by decide) (Nat.pow_dvd_pow 2 (by omega)))

theorem Vb_digit {l : List Int} (h : Dg 4294967296 l) : ∀ m : Nat, l.getD m 0 = (((Vb 4294967296 l).toNat / 4294967296 ^ m % 4294967296 : Nat) : Int) := by
  induction l with
  | nil => intro m; simp [Vb]
  | cons d l ih =>
    intro m
    obtain ⟨⟨h1, h2⟩, h3⟩ := h.cons
    have hv := Vb_nonneg (b := 4294967296) (by omega) h3
    have hn : (Vb 4294967296 (d :: l)).toNat = d.toNat + 4294967296 * (Vb 4294967296 l).toNat := by
      simp only [Vb]
      omega
    rw [hn]
    cases m with
    | zero =>
      simp
      omega
    | succ m =>
      rw [List.getD_cons_succ, ih h3 m, Nat.pow_succ', ← Nat.div_div_eq_div_mul, Nat.add_mul_div_left _ _ (show 0 < 4294967296 by omega), Nat.div_eq_of_lt (show d.toNat < 4294967296 by omega), Nat.zero_add]

theorem shr_u32 (x : Int) {s : Int} {n : Nat} (hs : s = n) (hn : n ≤ 32) : shrI .u32 x s = x / 2 ^ n := by
  subst hs
  show x / 2 ^ (min ((n : Int)).toNat 32) = _
  rw [Int.toNat_natCast, Nat.min_eq_left hn]
theorem shl1_u32 {s : Int} {n : Nat} (hs : s = n) (hn : n < 32) : shlI .u32 1 s = 2 ^ n := by
  subst hs
  show wu32 (1 * 2 ^ (min ((n : Int)).toNat 32)) = _
  rw [Int.toNat_natCast, Nat.min_eq_left (by omega), Int.one_mul]
  have h : (2 : Nat) ^ n ≤ 2 ^ 31 := Nat.pow_le_pow_right (by omega) (by omega)
  rw [← cp2]
  generalize 2 ^ n = u at h ⊢
  exact wu32_id (by omega) (by omega)

theorem ev_By_c4 (A D : Nat) (s2n s3n : Bool) (s4 s5 : Bool × List Int) (hD : 0 < D) (hA : (digs 4294967296 A).length ≤ 100) (hDl : (digs 4294967296 D).length ≤ 100) : ∀ (n : Nat) (q : List Int), n ≤ 32 * (digs 4294967296 A).length → q.length = (digs 4294967296 A).length → Dg 4294967296 q → Vb 4294967296 q = ((A / 2 ^ n / D * 2 ^ n : Nat) : Int) →
    Ev (fun k => whole_Int_By_c4 k (s2n, digs 4294967296 A) (s3n, digs 4294967296 D) s4 s5 q (digs 4294967296 (A / 2 ^ n % D)) ((n : Int) - 1)) (W ((A / D : Nat) : Int), W ((A % D : Nat) : Int)) := by
  have hsmall : ∀ x : Nat, x < D → (digs 4294967296 x).length ≤ 100 := by
    intro x hx
    have h1 := Vb_lt (b := 4294967296) (by omega) (dD D)
    rw [dV] at h1
    have h2 : D < 4294967296 ^ (digs 4294967296 D).length := lt_pow_of (b := 4294967296) h1
    have h3 : (4294967296 : Nat) ^ (digs 4294967296 D).length ≤ 4294967296 ^ 100 := Nat.pow_le_pow_right (by omega) hDl
    exact digs_len (b := 4294967296) (by decide) 100 x (Nat.lt_trans hx (Nat.lt_of_lt_of_le h2 h3))
  intro n
  induction n with
  | zero =>
    intro q hle hql hqd hqv
    refine .step (fun k => whole_Int_By_c4_eq k _ _ _ _ _ _ _) (.nk (by omega) (.bind (ev_made false q (by omega) hqd) (.bind (ev_made_digs false _ ?_) (.to (.pure _) ?_))))
    · have := hsmall (A / 2 ^ 0 % D) (Nat.mod_lt _ hD)
      omega
    · rw [hqv]
      simp only [cond_false, Nat.pow_zero, Nat.mul_one, Nat.div_one]
  | succ n ih =>
    intro q hle hql hqd hqv
    have e0 : (((n + 1 : Nat) : Int) - 1) = (n : Int) := by omega
    have e1 : wi64 ((n : Int) - 1) = (n : Int) - 1 := wi64_id (by omega) (by omega)
    obtain ⟨m, hm⟩ : ∃ m, m = n / 32 := ⟨_, rfl⟩
    obtain ⟨s, hs⟩ : ∃ s, s = n % 32 := ⟨_, rfl⟩
    have hn32 : n = 32 * m + s := by omega
    have hs32 : s < 32 := by omega
    have hml : m < (digs 4294967296 A).length := by omega
    have e2 : wi64 ((n : Int).tdiv 32) = (m : Int) := by
      rw [Int.tdiv_eq_ediv_of_nonneg (by omega), wi64_id (by omega) (by omega)]
      omega
    have e3 : (n : Int).tmod 32 = (s : Int) := by
      rw [Int.tmod_eq_emod_of_nonneg (by omega)]
      omega
    have hti : ((m : Int)).toNat = m := Int.toNat_natCast m
    have ht : A / 2 ^ n % 2 < 2 := Nat.mod_lt _ (by omega)
    have hh : A / 2 ^ n = 2 * (A / 2 ^ (n + 1)) + A / 2 ^ n % 2 := by
      have h1 : A / 2 ^ (n + 1) = A / 2 ^ n / 2 := by rw [Nat.pow_succ, Nat.div_div_eq_div_mul]
      rw [h1]
      omega
    obtain ⟨d1, d2⟩ := div_step hD rfl rfl ht (h := A / 2 ^ (n + 1))
    rw [← hh] at d1 d2
    have hr := Nat.mod_lt (A / 2 ^ (n + 1)) hD
    have hrl := hsmall _ hr
    have hbit : bitsI .and .u32 (shrI .u32 ((digs 4294967296 A).getD m 0) (s : Int)) 1 = ((A / 2 ^ n % 2 : Nat) : Int) := by
      rw [shr_u32 _ rfl (by omega), digs_at (b := 4294967296) (by decide) m A]
      have hlt := Nat.mod_lt (A / 4294967296 ^ m) (show 0 < 4294967296 by omega)
      have e : ((A / 4294967296 ^ m % 4294967296 : Nat) : Int) / 2 ^ s = ((A / 4294967296 ^ m % 4294967296 / 2 ^ s : Nat) : Int) := by
        rw [Int.natCast_ediv, Int.natCast_pow]
        rfl
      have hle2 : A / 4294967296 ^ m % 4294967296 / 2 ^ s ≤ A / 4294967296 ^ m % 4294967296 := Nat.div_le_self _ _
      have hb2 := bit_at A m s hs32
      rw [e, hn32, ← hb2]
      generalize A / 4294967296 ^ m % 4294967296 / 2 ^ s = u at *
      rw [and1 rfl (by decide) (by omega) (by simp only [IntKind.bits]; omega)]
      omega
    have ih' := ih
    rw [d1, d2] at ih'
    generalize A / 2 ^ n % 2 = t at *
    generalize A / 2 ^ (n + 1) / D = Q at *
    generalize A / 2 ^ (n + 1) % D = R at *
    obtain ⟨y, p1, p2, p3, p4⟩ := ev_sum _ _ (dD R) (dD R) (by omega) (by omega)
    rw [dV] at p4
    have hy0 : 0 < y.length := by omega
    have hyd := p2.at (by omega) 0
    have hyeven : y.getD 0 0 % 2 = 0 := by
      have := Vb_digit p2 0
      rw [this, p4]
      simp
      omega
    have hor : bitsI .or .u32 (y.getD 0 0) (t : Int) = y.getD 0 0 + t := by
      have := or_add (k := .u32) (x := y.getD 0 0 / 2) (y := (t : Int)) (i := 1) rfl (by omega) (by omega) (by simp only [IntKind.bits]; omega) (by omega)
      have e : y.getD 0 0 / 2 * 2 ^ 1 = y.getD 0 0 := by omega
      rwa [e] at this
    rw [e0]
    refine .step (fun k => whole_Int_By_c4_eq k _ _ _ _ _ _ _) (.ck (by omega) (.bind p1 (.ck (by omega) ?_)))
    simp only [e2, e3, hti, e1, hbit, hor]
    refine .ck (by omega) (.ck (by omega) (.ck (by omega) (.ck (by omega) (.bind (ev_trimmed _ (by rw [List.length_set]; omega) (p2.set _ (by omega) (by omega))) ?_))))
    have hyv : (Vb 4294967296 (y.set 0 (y.getD 0 0 + t))).toNat = 2 * R + t := by
      rw [Vb_set _ _ _ _ hy0, p4]
      simp
      omega
    rw [hyv]
    have hl2 : (digs 4294967296 (2 * R + t)).length ≤ 101 := by
      have h1 := Vb_lt (b := 4294967296) (by omega) (dD R)
      rw [dV] at h1
      have h2 : R < 4294967296 ^ (digs 4294967296 R).length := lt_pow_of (b := 4294967296) h1
      have h3 : (4294967296 : Nat) ^ (digs 4294967296 R).length ≤ 4294967296 ^ 100 := Nat.pow_le_pow_right (by omega) hrl
      have h4 : (4294967296 : Nat) ^ 101 = 4294967296 ^ 100 * 4294967296 := Nat.pow_succ _ _
      have h5 : 0 < (4294967296 : Nat) ^ 100 := Nat.pow_pos (by omega)
      generalize (4294967296 : Nat) ^ 100 = P at *
      exact digs_len (b := 4294967296) (by decide) 101 _ (by rw [h4]; omega)
    obtain ⟨c, c1, c2⟩ := ev_compare (2 * R + t) D (by omega) (by omega)
    refine .bind c1 ?_
    by_cases hc : D ≤ 2 * R + t
    · rw [if_pos hc, if_pos hc] at ih'
      refine .ck (c2.2 hc) (.bind (ev_less _ _ (by omega) hc) (.ck (by omega) (.ck (by omega) (.ck (by omega) (.ck (by omega) (.ck (by omega) ?_))))))
      rw [shl1_u32 rfl hs32]
      have hqm := hqd.at (by omega) m
      have hp2 : (0 : Int) < 2 ^ s := Int.pow_pos (by omega)
      -- the digit's lower bits are free
      have hqdig := Vb_digit hqd m
      rw [hqv, Int.toNat_natCast] at hqdig
      have e1' : (4294967296 : Nat) ^ m = 2 ^ (32 * m) := by rw [show (4294967296 : Nat) = 2 ^ 32 from rfl, ← Nat.pow_mul]
      have e2' : Q * 2 ^ (n + 1) / 4294967296 ^ m = Q * 2 ^ (s + 1) := by
        rw [e1', hn32, show 32 * m + s + 1 = (s + 1) + 32 * m by omega, Nat.pow_add, ← Nat.mul_assoc]
        exact Nat.mul_div_cancel _ (Nat.pow_pos (by omega))
      have e3' : (4294967296 : Nat) = 2 ^ (31 - s) * 2 ^ (s + 1) := by rw [← Nat.pow_add, show 31 - s + (s + 1) = 32 by omega]
      have e4' : Q * 2 ^ (s + 1) % 4294967296 = (Q % 2 ^ (31 - s)) * 2 ^ (s + 1) := by rw [e3', Nat.mul_mod_mul_right]
      rw [e2', e4'] at hqdig
      have hz := Nat.mod_lt Q (show 0 < 2 ^ (31 - s) from Nat.pow_pos (by omega))
      generalize Q % 2 ^ (31 - s) = z at *
      have hzb : z * 2 ^ (s + 1) + 2 ^ s < 4294967296 := by
        have h1 : (z + 1) * 2 ^ (s + 1) ≤ 2 ^ (31 - s) * 2 ^ (s + 1) := Nat.mul_le_mul_right _ hz
        rw [← e3', Nat.add_mul, Nat.one_mul] at h1
        have h2 : (2 : Nat) ^ (s + 1) = 2 ^ s * 2 := Nat.pow_succ _ _
        have h3 : 0 < (2 : Nat) ^ s := Nat.pow_pos (by omega)
        omega
      have hor2 : bitsI .or .u32 (q.getD m 0) (2 ^ s) = q.getD m 0 + 2 ^ s := by
        have hb : (z : Int) * 2 ^ (s + 1) + 2 ^ s < 2 ^ IntKind.u32.bits := by
          have hbN : ((z * 2 ^ (s + 1) + 2 ^ s : Nat) : Int) < 4294967296 := Int.ofNat_lt.2 hzb
          rw [Int.natCast_add, Int.natCast_mul, cp2, cp2] at hbN
          exact hbN
        have hb2 : (2 : Int) ^ s < 2 ^ (s + 1) := by rw [Int.pow_succ]; omega
        have := or_add (k := .u32) (x := (z : Int)) (y := 2 ^ s) (i := s + 1) rfl (by omega) (by omega) hb hb2
        have ez : ((z * 2 ^ (s + 1) : Nat) : Int) = (z : Int) * 2 ^ (s + 1) := by rw [Int.natCast_mul, cp2]
        rw [hqdig, ez]
        exact this
      rw [hor2]
      have hup : q.getD m 0 + 2 ^ s < 4294967296 := by
        rw [hqdig, ← cp2, ← Int.natCast_add]
        exact Int.ofNat_lt.2 hzb
      refine ih' _ (by omega) (by simpa using hql) (hqd.set _ (by omega) hup) ?_
      rw [Vb_set _ _ _ _ (by omega), hqv]
      have e5 : (4294967296 : Int) ^ m * (q.getD m 0 + 2 ^ s - q.getD m 0) = ((2 ^ n : Nat) : Int) := by
        rw [show q.getD m 0 + 2 ^ s - q.getD m 0 = 2 ^ s by omega]
        have : 4294967296 ^ m * 2 ^ s = 2 ^ n := by rw [e1', hn32, Nat.pow_add]
        rw [← this, Int.natCast_mul, Int.natCast_pow, Int.natCast_pow]
        rfl
      rw [e5]
      have : Q * 2 ^ (n + 1) + 2 ^ n = (2 * Q + 1) * 2 ^ n := by rw [Nat.pow_succ, Nat.add_mul, Nat.mul_comm (2 ^ n) 2, ← Nat.mul_assoc, Nat.mul_comm Q 2, Nat.one_mul]
      rw [← this, Int.natCast_add]
    · rw [if_neg hc, if_neg hc] at ih'
      refine .nk (fun z => hc (c2.1 z)) (ih' q (by omega) hql hqd ?_)
      rw [hqv]
      have : Q * 2 ^ (n + 1) = 2 * Q * 2 ^ n := by rw [Nat.pow_succ, Nat.mul_comm (2 ^ n) 2, ← Nat.mul_assoc, Nat.mul_comm Q 2]
      rw [this]

theorem ev_By (a b : Int) (ha : Sm a) (hb : Sm b) (h0 : b ≠ 0) : Ev (fun k => whole_Int_By k (W a) (W b)) (W ((a.natAbs / b.natAbs : Nat) : Int), W ((a.natAbs % b.natAbs : Nat) : Int)) := by
  have la := ha.len
  have lb := hb.len
  have e1 : wi64 (wi64 (((W a).2.length : Int) * 32) - 1) = ((32 * (W a).2.length : Nat) : Int) - 1 := by
    rw [wi64_id (x := _ * 32) (by omega) (by omega), wi64_id (by omega) (by omega)]
    omega
  refine .step (fun k => whole_Int_By_eq k _ _) ?_
  rw [e1, Int.toNat_natCast]
  have hlt : a.natAbs < 2 ^ (32 * (W a).2.length) := by
    have h1 := Vb_lt (b := 4294967296) (by omega) (W_dg a)
    rw [W_V] at h1
    have h2 : a.natAbs < 4294967296 ^ (W a).2.length := lt_pow_of (b := 4294967296) h1
    rwa [show (4294967296 : Nat) = 2 ^ 32 from rfl, ← Nat.pow_mul] at h2
  have hz : a.natAbs / 2 ^ (32 * (W a).2.length) = 0 := Nat.div_eq_of_lt hlt
  have := ev_By_c4 a.natAbs b.natAbs (W a).1 (W b).1 (false, []) (false, []) (by omega) la lb (32 * (W a).2.length) (List.replicate (W a).2.length 0) (Nat.le_refl _) (by simp [W]) (.zeros (by omega) _) (by rw [Vb_zeros, hz]; simp)
  rw [hz, Nat.zero_mod] at this
  exact .ck (by omega) (.ck (by omega) this)

end Go.Proofs.YtegiadfbniamkaaDoor.Eq
namespace Go.Proofs.YtegiadfbniamkaaDoor.Eq
open Go Go.Ra
set_option linter.unusedVariables false

theorem ev_ReverseB_c1 (n : Nat) (hn : n < 1125899906842624) : ∀ (m i : Nat) (l : List Int), n - i = m → i ≤ n → l.length = n →
    ∃ r, Ev (fun k => slices_Reverse_Lbyte_byte_c1 k l (i : Int) ((n : Int) - 1 - i)) r ∧ r.length = n ∧ ∀ p, r[p]? = if i ≤ p ∧ p + i < n then l[n - 1 - p]? else l[p]? := by
  intro m
  induction m using Nat.strongRecOn with
  | ind m ih =>
    intro i l hm hi hl
    by_cases h : (i : Int) < (n : Int) - 1 - i
    · have h1 : i < l.length := by omega
      have hj : ((n : Int) - 1 - i) = ((n - 1 - i : Nat) : Int) := by omega
      have hjl : n - 1 - i < l.length := by omega
      have e1 : wi64 ((i : Int) + 1) = ((i + 1 : Nat) : Int) := (by rw [wi64_id (by omega) (by omega)]; rfl)
      have e2 : wi64 ((n : Int) - 1 - i - 1) = (n : Int) - 1 - ((i + 1 : Nat) : Int) := by rw [wi64_id (by omega) (by omega)]; omega
      obtain ⟨r, q1, q2, q3⟩ := ih (n - (i + 1)) (by omega) (i + 1) ((l.set i (l.getD (n - 1 - i) 0)).set (n - 1 - i) (l.getD i 0)) rfl (by omega) (by simpa using hl)
      refine ⟨r, .step (fun k => slices_Reverse_Lbyte_byte_c1_eq k _ _ _) (.ck h (.ck (by omega) (.ck (by omega) (.ck (by omega) (.ck (by omega) (.ck (by omega) (.ck (by omega) (.ck (by omega) (.ck (by rw [List.length_set]; omega) ?_))))))))), q2, fun p => ?_⟩
      · rw [e1, e2, hj, Int.toNat_natCast, Int.toNat_natCast]
        exact q1
      · rw [q3 p]
        have g1 : l[i]? = some (l.getD i 0) := by rw [List.getD_eq_getElem?_getD, List.getElem?_eq_getElem h1]; rfl
        have g2 : l[n - 1 - i]? = some (l.getD (n - 1 - i) 0) := by rw [List.getD_eq_getElem?_getD, List.getElem?_eq_getElem hjl]; rfl
        by_cases hp : i ≤ p ∧ p + i < n
        · rw [if_pos hp]
          by_cases hpi : p = i
          · subst hpi
            rw [if_neg (by omega), List.getElem?_set_ne (by omega), List.getElem?_set_self h1, g2]
          · by_cases hpj : p = n - 1 - i
            · subst hpj
              rw [if_neg (by omega), List.getElem?_set_self (by simpa using hjl), show n - 1 - (n - 1 - i) = i by omega, g1]
            · rw [if_pos (by omega), List.getElem?_set_ne (by omega), List.getElem?_set_ne (by omega)]
        · rw [if_neg hp, if_neg (by omega), List.getElem?_set_ne (by omega), List.getElem?_set_ne (by omega)]
    · refine ⟨l, .step (fun k => slices_Reverse_Lbyte_byte_c1_eq k _ _ _) (.nk h (.pure _)), hl, fun p => ?_⟩
      by_cases hp : i ≤ p ∧ p + i < n
      · rw [if_pos hp]
        have : n - 1 - p = p := by omega
        rw [this]
      · rw [if_neg hp]

theorem ev_ReverseB (l : List Int) (hn : l.length < 1125899906842624) : Ev (fun k => slices_Reverse_Lbyte_byte k l) l.reverse := by
  obtain ⟨r, q1, q2, q3⟩ := ev_ReverseB_c1 l.length hn _ 0 l rfl (by omega) rfl
  have : r = l.reverse := by
    apply List.ext_getElem?
    intro p
    rw [q3 p]
    by_cases hp : p < l.length
    · rw [if_pos (by omega), List.getElem?_reverse hp]
    · rw [if_neg (by omega), List.getElem?_eq_none (by omega), List.getElem?_eq_none (by simp; omega)]
  rw [this] at q1
  refine .step (fun k => slices_Reverse_Lbyte_byte_eq k l) ?_
  rw [wi64_id (by omega) (by omega)]
  have e : ((l.length : Int) - 1 - ((0 : Nat) : Int)) = (l.length : Int) - 1 := by omega
  rw [e] at q1
  exact q1


theorem ev_CloneU (a : List Int) (h : a.length < 8796093022208) : Ev (fun k => slices_Clone_Luint32_uint32 k a) a := by
  cases a with
  | nil => exact .step (fun k => slices_Clone_Luint32_uint32_eq k _) (.pure _)
  | cons x a => exact .step (fun k => slices_Clone_Luint32_uint32_eq k _) (.ff rfl (.ck (by omega) (.pure _)))

theorem bl_rev (l : List UInt8) : (bl l).reverse = bl l.reverse := by simp [bl]
theorem dig_byte (n : Nat) : (((UInt8.ofNat (48 + n % 10)).toNat : Nat) : Int) = 48 + (n : Int) % 10 := by
  rw [UInt8.toNat_ofNat']
  omega

theorem ev_WText (a : Int) (ha : Sm a) (h0 : 0 ≤ a) : Ev (fun k => whole_Int_Text k (W a)) (B (Lib.itoa a)) := by
  obtain ⟨n, rfl⟩ : ∃ n : Nat, a = n := ⟨a.toNat, by omega⟩
  have hlen := ha.len
  rcases Nat.eq_zero_or_pos n with rfl | hn
  · refine .step (fun k => whole_Int_Text_eq k _) (.tt rfl (.to (.pure _) ?_))
    rw [itoa_nat, Lib.decDigits_one (by decide)]
    rfl
  · have hW : W (n : Int) = (false, digs 4294967296 n) := by unfold W; simp
    have hne := digs_ne (b := 4294967296) (by decide) hn
    rw [hW] at hlen
    simp only at hlen
    refine .step (fun k => whole_Int_Text_eq k _) ?_
    rw [hW]
    have hl0 : (((digs 4294967296 n).length : Int) == 0) = false := by
      have := List.length_pos_iff.2 hne
      simpa using hne
    refine .ff hl0 (.bind (ev_CloneU _ (by simp only; omega)) ?_)
    have key : ∀ (m c : Nat) (acc : List UInt8), c ≤ m → c ≤ n → acc.length + c ≤ acc.length + n → acc.length ≤ 1000 → acc ++ revDig c c = revDig n n → Ev (fun k => whole_Int_Text_c5 k (false, digs 4294967296 n) (bl acc) (digs 4294967296 c)) (B (Lib.decDigits n)) := by
      intro m
      induction m with
      | zero =>
        intro c acc h1 h2 _ h3 h4
        have : c = 0 := by omega
        subst this
        have e : acc = revDig n n := by simpa [revDig] using h4
        refine .step (fun k => whole_Int_Text_c5_eq k _ _ _) (.nk (by simp [digs_zero]) (.ff rfl (.bind (ev_ReverseB _ (by rw [bl_len]; omega)) (.to (.pure _) ?_))))
        rw [bl_rev, strOf_bl, e, dec_rev n n (Nat.le_refl _) hn]
      | succ m ih =>
        intro c acc h1 h2 _ h3 h4
        rcases Nat.eq_zero_or_pos c with rfl | hc
        · exact ih 0 acc (by omega) (by omega) (by omega) h3 h4
        · have hcn : (digs 4294967296 c).length ≤ 100 := by
            refine digs_len (by decide) 100 c (Nat.lt_of_le_of_lt h2 ?_)
            have := ha
            unfold Sm at this
            rw [Int.natAbs_natCast] at this
            exact this
          have hcp := List.length_pos_iff.2 (digs_ne (b := 4294967296) (by decide) hc)
          refine .step (fun k => whole_Int_Text_c5_eq k _ _ _) (.ck (by omega) (ev_Text_c8 _ _ _ (dD c) (by omega) (by rw [bl_len]; omega) ?_))
          rw [dV c]
          have e1 : ((c : Int) / 10).toNat = c / 10 := by omega
          have e2 : bl acc ++ [48 + (c : Int) % 10] = bl (acc ++ [UInt8.ofNat (48 + c % 10)]) := by
            rw [bl_app]
            congr 1
            show _ = [((((UInt8.ofNat (48 + c % 10)).toNat : Nat)) : Int)]
            rw [dig_byte]
          rw [e1, e2]
          have hlen2 : acc.length + 1 ≤ (revDig n n).length := by
            rw [← h4, List.length_append, revDig_step hc]
            simp
          have hrl : (revDig n n).length ≤ 1000 := by
            have : (revDig n n).length = (Lib.decDigits n).length := by rw [← dec_rev n n (Nat.le_refl _) hn, List.length_reverse]
            rw [this, Lib.decDigits_length]
            refine nDig_le 1000 n (by decide) (Nat.lt_of_lt_of_le (m := 4294967296 ^ 100) ?_ (by decide +kernel))
            have := ha
            unfold Sm at this
            rw [Int.natAbs_natCast] at this
            exact this
          refine ih (c / 10) _ (by omega) (by omega) (by omega) (by rw [List.length_append]; simp; omega) ?_
          rw [List.append_assoc, List.singleton_append, ← revDig_step hc]
          exact h4
    rw [itoa_nat]
    exact key n n [] (Nat.le_refl _) (Nat.le_refl _) (by omega) (by simp) (by simp)

/-! ### a decimal's text -/
theorem ev_sign (d : Int × Int) : Ev (fun k => amount_sign k d) (B (if d.1 < 0 then [45] else [])) := by
  refine .step (fun k => amount_sign_eq k _) ?_
  by_cases h : d.1 < 0
  · rw [if_pos h]; exact .ck h (.pure _)
  · rw [if_neg h]; exact .nk h (.pure _)
/-- The digits of a decimal, at least one before the point. -/
def ptL (n : Nat) (p : Nat) : List UInt8 := List.replicate (p + 1 - (Lib.decDigits n).length) 48 ++ Lib.decDigits n
theorem ptL_len (n p : Nat) : p + 1 ≤ (ptL n p).length := by
  unfold ptL
  rw [List.length_append, List.length_replicate]
  omega
theorem ptL_le (n p : Nat) (h : (Lib.decDigits n).length ≤ 16) (hp : p ≤ 9) : (ptL n p).length ≤ 16 := by
  unfold ptL
  rw [List.length_append, List.length_replicate]
  omega
def befL (n p : Nat) : List UInt8 := (ptL n p).take ((ptL n p).length - p)
def behL (n p : Nat) : List UInt8 := (ptL n p).drop ((ptL n p).length - p)
theorem behL_len (n p : Nat) : (behL n p).length = p := by
  have := ptL_len n p
  unfold behL
  rw [List.length_drop]
  omega
theorem bef_beh (n p : Nat) : befL n p ++ behL n p = ptL n p := List.take_append_drop _ _
theorem dec16 {n : Nat} (h : n ≤ 1000000000000000) : (Lib.decDigits n).length ≤ 16 := by
  rw [Lib.decDigits_length]
  exact nDig_le 16 n (by decide) (Nat.lt_of_le_of_lt h (by decide))
theorem ev_Rep48' (n : Nat) (h2 : n ≤ 1000000) : Ev (fun k => strings_Repeat k (bs [48]) (n : Int)) (B (List.replicate n 48)) := by
  have := ev_Rep48 (n := (n : Int)) (by omega) (by omega)
  rwa [Int.toNat_natCast] at this
theorem ev_pointed (n p : Nat) (hn : n ≤ 1000000000000000) (hp : p ≤ 9) : Ev (fun k => amount_pointed k (B (Lib.decDigits n)) (p : Int)) (B (befL n p), B (behL n p)) := by
  have h16 := dec16 hn
  have hl := ptL_len n p
  have hle := ptL_le n p h16 hp
  have e : maxI 0 (wi64 (wi64 ((p : Int) + 1) - ((B (Lib.decDigits n)).size : Int))) = ((p + 1 - (Lib.decDigits n).length : Nat) : Int) := by
    rw [size_B, wi64_id (x := (p : Int) + 1) (by omega) (by omega), wi64_id (by omega) (by omega)]
    unfold maxI
    split <;> omega
  refine .step (fun k => amount_pointed_eq k _ _) ?_
  rw [e]
  refine .bind (ev_Rep48' _ (by omega)) (.ck (by rw [size_B, size_B, List.length_replicate]; omega) ?_)
  have e2 : B (List.replicate (p + 1 - (Lib.decDigits n).length) 48) ++ B (Lib.decDigits n) = B (ptL n p) := B_app _ _
  rw [e2, size_B]
  have e3 : wi64 (((ptL n p).length : Int) - (p : Int)) = (((ptL n p).length - p : Nat) : Int) := by
    rw [wi64_id (by omega) (by omega)]; omega
  rw [e3]
  refine .ck (by omega) (.ck (by omega) (.ck (by omega) (.ck (by omega) (.to (.pure _) ?_))))
  rw [Int.toNat_natCast, B_ext, B_ext, List.drop_zero, List.take_of_length_le (Nat.le_refl _)]
  rfl
/-- A decimal's text. -/
def txL (d : Int × Int) : List UInt8 := (if d.1 < 0 then [45] else []) ++ befL d.1.natAbs d.2.toNat ++ (if d.2 = 0 then [] else 46 :: behL d.1.natAbs d.2.toNat)
theorem okD_nat {d : Int × Int} (h : okD d) : d.1.natAbs ≤ 1000000000000000 ∧ d.2.toNat ≤ 9 ∧ ((d.2.toNat : Nat) : Int) = d.2 := by unfold okD at h; omega
theorem bef_len {d : Int × Int} (h : okD d) : (befL d.1.natAbs d.2.toNat).length ≤ 16 := by
  obtain ⟨h1, h2, h3⟩ := okD_nat h
  have := ptL_le d.1.natAbs d.2.toNat (dec16 h1) h2
  unfold befL
  rw [List.length_take]
  omega
theorem ev_aText (d : Int × Int) : Ev (fun k => amount_Text k d) (if okD d then (B (txL d), 0) else (bs [], 1)) := by
  refine .step (fun k => amount_Text_eq k _) (.bind (ev_CheckDecimal d) ?_)
  by_cases h : okD d
  · rw [if_pos h, if_pos h]
    obtain ⟨h1, h2, h3⟩ := okD_nat h
    have hb := bef_len h
    have hh := behL_len d.1.natAbs d.2.toNat
    refine .ff rfl ?_
    have hs : Sm d.1 := .of (Nat.le_trans h1 (by decide))
    have hs2 : Sm (d.1.natAbs : Int) := .of (by rw [Int.natAbs_natCast]; exact Nat.le_trans h1 (by decide))
    have hp := ev_pointed d.1.natAbs d.2.toNat h1 h2
    rw [h3] at hp
    refine .bind (ev_Of d.1 (by unfold okD at h; omega) (by unfold okD at h; omega)) (.bind (ev_Abs d.1 hs) (.bind (ev_WText _ hs2 (by omega)) ?_))
    rw [itoa_nat]
    refine .bind hp ?_
    have hsg : (if d.1 < 0 then [45] else ([] : List UInt8)).length ≤ 1 := by split <;> simp
    unfold txL
    by_cases hz : d.2 = 0
    · refine .tt (by simp [hz]) (.bind (ev_sign d) (.ck (by rw [size_B, size_B]; omega) (.to (.pure _) ?_)))
      rw [B_app, if_pos hz, List.append_nil]
    · refine .ff (by simp [hz]) (.bind (ev_sign d) (.ck (by rw [size_B, size_B]; omega) ?_))
      simp only [B_app]
      have e46 : bs [46] = B [46] := rfl
      rw [e46]
      simp only [B_app]
      refine .ck (by rw [size_B, List.length_append]; omega) (.ck (by rw [size_B, size_B, List.length_append, List.length_append]; simp only [List.length_singleton]; omega) (.to (.pure _) ?_))
      rw [if_neg hz]
      simp
  · rw [if_neg h, if_neg h]
    exact .tt rfl (.pure _)
end Go.Proofs.YtegiadfbniamkaaDoor.Eq
namespace Go.Proofs.YtegiadfbniamkaaDoor.Eq
open Go Go.Ra
set_option linter.unusedVariables false

end Go.Proofs.YtegiadfbniamkaaDoor.Eq
namespace Go.Ra
open Go Go.Ra
theorem enc_ascii {n : Int} (h0 : 0 ≤ n) (h : n < 128) : Utf8.encode n = B [n.toNat.toUInt8] := by
  obtain ⟨m, rfl⟩ : ∃ m : Nat, n = m := ⟨n.toNat, by omega⟩
  have hm : m < 128 := by omega
  have : ∀ k : Fin 128, Utf8.encode (k.val : Int) = B [((k.val : Int)).toNat.toUInt8] := by decide +kernel
  exact this ⟨m, hm⟩
/-- A byte that can stand between digits. -/
def mkOk (b : Int) : Prop := ¬ ((48 ≤ b ∧ b ≤ 57) ∨ b = 45 ∨ b < 32 ∨ b > 126)
instance (b : Int) : Decidable (mkOk b) := by unfold mkOk; infer_instance
/-- Digits in groups of three, from the right. -/
def grpL (c : UInt8) : Nat → List UInt8 → List UInt8 → List UInt8
  | 0, l, o => l ++ o
  | f + 1, l, o => if 3 < l.length then grpL c f (l.take (l.length - 3)) ([c] ++ l.drop (l.length - 3) ++ o) else l ++ o
def grp (c : UInt8) (l : List UInt8) : List UInt8 := grpL c l.length l []
theorem grpL_more (c : UInt8) : ∀ (f g : Nat) (l o : List UInt8), l.length ≤ f → l.length ≤ g → grpL c f l o = grpL c g l o
  | 0, 0, _, _, _, _ => rfl
  | 0, g + 1, l, o, h, _ => by
    have : l = [] := List.eq_nil_of_length_eq_zero (by omega)
    subst this; simp [grpL]
  | f + 1, 0, l, o, _, h => by
    have : l = [] := List.eq_nil_of_length_eq_zero (by omega)
    subst this; simp [grpL]
  | f + 1, g + 1, l, o, h1, h2 => by
    unfold grpL
    split
    · exact grpL_more c f g _ _ (by rw [List.length_take]; omega) (by rw [List.length_take]; omega)
    · rfl
end Go.Ra
namespace Go.Proofs.YtegiadfbniamkaaDoor.Eq
open Go Go.Ra
set_option linter.unusedVariables false

theorem ev_mf1 (b : Int) : Ev (fun k => amount_marksFault_1 k b) (!decide (mkOk b)) := by
  refine .step (fun k => amount_marksFault_1_eq k _) (.to (.pure _) ?_)
  unfold mkOk
  by_cases h1 : 48 ≤ b <;> by_cases h2 : b ≤ 57 <;> by_cases h3 : b = 45 <;> by_cases h4 : b < 32 <;> by_cases h5 : b > 126 <;> simp [h1, h2, h3, h4, h5] <;> omega
theorem ev_mf (a b : Int) : Ev (fun k => amount_marksFault k a b) (if a ≠ b ∧ mkOk a ∧ mkOk b then 0 else 12) := by
  refine .step (fun k => amount_marksFault_eq k _ _) ?_
  by_cases h : a = b
  · rw [if_neg (fun z => z.1 h)]
    exact .bind (x := false) (.ff (by simp [h]) (.pure _)) (.bind (x := false) (.ff (by simp [h]) (.pure _)) (.tt (by simp [h]) (.pure _)))
  · have hb : (a == b) = false := by simpa using h
    rw [hb]
    refine .bind (.tt rfl (ev_mf1 a)) ?_
    by_cases ha : mkOk a
    · rw [decide_eq_true ha]
      refine .bind (.tt rfl (ev_mf1 b)) ?_
      by_cases hb2 : mkOk b
      · rw [decide_eq_true hb2, if_pos ⟨h, ha, hb2⟩]
        exact .ff rfl (.pure _)
      · rw [decide_eq_false hb2, if_neg fun z => hb2 z.2.2]
        exact .tt rfl (.pure _)
    · rw [decide_eq_false ha, if_neg fun z => ha z.2.1]
      exact .bind (x := false) (.ff rfl (.pure _)) (.tt rfl (.pure _))
theorem ev_agrp (c : Int) (h0 : 0 ≤ c) (h : c < 128) : ∀ (n : Nat) (l o : List UInt8), l.length = n → 2 * l.length + o.length ≤ 10000 → Ev (fun k => amount_grouped_c2 k (B l) c (B o)) (B (grpL c.toNat.toUInt8 n l o)) := by
  intro n
  induction n using Nat.strongRecOn with
  | ind n ih =>
    intro l o hl hlen
    refine .step (fun k => amount_grouped_c2_eq k _ _ _) ?_
    simp only [size_B, enc_ascii h0 h]
    by_cases h3 : (l.length : Int) > 3
    · have hw : wi64 ((l.length : Int) - 3) = ((l.length - 3 : Nat) : Int) := by rw [wi64_id (by omega) (by omega)]; omega
      obtain ⟨m, rfl⟩ : ∃ m, n = m + 1 := ⟨n - 1, by omega⟩
      unfold grpL
      rw [if_pos (by omega), hw, Int.toNat_natCast]
      simp only [B_ext, B_app, size_B, List.drop_zero, List.take_of_length_le (Nat.le_refl l.length)]
      refine .ck h3 (.ck (by omega) (.ck (by omega) (.ck (by simp only [List.length_singleton, List.length_drop]; omega) (.ck (by simp only [List.length_append, List.length_singleton, List.length_drop]; omega) (.ck (by omega) (.ck (by omega) ?_))))))
      have := ih (l.length - 3) (by omega) (l.take (l.length - 3)) ([c.toNat.toUInt8] ++ l.drop (l.length - 3) ++ o) (by rw [List.length_take]; omega) (by simp only [List.length_append, List.length_singleton, List.length_drop, List.length_take, Nat.min_eq_left (Nat.sub_le l.length 3)]; omega)
      rw [grpL_more _ m (l.length - 3) _ _ (by rw [List.length_take]; omega) (by rw [List.length_take]; omega)]
      exact this
    · refine .nk h3 (.ck (by omega) (.to (.pure _) ?_))
      rw [B_app]
      cases n with
      | zero => rfl
      | succ n =>
        unfold grpL
        rw [if_neg (by omega)]
theorem ev_grouped (c : Int) (h0 : 0 ≤ c) (h : c < 128) (l : List UInt8) (hl : l.length ≤ 1000) : Ev (fun k => amount_grouped k (B l) c) (B (grp c.toNat.toUInt8 l)) :=
  .step (fun k => amount_grouped_eq k _ _) (ev_agrp c h0 h l.length l [] rfl (by simp; omega))
theorem grpL_len (c : UInt8) : ∀ (f : Nat) (l o : List UInt8), (grpL c f l o).length ≤ 2 * l.length + o.length
  | 0, l, o => by simp [grpL]; omega
  | f + 1, l, o => by
    unfold grpL
    split
    · have := grpL_len c f (l.take (l.length - 3)) ([c] ++ l.drop (l.length - 3) ++ o)
      simp only [List.length_append, List.length_singleton, List.length_drop, List.length_take] at this ⊢
      omega
    · simp; omega

/-- A decimal's text in groups. -/
def gtxL (d : Int × Int) (p c : UInt8) : List UInt8 := ((if d.1 < 0 then [45] else []) ++ grp c (befL d.1.natAbs d.2.toNat)) ++ (if 0 < d.2 then p :: behL d.1.natAbs d.2.toNat else [])
theorem ev_aGrouped (d : Int × Int) (a b : Int) (ha : 0 ≤ a) (hb : 0 ≤ b) : Ev (fun k => amount_Grouped k d a b) (if okD d then if a ≠ b ∧ mkOk a ∧ mkOk b then (B (gtxL d a.toNat.toUInt8 b.toNat.toUInt8), 0) else (bs [], 12) else (bs [], 1)) := by
  refine .step (fun k => amount_Grouped_eq k _ _ _) (.bind (ev_CheckDecimal d) ?_)
  by_cases h : okD d
  · rw [if_pos h, if_pos h]
    refine .ff rfl (.bind (ev_mf a b) ?_)
    by_cases hm : a ≠ b ∧ mkOk a ∧ mkOk b
    · rw [if_pos hm, if_pos hm]
      obtain ⟨h1, h2, h3⟩ := okD_nat h
      have hbl := bef_len h
      have hh := behL_len d.1.natAbs d.2.toNat
      have hs : Sm d.1 := .of (Nat.le_trans h1 (by decide))
      have hs2 : Sm (d.1.natAbs : Int) := .of (by rw [Int.natAbs_natCast]; exact Nat.le_trans h1 (by decide))
      have hp := ev_pointed d.1.natAbs d.2.toNat h1 h2
      rw [h3] at hp
      have ha' : a < 128 := by have := hm.2.1; unfold mkOk at this; omega
      have hb' : b < 128 := by have := hm.2.2; unfold mkOk at this; omega
      have hgl := grpL_len b.toNat.toUInt8 (befL d.1.natAbs d.2.toNat).length (befL d.1.natAbs d.2.toNat) []
      simp only [List.length_nil, Nat.add_zero] at hgl
      have hg : (grp b.toNat.toUInt8 (befL d.1.natAbs d.2.toNat)).length ≤ 32 := by unfold grp; omega
      refine .ff rfl (.bind (ev_Of d.1 (by unfold okD at h; omega) (by unfold okD at h; omega)) (.bind (ev_Abs d.1 hs) (.bind (ev_WText _ hs2 (by omega)) ?_)))
      rw [itoa_nat]
      have hsg : (if d.1 < 0 then [45] else ([] : List UInt8)).length ≤ 1 := by split <;> simp
      refine .bind hp (.bind (ev_sign d) (.bind (ev_grouped b hb hb' _ (by omega)) ?_))
      rw [enc_ascii ha ha']
      unfold gtxL
      simp only [B_app, size_B]
      refine .ck (by omega) ?_
      by_cases hz : 0 < d.2
      · rw [if_pos hz]
        refine .ck hz (.ck (by simp only [List.length_singleton]; omega) (.ck (by simp only [List.length_append, List.length_singleton]; omega) (.to (.pure _) ?_)))
        simp
      · rw [if_neg hz]
        refine .nk hz (.to (.pure _) ?_)
        simp
    · rw [if_neg hm, if_neg hm]
      exact .tt rfl (.pure _)
  · rw [if_neg h, if_neg h]
    exact .tt rfl (.pure _)
end Go.Proofs.YtegiadfbniamkaaDoor.Eq
namespace Go.Proofs.YtegiadfbniamkaaDoor.Eq
open Go Go.Ra
set_option linter.unusedVariables false

end Go.Proofs.YtegiadfbniamkaaDoor.Eq
namespace Go.Proofs.YtegiadfbniamkaaDoor.Eq
open Go Go.Ra
set_option linter.unusedVariables false

theorem sc_pos (d : Int × Int) (p : Int) : (0 < sc d p ↔ 0 < d.1) ∧ (sc d p < 0 ↔ d.1 < 0) := by
  unfold sc
  have h : (0 : Int) < 10 ^ (p - d.2).toNat := Int.pow_pos (by omega)
  constructor
  · constructor
    · intro z
      rcases Int.lt_or_le 0 d.1 with y | y
      · exact y
      · have := Int.mul_nonpos_of_nonpos_of_nonneg y (Int.le_of_lt h)
        omega
    · intro z
      exact Int.mul_pos z h
  · constructor
    · intro z
      rcases Int.lt_or_le d.1 0 with y | y
      · exact y
      · have := Int.mul_nonneg y (Int.le_of_lt h)
        omega
    · intro z
      exact Int.mul_neg_of_neg_of_pos z h

/- the reference -/
end Go.Proofs.YtegiadfbniamkaaDoor.Eq
namespace Go.Ra
open Go Go.Ra
theorem dec_all (n : Nat) : ∀ b ∈ Lib.decDigits n, dgB b = true := digB_all (dec_dig n).1
end Go.Ra
namespace Go.Proofs.YtegiadfbniamkaaDoor.Eq
open Go Go.Ra
set_option linter.unusedVariables false

theorem ptL_dg (n p : Nat) : ∀ b ∈ ptL n p, dgB b = true := by
  intro b hb
  unfold ptL at hb
  rcases List.mem_append.1 hb with h | h
  · rw [(List.mem_replicate.1 h).2]; rfl
  · exact dec_all n b h
theorem befL_dg (n p : Nat) : ∀ b ∈ befL n p, dgB b = true := fun b h => ptL_dg n p b (List.mem_of_mem_take h)
theorem behL_dg (n p : Nat) : ∀ b ∈ behL n p, dgB b = true := fun b h => ptL_dg n p b (List.mem_of_mem_drop h)
theorem dg_ne {l : List UInt8} (h : ∀ b ∈ l, dgB b = true) {c : UInt8} (hc : dgB c = false) : c ∉ l := fun z => by rw [h c z] at hc; exact absurd hc (by decide)
theorem befL_pos (n p : Nat) : 1 ≤ (befL n p).length := by
  have := ptL_len n p
  unfold befL
  rw [List.length_take]
  omega
/-- What follows the digits before the point. -/
def tlL (d : Int × Int) : List UInt8 := if d.2 = 0 then [] else 46 :: behL d.1.natAbs d.2.toNat
theorem cutP_tx (d : Int × Int) : cutP (txL d) = (befL d.1.natAbs d.2.toNat ++ tlL d, decide (d.1 < 0)) := by
  have e : txL d = (if d.1 < 0 then [45] else []) ++ (befL d.1.natAbs d.2.toNat ++ tlL d) := by unfold txL tlL; rw [List.append_assoc]
  rw [e]
  unfold cutP
  by_cases h : d.1 < 0
  · simp [h]
  · have hp := befL_pos d.1.natAbs d.2.toNat
    have hd := befL_dg d.1.natAbs d.2.toNat
    cases hb : befL d.1.natAbs d.2.toNat with
    | nil => rw [hb] at hp; simp at hp
    | cons b t =>
      rw [hb] at hd
      have : b ≠ 45 := fun z => by have := hd b (by simp); rw [z] at this; exact absurd this (by decide)
      simp [h, this]
theorem cutB_tx (d : Int × Int) : cutB (befL d.1.natAbs d.2.toNat ++ tlL d) 46 = (befL d.1.natAbs d.2.toNat, if d.2 = 0 then [] else behL d.1.natAbs d.2.toNat, decide (d.2 ≠ 0)) := by
  have hn : (46 : UInt8) ∉ befL d.1.natAbs d.2.toNat := dg_ne (befL_dg _ _) (by decide)
  unfold tlL
  by_cases h : d.2 = 0
  · rw [if_pos h, if_pos h, List.append_nil, cutB_none hn]
    simp [h]
  · rw [if_neg h, if_neg h, cutB_app hn]
    simp [h]

/-! ### the implied point -/
/-- The implied text of a number of parts of 10^9. -/
def impV (v b c : Int) : ByteArray × Int :=
  if v.natAbs % 10 ^ (9 - b).toNat ≠ 0 then (bs [], 12)
  else if c < (Lib.decDigits (v.natAbs / 10 ^ (9 - b).toNat)).length + (if v < 0 then 1 else 0) then (bs [], 16)
  else (B ((if v < 0 then [45] else []) ++ List.replicate (c.toNat - (if v < 0 then 1 else 0) - (Lib.decDigits (v.natAbs / 10 ^ (9 - b).toNat)).length) 48 ++ Lib.decDigits (v.natAbs / 10 ^ (9 - b).toNat)), 0)
theorem ev_aImplied (d : Int × Int) (b c : Int) : Ev (fun k => amount_Implied k d b c) (if okD d ∧ (0 ≤ b ∧ b ≤ 9) ∧ (1 ≤ c ∧ c ≤ 30) then impV (sc d 9) b c else (bs [], 1)) := by
  refine .step (fun k => amount_Implied_eq k _ _ _) (.bind (ev_CheckDecimal d) ?_)
  by_cases h : okD d
  · rw [if_pos h]
    refine .ff rfl (.bind (ev_Outside b 0 9) ?_)
    by_cases hb : 0 ≤ b ∧ b ≤ 9
    · rw [decide_eq_false (by omega)]
      refine .bind (.tt rfl (ev_Outside c 1 30)) ?_
      by_cases hc : 1 ≤ c ∧ c ≤ 30
      · rw [decide_eq_false (by omega), if_pos ⟨h, hb, hc⟩]
        have hab := sc_abs h (p := 9) (by decide)
        have hsm : Sm (sc d 9) := .of (Nat.le_trans hab (by decide +kernel))
        have e : wi64 (9 - b) = (((9 - b).toNat : Nat) : Int) := by rw [wi64_id (by omega) (by omega)]; omega
        have hpos : 0 < 10 ^ (9 - b).toNat := Nat.pow_pos (by decide)
        refine .ff rfl (.bind (ev_Value d h) ?_)
        rw [e]
        refine .bind (ev_Power _ (by omega)) (.bind (ev_By _ _ hsm (.pow10 (by omega)) ?_) (.bind (ev_Sign _) ?_))
        · have := Int.pow_pos (n := 10) (m := (9 - b).toNat) (by decide)
          omega
        have e10 : ((10 : Int) ^ (9 - b).toNat).natAbs = 10 ^ (9 - b).toNat := by rw [Int.natAbs_pow]; rfl
        rw [e10]
        unfold impV
        by_cases hr : (sc d 9).natAbs % 10 ^ (9 - b).toNat = 0
        · rw [if_neg (by simpa using hr)]
          have hq : (sc d 9).natAbs / 10 ^ (9 - b).toNat ≤ 10 ^ 35 := Nat.le_trans (Nat.div_le_self _ _) hab
          have hl : (Lib.decDigits ((sc d 9).natAbs / 10 ^ (9 - b).toNat)).length ≤ 36 := by
            rw [Lib.decDigits_length]
            exact nDig_le 36 _ (by decide) (Nat.lt_of_le_of_lt hq (by decide +kernel))
          have hsg := (sc_pos d 9).2
          refine .ff (by rw [hr]; rfl) (.bind (ev_sign d) (.bind (ev_WText _ (.of (by rw [Int.natAbs_natCast]; exact Nat.le_trans hq (by decide +kernel))) (Int.natCast_nonneg _)) ?_))
          rw [itoa_nat]
          simp only [size_B]
          generalize hD : Lib.decDigits ((sc d 9).natAbs / 10 ^ (9 - b).toNat) = D at hl ⊢
          by_cases hn : d.1 < 0
          · simp only [if_pos hn, if_pos (hsg.2 hn)]
            have w1 : wi64 ((([45] : List UInt8).length : Int) + (D.length : Int)) = (D.length : Int) + 1 := by rw [wi64_id (by simp; omega) (by simp; omega)]; simp; omega
            rw [w1]
            by_cases hg : c < D.length + 1
            · rw [if_pos hg]
              exact .ck (by omega) (.pure _)
            · rw [if_neg hg]
              have w2 : wi64 (wi64 (c - (([45] : List UInt8).length : Int)) - (D.length : Int)) = ((c.toNat - 1 - D.length : Nat) : Int) := by
                rw [wi64_id (x := c - _) (by simp; omega) (by simp; omega), wi64_id (by simp; omega) (by simp; omega)]; simp; omega
              rw [w2]
              refine .nk (by omega) (.bind (ev_Rep48' _ (by omega)) ?_)
              simp only [B_app, size_B]
              refine .ck (by simp; omega) (.ck (by simp; omega) (.pure _))
          · simp only [if_neg hn, if_neg (fun z => hn (hsg.1 z))]
            have w1 : wi64 ((([] : List UInt8).length : Int) + (D.length : Int)) = (D.length : Int) := by rw [wi64_id (by simp only [List.length_nil]; omega) (by simp only [List.length_nil]; omega)]; simp
            rw [w1]
            by_cases hg : c < D.length + 0
            · rw [if_pos hg]
              exact .ck (by omega) (.pure _)
            · rw [if_neg hg]
              have w2 : wi64 (wi64 (c - (([] : List UInt8).length : Int)) - (D.length : Int)) = ((c.toNat - 0 - D.length : Nat) : Int) := by
                rw [wi64_id (x := c - _) (by simp; omega) (by simp; omega), wi64_id (by simp; omega) (by simp; omega)]; simp; omega
              rw [w2]
              refine .nk (by omega) (.bind (ev_Rep48' _ (by omega)) ?_)
              simp only [B_app, size_B]
              refine .ck (by simp; omega) (.ck (by simp; omega) (.pure _))
        · rw [if_pos hr]
          refine .tt ?_ (.pure _)
          have : (((((sc d 9).natAbs % 10 ^ (9 - b).toNat : Nat) : Int)).sign) ≠ 0 := by
            rw [ne_eq, Int.sign_eq_zero_iff_zero]
            omega
          simpa using this
      · rw [decide_eq_true (by omega), if_neg (fun z => hc z.2.2)]
        exact .tt rfl (.pure _)
    · rw [decide_eq_true (by omega), if_neg (fun z => hb z.2.1)]
      exact .bind (x := false) (.ff rfl (.pure _)) (.tt rfl (.pure _))
  · rw [if_neg h, if_neg (fun z => h z.1)]
    exact .tt rfl (.pure _)

end Go.Proofs.YtegiadfbniamkaaDoor.Eq
namespace Go.Ra
open Go Go.Ra
theorem dv_zeros (k : Nat) (l : List UInt8) : dv (List.replicate k 48 ++ l) = dv l := by
  induction k with
  | zero => rfl
  | succ k ih =>
    rw [List.replicate_succ, List.cons_append]
    exact ih
theorem dec_head : ∀ (n : Nat), 0 < n → (Lib.decDigits n).head? ≠ some 48 := by
  intro n
  induction n using Nat.strongRecOn with
  | ind n ih =>
    intro h0
    by_cases h : n < 10
    · rw [Lib.decDigits_one h]
      have : ∀ k : Fin 10, 0 < k.val → ([UInt8.ofNat (48 + k.val)] : List UInt8).head? ≠ some 48 := by decide
      exact this ⟨n, h⟩ h0
    · have e : Lib.decDigits n = Lib.decDigits (n / 10) ++ [UInt8.ofNat (48 + n % 10)] := by conv => lhs; rw [Lib.decDigits, dif_neg h]
      have := ih (n / 10) (by omega) (by omega)
      rw [e]
      cases hd : Lib.decDigits (n / 10) with
      | nil => have := digB_len (dec_dig (n / 10)).1; rw [hd] at this; simp at this
      | cons b t => rw [hd] at this; simpa using this
theorem dec_ten {n : Nat} (h : 2 ≤ (Lib.decDigits n).length) : 0 < n := by
  rcases Nat.eq_zero_or_pos n with rfl | h0
  · rw [Lib.decDigits_one (by decide)] at h; simp at h
  · exact h0
theorem grpL_mem (c : UInt8) : ∀ (f : Nat) (l o : List UInt8), ∀ x ∈ grpL c f l o, x = c ∨ x ∈ l ∨ x ∈ o
  | 0, l, o, x, h => by
    rcases List.mem_append.1 h with h | h
    · exact .inr (.inl h)
    · exact .inr (.inr h)
  | f + 1, l, o, x, h => by
    unfold grpL at h
    split at h
    · rcases grpL_mem c f _ _ x h with h | h | h
      · exact .inl h
      · exact .inr (.inl (List.mem_of_mem_take h))
      · rcases List.mem_append.1 h with h | h
        · rcases List.mem_append.1 h with h | h
          · exact .inl (by simpa using h)
          · exact .inr (.inl (List.mem_of_mem_drop h))
        · exact .inr (.inr h)
    · rcases List.mem_append.1 h with h | h
      · exact .inr (.inl h)
      · exact .inr (.inr h)
theorem grpL_head (c : UInt8) : ∀ (f : Nat) (l o : List UInt8), l ≠ [] → (grpL c f l o).head? = l.head?
  | 0, l, o, h => by
    cases l with
    | nil => exact absurd rfl h
    | cons => rfl
  | f + 1, l, o, h => by
    unfold grpL
    split
    · rename_i h3
      cases l with
      | nil => exact absurd rfl h
      | cons b t =>
        have e : (b :: t).take ((b :: t).length - 3) = b :: t.take (t.length - 3) := by
          rw [List.length_cons] at h3 ⊢
          rw [show t.length + 1 - 3 = (t.length - 3) + 1 by omega, List.take_succ_cons]
        rw [grpL_head c f _ _ (by rw [e]; simp), e]
        rfl
    · cases l with
      | nil => exact absurd rfl h
      | cons => rfl
theorem grpL_filter (c : UInt8) : ∀ (f : Nat) (l o : List UInt8), c ∉ l → (grpL c f l o).filter (fun b => b != c) = l ++ o.filter (fun b => b != c)
  | 0, l, o, h => by
    show (l ++ o).filter _ = _
    rw [List.filter_append, List.filter_eq_self.2 fun x hx => by
      have : x ≠ c := fun z => h (z ▸ hx)
      simpa using this]
  | f + 1, l, o, h => by
    have hf : ∀ m : List UInt8, c ∉ m → m.filter (fun b => b != c) = m := fun m hm => List.filter_eq_self.2 fun x hx => by
      have : x ≠ c := fun z => hm (z ▸ hx)
      simpa using this
    unfold grpL
    split
    · rw [grpL_filter c f _ _ (fun z => h (List.mem_of_mem_take z)), List.filter_append, List.filter_append, hf (l.drop _) (fun z => h (List.mem_of_mem_drop z))]
      simp only [List.filter_cons, bne_self_eq_false, List.filter_nil]
      rw [← List.append_assoc]
      simp
    · rw [List.filter_append, hf l h]
end Go.Ra
namespace Go.Proofs.YtegiadfbniamkaaDoor.Eq
open Go Go.Ra
set_option linter.unusedVariables false

theorem replaceK_one (c : UInt8) : ∀ (n : Nat) (s : List UInt8), s.length ≤ n → Lib.replaceK [c] [] (s.count c) s = s.filter (fun b => b != c)
  | n, s, hn => by
    by_cases h : c ∈ s
    · obtain ⟨a, b, rfl, ha⟩ : ∃ a b, s = a ++ c :: b ∧ c ∉ a := by
        rcases cutB_cases s c with ⟨z, _⟩ | ⟨a, b, e, ha, _⟩
        · exact absurd h z
        · exact ⟨a, b, e, ha⟩
      have e : (a ++ c :: b).count c = b.count c + 1 := by
        rw [List.count_append, List.count_cons_self, List.count_eq_zero_of_not_mem ha]; omega
      cases n with
      | zero => simp at hn
      | succ n =>
        rw [e, Lib.replaceK_hit [c] [] _ _ a.length (by rw [Lib.index_one]; exact indexByte_app ha)]
        have e2 : (a ++ c :: b).drop (a.length + [c].length) = b := by simp
        rw [e2, replaceK_one c n b (by simp at hn; omega)]
        have e3 : a.filter (fun b => b != c) = a := List.filter_eq_self.2 fun x hx => by
          have : x ≠ c := fun z => ha (z ▸ hx)
          simpa using this
        rw [List.filter_append, e3]
        simp
    · rw [List.count_eq_zero_of_not_mem h]
      show s = _
      exact (List.filter_eq_self.2 fun x hx => by
        have : x ≠ c := fun z => h (z ▸ hx)
        simpa using this).symm
theorem replaceAll_one (c : UInt8) (s : List UInt8) : Lib.replaceAll s [c] [] = s.filter (fun b => b != c) := by
  unfold Lib.replaceAll Lib.replace Lib.replaceNum
  rw [if_neg (by simp), if_pos (by left; decide), Lib.count_one]
  exact replaceK_one c s.length s (Nat.le_refl _)

/-- What digits are read as. -/
def rdR (neg : Bool) (l m : List UInt8) : (Int × Int) × Int := if neg = true then (if dv (l ++ m) = 0 then ((0, 0), 10) else mk (-((dv (l ++ m) : Nat) : Int)) m.length) else mk ((dv (l ++ m) : Nat) : Int) m.length
theorem ev_aread (neg : Bool) (l m : List UInt8) (h : ∀ b ∈ l ++ m, dgB b = true) (hl : (l ++ m).length ≤ 60) : Ev (fun k => amount_read k neg (B l) (B m)) (rdR neg l m) := by
  have hl' := hl
  rw [List.length_append] at hl'
  refine .step (fun k => amount_read_eq k _ _ _) (.bind (ev_Of 0 (by decide) (by decide)) (.ck (by rw [size_B, size_B]; omega) ?_))
  rw [B_app, size_B]
  have sm : ∀ i, Sm ((dv ((l ++ m).take i) : Nat) : Int) := fun i => by
    refine .of ?_
    rw [Int.natAbs_natCast]
    have h1 : dv ((l ++ m).take i) < 10 ^ ((l ++ m).take i).length := dv_lt fun b hb => h b (List.mem_of_mem_take hb)
    have h2 : (10 : Nat) ^ ((l ++ m).take i).length ≤ 10 ^ 60 := Nat.pow_le_pow_right (by decide) (by rw [List.length_take]; omega)
    exact Nat.le_trans (Nat.le_of_lt h1) (Nat.le_trans h2 (by decide +kernel))
  have key : ∀ (j i : Nat), (l ++ m).length - i = j → i ≤ (l ++ m).length → Ev (fun k => amount_read_c3 k neg (B l) (B m) (0, 0) (W ((dv ((l ++ m).take i) : Nat) : Int)) ((l ++ m).length : Int) (i : Int)) (rdR neg l m) := by
    intro j
    induction j with
    | zero =>
      intro i hj hi
      have hsm := sm i
      refine .step (fun k => amount_read_c3_eq k _ _ _ _ _ _ _) (.nk (by omega) ?_)
      rw [List.take_of_length_le (by omega)] at hsm ⊢
      unfold rdR
      cases neg with
      | true =>
        rw [if_pos rfl]
        refine .tt rfl (.bind (ev_Sign _) ?_)
        by_cases hz : dv (l ++ m) = 0
        · rw [if_pos hz]
          exact .tt (by simp [hz]) (.pure _)
        · rw [if_neg hz]
          have hs : ((dv (l ++ m) : Nat) : Int).sign ≠ 0 := by
            rw [ne_eq, Int.sign_eq_zero_iff_zero]
            omega
          refine .ff (by simpa using hs) (.bind (ev_Minus _ hsm) ?_)
          rw [size_B]
          exact .ret (ev_Made _ _) rfl
      | false =>
        rw [if_neg (by decide), size_B]
        exact .ff rfl (.ret (ev_Made _ _) rfl)
    | succ j ih =>
      intro i hj hi
      have hil : i < (l ++ m).length := by omega
      have hdig : dgB ((l ++ m).getD i 0) = true := by
        rw [List.getD_eq_getElem?_getD, List.getElem?_eq_getElem hil]
        exact h _ (List.getElem_mem hil)
      have hb := dgB_iff.1 hdig
      have e : ((dv ((l ++ m).take (i + 1)) : Nat) : Int) = ((dv ((l ++ m).take i) : Nat) : Int) * 10 + ((((l ++ m).getD i 0).toNat - 48 : Nat) : Int) := by
        rw [take_succ' hil, dv_app, dv_one]
        simp
      have h10 : Sm (10 : Int) := .of (by decide +kernel)
      have s1 : Sm (((dv ((l ++ m).take i) : Nat) : Int) * 10) := by
        refine .of ?_
        have h1 : dv ((l ++ m).take i) < 10 ^ ((l ++ m).take i).length := dv_lt fun b hb => h b (List.mem_of_mem_take hb)
        have h2 : (10 : Nat) ^ ((l ++ m).take i).length ≤ 10 ^ 60 := Nat.pow_le_pow_right (by decide) (by rw [List.length_take]; omega)
        have : (((dv ((l ++ m).take i) : Nat) : Int) * 10).natAbs = dv ((l ++ m).take i) * 10 := by rw [Int.natAbs_mul, Int.natAbs_natCast]; rfl
        rw [this]
        exact Nat.le_trans (Nat.mul_le_mul_right 10 (Nat.le_trans (Nat.le_of_lt h1) h2)) (by decide +kernel)
      have s2 : Sm ((((l ++ m).getD i 0).toNat - 48 : Nat) : Int) := by
        refine .of ?_
        rw [Int.natAbs_natCast]
        exact Nat.le_trans (show _ ≤ 10 by omega) (by decide +kernel)
      refine .step (fun k => amount_read_c3_eq k _ _ _ _ _ _ _) (.ck (by omega) (.bind (ev_Of 10 (by decide) (by decide)) (.bind (ev_Times _ _ (sm i) h10) (.ck (by rw [size_B, size_B]; omega) ?_))))
      rw [B_app, size_B, bt_B hil, wu8_dig hdig]
      have hw : wi64 ((i : Int) + 1) = ((i + 1 : Nat) : Int) := by rw [wi64_id (by omega) (by omega)]; rfl
      refine .ck (by omega) (.ck (by omega) (.bind (ev_Of _ (by omega) (by omega)) (.bind (ev_Plus _ _ s1 s2) ?_)))
      rw [hw, ← e]
      exact ih (i + 1) (by omega) (by omega)
  exact key _ 0 rfl (Nat.zero_le _)

theorem ev_isWhole (l : List UInt8) (hl : l.length < 1125899906842624) : Ev (fun k => amount_isWhole k (B l)) (digB l && (decide (l.length = 1) || decide (l.head? ≠ some 48))) := by
  have hk := ev_kDig (B l) (by rw [size_B]; exact hl)
  rw [L_B] at hk
  refine .step (fun k => amount_isWhole_eq k _) (.bind hk ?_)
  rw [size_B]
  cases hd : digB l with
  | false =>
    refine .tt (by simp) (.tt (by simp) (.pure _))
  | true =>
    have hp := digB_len hd
    refine .tt (by simp) (.tt (by simp; omega) (.to (.pure _) ?_))
    have hb0 : bt (B l) 0 = (((l.getD 0 0).toNat : Nat) : Int) := bt_B (i := 0) (by omega)
    rw [hb0]
    cases l with
    | nil => simp at hp
    | cons b t =>
      by_cases h1 : t = []
      · subst h1; simp
      · have ht : 0 < t.length := List.length_pos_iff.2 h1
        have e1 : ((((b :: t).length : Nat) : Int) == 1) = false := by simp; omega
        rw [e1]
        simp only [cond_true, cond_false, List.getD_cons_zero, Bool.true_and]
        by_cases hb : b = 48
        · subst hb
          simp [h1]
        · have : ((b.toNat : Int)) ≠ 48 := fun z => hb (UInt8.toNat_inj.1 (by rw [show (48 : UInt8).toNat = 48 from rfl]; omega))
          simp [hb, this]
theorem bef_whole (n p : Nat) : (digB (befL n p) && (decide ((befL n p).length = 1) || decide ((befL n p).head? ≠ some 48))) = true := by
  have h1 := befL_pos n p
  have hd : digB (befL n p) = true := digB_iff.2 ⟨fun z => by rw [z] at h1; simp at h1, befL_dg n p⟩
  rw [hd]
  by_cases hl : (Lib.decDigits n).length ≤ p + 1
  · have : (befL n p).length = 1 := by
      unfold befL
      rw [List.length_take]
      unfold ptL
      rw [List.length_append, List.length_replicate]
      omega
    simp [this]
  · have e : ptL n p = Lib.decDigits n := by unfold ptL; rw [show p + 1 - (Lib.decDigits n).length = 0 by omega]; rfl
    have hh : (befL n p).head? ≠ some 48 := by
      unfold befL
      rw [e, List.head?_take, if_neg (by omega)]
      exact dec_head n (dec_ten (by omega))
    simp [hh]
theorem dv_pt (n p : Nat) : dv (befL n p ++ behL n p) = n := by
  rw [bef_beh]
  unfold ptL
  rw [dv_zeros, (dec_dig n).2]
theorem pt_dg (n p : Nat) : ∀ b ∈ befL n p ++ behL n p, dgB b = true := by rw [bef_beh]; exact ptL_dg n p
theorem tl_beh (d : Int × Int) (h : okD d) : (if d.2 = 0 then [] else behL d.1.natAbs d.2.toNat) = behL d.1.natAbs d.2.toNat := by
  split
  · rename_i hz
    exact (List.eq_nil_of_length_eq_zero (by rw [behL_len, hz]; rfl)).symm
  · rfl
theorem rdR_bef {d : Int × Int} (h : okD d) : rdR (decide (d.1 < 0)) (befL d.1.natAbs d.2.toNat) (behL d.1.natAbs d.2.toNat) = (d, 0) := by
  obtain ⟨h1, h2, h3⟩ := okD_nat h
  unfold rdR mk
  rw [dv_pt, behL_len, h3]
  by_cases hn : d.1 < 0
  · rw [if_pos (decide_eq_true hn), if_neg (by omega), if_pos (by omega), show -((d.1.natAbs : Nat) : Int) = d.1 by omega]
  · rw [if_neg (by simpa using hn), if_pos (by omega), show ((d.1.natAbs : Nat) : Int) = d.1 by omega]
theorem ev_readBack {d : Int × Int} (h : okD d) : Ev (fun k => amount_ReadText k (B (txL d))) (d, 0) := by
  obtain ⟨h1, h2, h3⟩ := okD_nat h
  have hbl := bef_len h
  have hh := behL_len d.1.natAbs d.2.toNat
  have hcp := ev_CutPre (B (txL d))
  rw [L_B, cutP_tx] at hcp
  have htl : (tlL d).length ≤ 10 := by
    unfold tlL
    split
    · simp
    · rw [List.length_cons, hh]; omega
  have hsz : (txL d).length ≤ 27 := by
    have e : txL d = (if d.1 < 0 then [45] else []) ++ (befL d.1.natAbs d.2.toNat ++ tlL d) := by unfold txL tlL; rw [List.append_assoc]
    have hsg : (if d.1 < 0 then [45] else ([] : List UInt8)).length ≤ 1 := by split <;> simp
    rw [e, List.length_append, List.length_append]
    omega
  have hcb := ev_Cut (B (befL d.1.natAbs d.2.toNat ++ tlL d)) 46 (by rw [size_B, List.length_append]; omega)
  rw [L_B, cutB_tx] at hcb
  refine .step (fun k => amount_ReadText_eq k _) (.bind hcp (.bind hcb ?_))
  rw [size_B, tl_beh d h]
  simp only
  have hno : ¬ (((txL d).length : Int) > 40) := by omega
  have hw := ev_isWhole (befL d.1.natAbs d.2.toNat) (by omega)
  rw [bef_whole] at hw
  rw [decide_eq_false hno]
  refine .bind (.tt rfl hw) ?_
  by_cases hz : d.2 = 0
  · rw [decide_eq_false (by simpa using hz)]
    refine .bind (x := false) (.ff rfl (.pure _)) (.ff rfl ?_)
    exact .ret (.to (ev_aread _ _ _ (pt_dg _ _) (by rw [List.length_append]; omega)) (rdR_bef h)) rfl
  · rw [decide_eq_true hz]
    have hdb := ev_kDig (B (behL d.1.natAbs d.2.toNat)) (by rw [size_B]; omega)
    rw [L_B, digB_iff.2 ⟨fun z => by rw [z] at hh; simp at hh; unfold okD at h; omega, behL_dg _ _⟩] at hdb
    refine .bind (.tt rfl hdb) (.ff ?_ ?_)
    · rw [size_B, hh, decide_eq_false (by omega)]; rfl
    · exact .ret (.to (ev_aread _ _ _ (pt_dg _ _) (by rw [List.length_append]; omega)) (rdR_bef h)) rfl
end Go.Proofs.YtegiadfbniamkaaDoor.Eq
namespace Go.Proofs.YtegiadfbniamkaaDoor.Eq
open Go Go.Ra
set_option linter.unusedVariables false

theorem ev_Repl (l : List UInt8) (c : UInt8) (hl : l.length < 4294967281) : Ev (fun k => strings_ReplaceAll k (B l) (B [c]) (bs [])) (B (l.filter (fun b => b != c))) := by
  refine .off (n := 0) fun k => ?_
  have e1 : (bs []).size = 0 := rfl
  have e2 : (B [c]).size = 1 := rfl
  rw [strings_ReplaceAll_eq, size_B, e1, e2, Nat.mul_zero, decide_eq_true hl, decide_eq_true (Nat.le_refl 1), decide_eq_true (by omega : l.length + 0 ≤ 140737488355328)]
  show some _ = some _
  have e3 : (B l).data.toList = l := L_B l
  have e4 : (B [c]).data.toList = [c] := rfl
  have e5 : (bs []).data.toList = [] := rfl
  rw [e3, e4, e5, replaceAll_one]
  rfl
theorem grp_len (c : UInt8) (l : List UInt8) : (grp c l).length ≤ 2 * l.length := by
  have := grpL_len c l.length l []
  unfold grp
  simpa using this
theorem cutP_g (d : Int × Int) (p c : UInt8) : cutP (gtxL d p c) = (grp c (befL d.1.natAbs d.2.toNat) ++ (if 0 < d.2 then p :: behL d.1.natAbs d.2.toNat else []), decide (d.1 < 0)) := by
  unfold gtxL
  rw [List.append_assoc]
  unfold cutP
  by_cases h : d.1 < 0
  · simp [h]
  · have hp := befL_pos d.1.natAbs d.2.toNat
    have hd := befL_dg d.1.natAbs d.2.toNat
    have hne : befL d.1.natAbs d.2.toNat ≠ [] := fun z => by rw [z] at hp; simp at hp
    have hh := grpL_head c (befL d.1.natAbs d.2.toNat).length _ [] hne
    have hg : grpL c (befL d.1.natAbs d.2.toNat).length (befL d.1.natAbs d.2.toNat) [] = grp c (befL d.1.natAbs d.2.toNat) := rfl
    rw [hg] at hh
    cases hb : befL d.1.natAbs d.2.toNat with
    | nil => exact absurd hb hne
    | cons b t =>
      rw [hb] at hd hh
      have h45 : b ≠ 45 := fun z => by have := hd b (by simp); rw [z] at this; exact absurd this (by decide)
      cases hgg : grp c (b :: t) with
      | nil => rw [hgg] at hh; simp at hh
      | cons x u =>
        rw [hgg] at hh
        have : x = b := by simpa using hh
        subst this
        simp [h, h45]
theorem mk_byte {a : Int} (h0 : 0 ≤ a) (h : mkOk a) : a < 128 ∧ dgB a.toNat.toUInt8 = false ∧ a.toNat.toUInt8.toNat = a.toNat := by
  unfold mkOk at h
  have e : a.toNat.toUInt8.toNat = a.toNat := by
    show (UInt8.ofNat a.toNat).toNat = _
    rw [UInt8.toNat_ofNat']
    omega
  refine ⟨by omega, ?_, e⟩
  unfold dgB
  rw [e]
  simp
  omega
theorem cutB_g {d : Int × Int} (h : okD d) {p c : UInt8} (hp : dgB p = false) (hpc : p ≠ c) : cutB (grp c (befL d.1.natAbs d.2.toNat) ++ (if 0 < d.2 then p :: behL d.1.natAbs d.2.toNat else [])) p = (grp c (befL d.1.natAbs d.2.toNat), behL d.1.natAbs d.2.toNat, decide (0 < d.2)) := by
  have hn : p ∉ grp c (befL d.1.natAbs d.2.toNat) := fun z => by
    rcases grpL_mem c _ _ _ p z with q | q | q
    · exact hpc q
    · exact dg_ne (befL_dg _ _) hp q
    · simp at q
  by_cases hd : 0 < d.2
  · rw [if_pos hd, cutB_app hn, decide_eq_true hd]
  · have hb0 : behL d.1.natAbs d.2.toNat = [] := List.eq_nil_of_length_eq_zero (by rw [behL_len]; omega)
    rw [if_neg hd, List.append_nil, cutB_none hn, decide_eq_false hd, hb0]
theorem ev_groupBack {d : Int × Int} (h : okD d) (a b : Int) (ha : 0 ≤ a) (hb : 0 ≤ b) (hm : a ≠ b ∧ mkOk a ∧ mkOk b) : Ev (fun k => amount_ReadGrouped k (B (gtxL d a.toNat.toUInt8 b.toNat.toUInt8)) a b) (d, 0) := by
  obtain ⟨h1, h2, h3⟩ := okD_nat h
  obtain ⟨a1, a2, a3⟩ := mk_byte ha hm.2.1
  obtain ⟨b1, b2, b3⟩ := mk_byte hb hm.2.2
  have hne : a.toNat.toUInt8 ≠ b.toNat.toUInt8 := fun z => by
    apply hm.1
    have := congrArg UInt8.toNat z
    omega
  have hbl := bef_len h
  have hh := behL_len d.1.natAbs d.2.toNat
  have hpt := ptL_le d.1.natAbs d.2.toNat (dec16 h1) h2
  have hbb : (befL d.1.natAbs d.2.toNat).length + (behL d.1.natAbs d.2.toNat).length ≤ 16 := by rw [← List.length_append, bef_beh]; exact hpt
  have hgl := grp_len b.toNat.toUInt8 (befL d.1.natAbs d.2.toNat)
  have hgr := ev_grouped b hb b1 (befL d.1.natAbs d.2.toNat) (by omega)
  have hcp := ev_CutPre (B (gtxL d a.toNat.toUInt8 b.toNat.toUInt8))
  rw [L_B, cutP_g] at hcp
  have hsz : (gtxL d a.toNat.toUInt8 b.toNat.toUInt8).length ≤ 40 := by
    unfold gtxL
    have hsg : (if d.1 < 0 then [45] else ([] : List UInt8)).length ≤ 1 := by split <;> simp
    have htl : (if 0 < d.2 then a.toNat.toUInt8 :: behL d.1.natAbs d.2.toNat else []).length ≤ (behL d.1.natAbs d.2.toNat).length + 1 := by split <;> simp
    rw [List.length_append, List.length_append]
    omega
  have htl : (if 0 < d.2 then a.toNat.toUInt8 :: behL d.1.natAbs d.2.toNat else []).length ≤ (behL d.1.natAbs d.2.toNat).length + 1 := by split <;> simp
  have hcb := ev_Cut (B (grp b.toNat.toUInt8 (befL d.1.natAbs d.2.toNat) ++ (if 0 < d.2 then a.toNat.toUInt8 :: behL d.1.natAbs d.2.toNat else []))) a.toNat.toUInt8 (by rw [size_B, List.length_append]; omega)
  rw [L_B, cutB_g h a2 hne] at hcb
  have hrp := ev_Repl (grp b.toNat.toUInt8 (befL d.1.natAbs d.2.toNat)) b.toNat.toUInt8 (by omega)
  have hfl : (grp b.toNat.toUInt8 (befL d.1.natAbs d.2.toNat)).filter (fun x => x != b.toNat.toUInt8) = befL d.1.natAbs d.2.toNat := by
    have := grpL_filter b.toNat.toUInt8 (befL d.1.natAbs d.2.toNat).length (befL d.1.natAbs d.2.toNat) [] (dg_ne (befL_dg _ _) b2)
    simpa [grp] using this
  rw [hfl] at hrp
  have hw := ev_isWhole (befL d.1.natAbs d.2.toNat) (by omega)
  rw [bef_whole] at hw
  have hmf := ev_mf a b
  rw [if_pos hm] at hmf
  refine .step (fun k => amount_ReadGrouped_eq k _ _ _) (.bind hmf (.ff rfl (.bind hcp ?_)))
  simp only [enc_ascii ha a1, enc_ascii hb b1]
  refine .bind hcb (.bind hrp ?_)
  rw [size_B]
  have hno : ¬ (((gtxL d a.toNat.toUInt8 b.toNat.toUInt8).length : Int) > 40) := by omega
  rw [decide_eq_false hno]
  refine .bind (.tt rfl hw) (.bind (.tt rfl hgr) ?_)
  simp only [eqS_self]
  by_cases hz : 0 < d.2
  · rw [decide_eq_true hz]
    have hdb := ev_kDig (B (behL d.1.natAbs d.2.toNat)) (by rw [size_B]; omega)
    rw [L_B, digB_iff.2 ⟨fun z => by rw [z] at hh; simp at hh; omega, behL_dg _ _⟩] at hdb
    refine .bind (.tt rfl hdb) (.ff ?_ ?_)
    · rw [size_B, hh, decide_eq_false (by omega)]; rfl
    · exact .ret (.to (ev_aread _ _ _ (pt_dg _ _) (by rw [List.length_append]; omega)) (rdR_bef h)) rfl
  · rw [decide_eq_false hz]
    refine .bind (x := false) (.ff rfl (.pure _)) (.ff rfl ?_)
    exact .ret (.to (ev_aread _ _ _ (pt_dg _ _) (by rw [List.length_append]; omega)) (rdR_bef h)) rfl

theorem ev_impBack {d : Int × Int} (h : okD d) (b c : Int) (hb : 0 ≤ b ∧ b ≤ 9) (hc : 1 ≤ c ∧ c ≤ 30) :
    (impV (sc d 9) b c).2 ≠ 0 ∨ ((impV (sc d 9) b c).2 = 0 ∧ ((impV (sc d 9) b c).1.size : Int) = c ∧ ∃ r, Ev (fun k => amount_ReadImplied k (impV (sc d 9) b c).1 b) r ∧ (r.2 = 1 ∨ (r.2 = 0 ∧ okD r.1 ∧ sc r.1 9 = sc d 9))) := by
  unfold impV
  by_cases hr : (sc d 9).natAbs % 10 ^ (9 - b).toNat ≠ 0
  · rw [if_pos hr]; left; decide
  rw [if_neg hr]
  have hdv : (sc d 9).natAbs / 10 ^ (9 - b).toNat * 10 ^ (9 - b).toNat = (sc d 9).natAbs := Nat.div_mul_cancel (Nat.dvd_of_mod_eq_zero (by omega))
  generalize (sc d 9).natAbs / 10 ^ (9 - b).toNat = q at hdv ⊢
  by_cases hg : c < (Lib.decDigits q).length + (if sc d 9 < 0 then 1 else 0)
  · rw [if_pos hg]; left; decide
  rw [if_neg hg]
  right
  have hdd := dec_all q
  have hdl := digB_len (dec_dig q).1
  generalize hz : c.toNat - (if sc d 9 < 0 then 1 else 0) - (Lib.decDigits q).length = z
  have hDd : ∀ x ∈ List.replicate z 48 ++ Lib.decDigits q, dgB x = true := fun x hx => by
    rcases List.mem_append.1 hx with hx | hx
    · rw [(List.mem_replicate.1 hx).2]; rfl
    · exact hdd x hx
  have hDv : dv (List.replicate z 48 ++ Lib.decDigits q) = q := by rw [dv_zeros, (dec_dig q).2]
  have hlen : ((if sc d 9 < 0 then [45] else ([] : List UInt8)).length + (List.replicate z 48 ++ Lib.decDigits q).length : Int) = c := by
    rw [List.length_append, List.length_replicate]
    by_cases hn : sc d 9 < 0
    · rw [if_pos hn] at hg hz; rw [if_pos hn]; simp only [List.length_singleton]; omega
    · rw [if_neg hn] at hg hz; rw [if_neg hn]; simp only [List.length_nil]; omega
  have hDne : 1 ≤ (List.replicate z 48 ++ Lib.decDigits q).length := by rw [List.length_append]; omega
  rw [List.append_assoc]
  generalize List.replicate z 48 ++ Lib.decDigits q = D at hDd hDv hlen hDne
  refine ⟨rfl, by simp only [size_B, List.length_append]; omega, ?_⟩
  have hcp := ev_CutPre (B ((if sc d 9 < 0 then [45] else []) ++ D))
  have hcc : cutP ((if sc d 9 < 0 then [45] else []) ++ D) = (D, decide (sc d 9 < 0)) := by
    unfold cutP
    by_cases hn : sc d 9 < 0
    · simp [hn]
    · cases D with
      | nil => simp at hDne
      | cons x t =>
        have h45 : x ≠ 45 := fun z => by have := hDd x (by simp); rw [z] at this; exact absurd this (by decide)
        simp [hn, h45]
  rw [L_B, hcc] at hcp
  have hk := ev_kDig (B D) (by rw [size_B]; omega)
  rw [L_B, digB_iff.2 ⟨fun z => by rw [z] at hDne; simp at hDne, hDd⟩] at hk
  have hrd := ev_aread false D [] (by simpa using hDd) (by simp; omega)
  have hrr : rdR false D [] = mk ((q : Nat) : Int) 0 := by unfold rdR; rw [if_neg (by decide), List.append_nil, hDv]; rfl
  rw [hrr] at hrd
  have hno : ¬ (((((if sc d 9 < 0 then [45] else []) ++ D : List UInt8).length : Nat) : Int) > 30) := by rw [List.length_append]; omega
  have start : ∀ r, Ev (fun k => cond ((mk ((q : Nat) : Int) 0).2 != 0) (some (((0, 0), (mk ((q : Nat) : Int) 0).2))) (cond (decide (sc d 9 < 0)) (some (((wi64 (0 - (mk ((q : Nat) : Int) 0).1.1)), b), 0)) (some (((mk ((q : Nat) : Int) 0).1.1, b), (0 : Int))))) r → Ev (fun k => amount_ReadImplied k (B ((if sc d 9 < 0 then [45] else []) ++ D)) b) r := by
    intro r hr'
    refine .step (fun k => amount_ReadImplied_eq k _ _) (.bind (ev_Outside b 0 9) ?_)
    rw [decide_eq_false (by omega)]
    refine .ff rfl (.bind hcp ?_)
    rw [size_B, decide_eq_false hno]
    refine .bind (.tt rfl hk) (.ff rfl (.bind hrd ?_))
    exact hr'
  by_cases hq : q ≤ 1000000000000000
  · have hmk : mk ((q : Nat) : Int) 0 = (((q : Int), 0), 0) := by unfold mk; rw [Int.natAbs_natCast, if_pos hq]
    rw [hmk] at start
    have hpow : ((10 ^ (9 - b).toNat : Nat) : Int) = (10 : Int) ^ (9 - b).toNat := by rw [Int.natCast_pow]; rfl
    by_cases hn : sc d 9 < 0
    · refine ⟨((-(q : Int), b), 0), start _ (.ff rfl (.tt (decide_eq_true hn) (.to (.pure _) ?_))), .inr ⟨rfl, ?_, ?_⟩⟩
      · show (((wi64 (0 - (q : Int)), b), (0 : Int))) = _; rw [wi64_id (by omega) (by omega)]; simp
      · unfold okD; simp only; omega
      · have e := congrArg (Nat.cast : Nat → Int) hdv
        rw [Int.natCast_mul, hpow] at e
        have e2 : (((sc d 9).natAbs : Nat) : Int) = -(sc d 9) := by omega
        show -(q : Int) * 10 ^ (9 - b).toNat = sc d 9
        rw [Int.neg_mul]
        omega
    · refine ⟨(((q : Int), b), 0), start _ (.ff rfl (.ff (decide_eq_false hn) (.pure _))), .inr ⟨rfl, ?_, ?_⟩⟩
      · unfold okD; simp only; omega
      · have e := congrArg (Nat.cast : Nat → Int) hdv
        rw [Int.natCast_mul, hpow] at e
        have e2 : (((sc d 9).natAbs : Nat) : Int) = sc d 9 := by omega
        show (q : Int) * 10 ^ (9 - b).toNat = sc d 9
        omega
  · have hmk : mk ((q : Nat) : Int) 0 = ((0, 0), 1) := by unfold mk; rw [Int.natAbs_natCast, if_neg hq]
    rw [hmk] at start
    exact ⟨((0, 0), 1), start _ (.tt rfl (.pure _)), .inl rfl⟩

theorem ev_back_c12 {d : Int × Int} (h : okD d) (b c : Int) (z : Int × Int) : Ev (fun k => interchangelaw1_AmountTextsComeBack_c12 k b c d z) true := by
  refine .step (fun k => interchangelaw1_AmountTextsComeBack_c12_eq k _ _ _ _) (.bind (ev_aImplied d b c) ?_)
  by_cases hbc : (0 ≤ b ∧ b ≤ 9) ∧ (1 ≤ c ∧ c ≤ 30)
  · rw [if_pos ⟨h, hbc⟩]
    rcases ev_impBack h b c hbc.1 hbc.2 with hi | ⟨h0, hs, r, hr, hr2⟩
    · exact .tt (by simpa using hi) (.pure _)
    · refine .ff (by simp [h0]) (.bind hr ?_)
      rcases hr2 with hr2 | ⟨r0, r1, r2⟩
      · exact .tt (by simp [hr2]) (.pure _)
      · refine .ff (by simp [r0]) (.bind (ev_aCompare r.1 d) (.to (.pure _) ?_))
        unfold cmpR
        rw [if_pos ⟨r1, h⟩, r2, hs]
        simp [r0]
  · rw [if_neg (fun q => hbc q.2)]
    exact .tt rfl (.pure _)
theorem ev_law_back (a : Int × Int) (b c d e : Int) (hd : 0 ≤ d) (he : 0 ≤ e) : Ev (fun k => interchangelaw1_AmountTextsComeBack k a b c d e) true := by
  refine .step (fun k => interchangelaw1_AmountTextsComeBack_eq k _ _ _ _ _) (.bind (ev_aText a) ?_)
  by_cases h : okD a
  · rw [if_pos h]
    refine .ff rfl (.bind (ev_readBack h) (.bind (.tt (by simp) ev_awake) (.ff (by simp) (.bind (ev_aGrouped a d e hd he) ?_))))
    rw [if_pos h]
    by_cases hm : d ≠ e ∧ mkOk d ∧ mkOk e
    · rw [if_pos hm]
      exact .tt rfl (.bind (ev_groupBack h d e hd he hm) (.ff (by simp) (ev_back_c12 h b c _)))
    · rw [if_neg hm]
      exact .ff rfl (ev_back_c12 h b c _)
  · rw [if_neg h]
    refine .tt rfl (.bind (.tt (eqS_self _) ev_awake) (.to (.pure _) ?_))
    simp [eqS_self]
end Go.Proofs.YtegiadfbniamkaaDoor.Eq
