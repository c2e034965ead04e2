/- What the functions of this law compute, part 1. -/
import Derived.Test.YtgoepklennckmaaGreatDoorRaEqB
import Derived.Lib.Strings
import Derived.Lib.ItoaNum
import Derived.Lib.Repeat
import Derived.Lib.SlTrimSet
namespace Go.Proofs.YtgoepklennckmaaGreatDoor.Eq
open Go Go.Ra
set_option linter.unusedVariables false

theorem dV (n : Nat) : Vb 4294967296 (digs 4294967296 n) = n := digs_V (b := 4294967296) (by decide) n
theorem dD (n : Nat) : Dg 4294967296 (digs 4294967296 n) := digs_dg (b := 4294967296) (by decide) n
theorem dE {l : List Int} (h : Dg 4294967296 l) (h2 : l.getLast? ≠ some 0) : l = digs 4294967296 (Vb 4294967296 l).toNat := digs_eq (b := 4294967296) (by decide) h h2

theorem pow_step (p d c b : Int) : p * d + p * b * c = p * (d + b * c) := by rw [Int.mul_add, Int.mul_assoc]

theorem ev_trimmed_c1 : ∀ (n : Nat) (l : List Int), l.length = n → n < 1099511627776 → Dg 4294967296 l → Ev (fun k => whole_trimmed_c1 k l) (digs 4294967296 (Vb 4294967296 l).toNat) := by
  intro n
  induction n with
  | zero =>
    intro l hl _ _
    have : l = [] := by simpa using hl
    subst this
    refine .step (fun k => whole_trimmed_c1_eq k _) (.tt (by simp) (.tt (by simp) (.ff (by simp) ?_)))
    exact .pure _
  | succ n ih =>
    intro l hl hn hd
    obtain ⟨m, x, rfl⟩ : ∃ m x, l = m ++ [x] := by
      rcases List.eq_nil_or_concat l with rfl | ⟨m, x, rfl⟩
      · simp at hl
      · exact ⟨m, x, by simp⟩
    have hm : m.length = n := by simpa using hl
    have e : wi64 (((m ++ [x]).length : Int) - 1) = (n : Int) := by
      rw [hl, wi64_id (by omega) (by omega)]
      omega
    refine .step (fun k => whole_trimmed_c1_eq k _) ?_
    rw [e, hl]
    have hg : (m ++ [x]).getD ((n : Int)).toNat 0 = x := by
      rw [Int.toNat_natCast, List.getD_eq_getElem?_getD, ← hm]
      simp
    have ht : (m ++ [x]).take ((n : Int)).toNat = m := by
      rw [Int.toNat_natCast, ← hm]
      simp
    rw [hg, ht]
    refine .tt (by simp) (.tt (by simp; omega) ?_)
    by_cases hx : x = 0
    · subst hx
      refine .tt (by simp) (.ck (by omega) (.ck (by omega) ?_))
      have := ih m hm (by omega) (fun y hy => hd y (by simp [hy]))
      rw [Vb_append, Vb_one, Int.mul_zero, Int.add_zero]
      exact this
    · refine .ff (by simp [hx]) ?_
      rw [← dE hd (by simpa using hx)]
      exact .pure _

theorem ev_trimmed (l : List Int) (hn : l.length < 1099511627776) (hd : Dg 4294967296 l) : Ev (fun k => whole_trimmed k l) (digs 4294967296 (Vb 4294967296 l).toNat) :=
  .step (fun k => whole_trimmed_eq k l) (ev_trimmed_c1 _ l rfl hn hd)

def W (n : Int) : Bool × List Int := (decide (n < 0), digs 4294967296 n.natAbs)

theorem digs_len_pos {b n : Nat} (hb : 2 ≤ b) : decide (((digs b n).length : Int) > 0) = decide (0 < n) := by
  rcases Nat.eq_zero_or_pos n with rfl | h
  · simp [digs_zero]
  · rw [digs_pos hb h]
    simp [h]

theorem ev_made (s : Bool) (l : List Int) (hn : l.length < 1099511627776) (hd : Dg 4294967296 l) : Ev (fun k => whole_made k s l) (W (cond s (-(Vb 4294967296 l)) (Vb 4294967296 l))) := by
  refine .step (fun k => whole_made_eq k s l) (.bind (ev_trimmed l hn hd) ?_)
  refine .to (.pure _) ?_
  have hv := Vb_nonneg (b := 4294967296) (by omega) hd
  generalize Vb 4294967296 l = v at *
  obtain ⟨m, rfl⟩ : ∃ m : Nat, v = m := ⟨v.toNat, by omega⟩
  unfold W
  rw [digs_len_pos (by omega)]
  cases s with
  | true => simp
  | false => simp

theorem W_neg (n : Int) : (W n).1 = decide (n < 0) := rfl
theorem W_dg (n : Int) : Dg 4294967296 (W n).2 := dD _
theorem W_V (n : Int) : Vb 4294967296 (W n).2 = n.natAbs := dV _

def Sm (n : Int) : Prop := n.natAbs < 4294967296 ^ 100
theorem Sm.len {n : Int} (h : Sm n) : (W n).2.length ≤ 100 := digs_len (by omega) 100 _ h
theorem Sm.of {n : Int} (h : n.natAbs ≤ 10 ^ 130) : Sm n := Nat.lt_of_le_of_lt h (by decide)

theorem ev_Of (n : Int) (h1 : -9223372036854775808 ≤ n) (h2 : n < 9223372036854775808) : Ev (fun k => whole_Of k n) (W n) := by
  refine .step (fun k => whole_Of_eq k n) ?_
  have key : ∀ (s : Bool) (u : Int), 0 ≤ u → u < 18446744073709551616 → Ev (fun k => whole_made k s [wu32 u, wu32 (shrI .u64 u 32)]) (W (cond s (-u) u)) := by
    intro s u hu hu2
    have h := ev_made s [wu32 u, wu32 (shrI .u64 u 32)] (by simp) (by
      rw [wu32_mod, wu32_mod]
      exact .mk (by omega) (by omega) (.mk (by omega) (by omega) .nil))
    have e : Vb 4294967296 [wu32 u, wu32 (shrI .u64 u 32)] = u := by
      rw [shr32, wu32_mod, wu32_mod]
      simp only [Vb]
      omega
    rw [e] at h
    exact h
  refine .dec (fun h => ?_) (fun h => ?_)
  · have e : wu64 (0 - wu64 n) = -n := by rw [wu64_mod, wu64_mod]; omega
    rw [e]
    have := key (decide (n < 0)) (-n) (by omega) (by omega)
    refine .ret this ?_
    simp [h]
  · have e : wu64 n = n := by rw [wu64_mod]; omega
    rw [e]
    refine .ret (key (decide (n < 0)) n (by omega) (by omega)) ?_
    simp [h]

theorem drop_cons {l : List Int} {i : Nat} (h : i < l.length) : l.drop i = l.getD i 0 :: l.drop (i + 1) := by
  rw [List.drop_eq_getElem_cons h, List.getD_eq_getElem?_getD, List.getElem?_eq_getElem h]
  rfl

theorem ev_sum_c6 (a b : List Int) (ha : Dg 4294967296 a) (hb : Dg 4294967296 b) (hl : b.length ≤ a.length) (hn : a.length < 1099511627776) : ∀ (m i : Nat) (out : List Int) (c : Int), a.length - i = m → i ≤ a.length → out.length = i → Dg 4294967296 out → 0 ≤ c → c ≤ 1 →
    ∃ s, Ev (fun k => whole_sum_c6 k b out c a (a.length : Int) (i : Int)) s ∧ Dg 4294967296 s ∧ s.length = a.length + 1 ∧ Vb 4294967296 s = Vb 4294967296 out + 4294967296 ^ i * (c + Vb 4294967296 (a.drop i) + Vb 4294967296 (b.drop i)) := by
  intro m
  induction m with
  | zero =>
    intro i out c hm hi ho hd hc hc1
    have hi' : i = a.length := by omega
    subst hi'
    refine ⟨out ++ [wu32 c], ?_, ?_, by simp [ho], ?_⟩
    · refine .step (fun k => whole_sum_c6_eq k _ _ _ _ _ _) (.nk (by omega) (.ck (by omega) (.pure _)))
    · rw [wu32_id (by omega) (by omega)]
      exact hd.append (.mk hc (by omega) .nil)
    · rw [wu32_id (by omega) (by omega), Vb_append, Vb_one, ho, List.drop_length, List.drop_of_length_le hl]
      simp [Vb]
  | succ m ih =>
    intro i out c hm hi ho hd hc hc1
    have hlt : i < a.length := by omega
    have hx := ha.at (by omega) i
    have hti : ((i : Int)).toNat = i := Int.toNat_natCast i
    have e1 : wi64 ((i : Int) + 1) = ((i + 1 : Nat) : Int) := by rw [wi64_id (by omega) (by omega)]; rfl
    rw [drop_cons hlt]
    generalize hxe : a.getD i 0 = x at *
    by_cases hb2 : i < b.length
    · have hy := hb.at (by omega) i
      rw [drop_cons hb2]
      generalize hye : b.getD i 0 = y at *
      have et : wu64 (wu64 (c + wu64 x) + wu64 y) = c + x + y := by
        rw [wu64_id (x := x) (by omega) (by omega), wu64_id (x := c + x) (by omega) (by omega), wu64_id (x := y) (by omega) (by omega), wu64_id (by omega) (by omega)]
      obtain ⟨s, q1, q2, q3, q4⟩ := ih (i + 1) (out ++ [(c + x + y) % 4294967296]) ((c + x + y) / 4294967296) (by omega) (by omega) (by simp [ho]) (hd.append (.mk (by omega) (by omega) .nil)) (by omega) (by omega)
      refine ⟨s, ?_, q2, q3, ?_⟩
      · refine .step (fun k => whole_sum_c6_eq k _ _ _ _ _ _) (.ck (by omega) (.ck (by omega) (.ck (by omega) (.ck (by omega) (.ck (by omega) (.ck (by omega) (.ck (by omega) ?_)))))))
        rw [hti, hxe, hye, et, shr32, wu32_mod, e1]
        exact q1
      · rw [q4, Vb_append, Vb_one, ho, Int.pow_succ]
        simp only [Vb]
        rw [Int.add_assoc, pow_step]
        congr 2
        omega
    · have et : wu64 (c + wu64 x) = c + x := by
        rw [wu64_id (x := x) (by omega) (by omega), wu64_id (x := c + x) (by omega) (by omega)]
      rw [List.drop_of_length_le (show b.length ≤ i by omega)]
      obtain ⟨s, q1, q2, q3, q4⟩ := ih (i + 1) (out ++ [(c + x) % 4294967296]) ((c + x) / 4294967296) (by omega) (by omega) (by simp [ho]) (hd.append (.mk (by omega) (by omega) .nil)) (by omega) (by omega)
      refine ⟨s, ?_, q2, q3, ?_⟩
      · refine .step (fun k => whole_sum_c6_eq k _ _ _ _ _ _) (.ck (by omega) (.ck (by omega) (.ck (by omega) (.nk (by omega) (.ck (by omega) ?_)))))
        rw [hti, hxe, et, shr32, wu32_mod, e1]
        exact q1
      · rw [q4, Vb_append, Vb_one, ho, Int.pow_succ, List.drop_of_length_le (show b.length ≤ i + 1 by omega)]
        simp only [Vb]
        rw [Int.add_assoc, pow_step]
        congr 2
        omega

theorem ev_sum_c3 (a b : List Int) (ha : Dg 4294967296 a) (hb : Dg 4294967296 b) (hl : b.length ≤ a.length) (hn : a.length < 549755813888) :
    ∃ s, Ev (fun k => whole_sum_c3 k a b) s ∧ Dg 4294967296 s ∧ s.length = a.length + 1 ∧ Vb 4294967296 s = Vb 4294967296 a + Vb 4294967296 b := by
  obtain ⟨s, q1, q2, q3, q4⟩ := ev_sum_c6 a b ha hb hl (by omega) _ 0 [] 0 rfl (by omega) rfl .nil (by omega) (by omega)
  refine ⟨s, ?_, q2, q3, ?_⟩
  · have e : wi64 ((a.length : Int) + 1) = (a.length : Int) + 1 := wi64_id (by omega) (by omega)
    refine .step (fun k => whole_sum_c3_eq k _ _) ?_
    rw [e]
    exact .ck (by omega) (.ck (by omega) q1)
  · rw [q4]
    simp [Vb]

theorem ev_sum (a b : List Int) (ha : Dg 4294967296 a) (hb : Dg 4294967296 b) (h1 : a.length < 549755813888) (h2 : b.length < 549755813888) :
    ∃ s, Ev (fun k => whole_sum k a b) s ∧ Dg 4294967296 s ∧ s.length = max a.length b.length + 1 ∧ Vb 4294967296 s = Vb 4294967296 a + Vb 4294967296 b := by
  by_cases h : a.length < b.length
  · obtain ⟨s, q1, q2, q3, q4⟩ := ev_sum_c3 b a hb ha (by omega) h2
    exact ⟨s, .step (fun k => whole_sum_eq k a b) (.ck (by omega) q1), q2, by omega, by omega⟩
  · obtain ⟨s, q1, q2, q3, q4⟩ := ev_sum_c3 a b ha hb (by omega) h1
    exact ⟨s, .step (fun k => whole_sum_eq k a b) (.nk (by omega) q1), q2, by omega, q4⟩

theorem ev_compare_c4 (a b : List Int) (ha : Dg 4294967296 a) (hb : Dg 4294967296 b) (hl : a.length = b.length) (hn : a.length < 1099511627776) : ∀ n : Nat, n ≤ a.length → a.drop n = b.drop n →
    ∃ r, Ev (fun k => whole_compare_c4 k a b ((n : Int) - 1)) r ∧ (0 ≤ r ↔ Vb 4294967296 b ≤ Vb 4294967296 a) := by
  intro n
  induction n with
  | zero =>
    intro _ he
    refine ⟨0, .step (fun k => whole_compare_c4_eq k _ _ _) (.nk (by omega) (.pure _)), ?_⟩
    have : a = b := by simpa using he
    subst this
    simp
  | succ n ih =>
    intro hle he
    have hlt : n < a.length := by omega
    have hx := ha.at (by omega) n
    have hy := hb.at (by omega) n
    have e0 : (((n + 1 : Nat) : Int) - 1) = (n : Int) := by omega
    have hti : ((n : Int)).toNat = n := Int.toNat_natCast n
    have e1 : wi64 ((n : Int) - 1) = (n : Int) - 1 := wi64_id (by omega) (by omega)
    have va : Vb 4294967296 a = Vb 4294967296 (a.take n) + 4294967296 ^ n * (a.getD n 0 + 4294967296 * Vb 4294967296 (a.drop (n + 1))) := by
      have h := Vb_append 4294967296 (a.take n) (a.drop n)
      rw [List.take_append_drop, drop_cons hlt, List.length_take, Nat.min_eq_left (by omega)] at h
      simpa only [Vb] using h
    have vb : Vb 4294967296 b = Vb 4294967296 (b.take n) + 4294967296 ^ n * (b.getD n 0 + 4294967296 * Vb 4294967296 (b.drop (n + 1))) := by
      have h := Vb_append 4294967296 (b.take n) (b.drop n)
      rw [List.take_append_drop, drop_cons (show n < b.length by omega), List.length_take, Nat.min_eq_left (by omega)] at h
      simpa only [Vb] using h
    have ta := Vb_lt (b := 4294967296) (by omega) (ha.take n)
    have tb := Vb_lt (b := 4294967296) (by omega) (hb.take n)
    have na := Vb_nonneg (b := 4294967296) (by omega) (ha.take n)
    have nb := Vb_nonneg (b := 4294967296) (by omega) (hb.take n)
    rw [List.length_take, Nat.min_eq_left (by omega)] at ta tb
    rw [he] at va
    rw [e0]
    generalize hxe : a.getD n 0 = x at *
    generalize hye : b.getD n 0 = y at *
    have cmp : ∀ u v : Int, u < v → Vb 4294967296 (a.take n) + 4294967296 ^ n * (u + 4294967296 * Vb 4294967296 (b.drop (n + 1))) < 4294967296 ^ n * (v + 4294967296 * Vb 4294967296 (b.drop (n + 1))) := by
      intro u v huv
      have : (4294967296 : Int) ^ n * (u + 4294967296 * Vb 4294967296 (b.drop (n + 1)) + 1) ≤ 4294967296 ^ n * (v + 4294967296 * Vb 4294967296 (b.drop (n + 1))) := Int.mul_le_mul_of_nonneg_left (by omega) (by omega)
      rw [Int.mul_add _ (u + _) 1] at this
      omega
    have cmp' : ∀ u v : Int, u < v → Vb 4294967296 (b.take n) + 4294967296 ^ n * (u + 4294967296 * Vb 4294967296 (b.drop (n + 1))) < 4294967296 ^ n * (v + 4294967296 * Vb 4294967296 (b.drop (n + 1))) := by
      intro u v huv
      have : (4294967296 : Int) ^ n * (u + 4294967296 * Vb 4294967296 (b.drop (n + 1)) + 1) ≤ 4294967296 ^ n * (v + 4294967296 * Vb 4294967296 (b.drop (n + 1))) := Int.mul_le_mul_of_nonneg_left (by omega) (by omega)
      rw [Int.mul_add _ (u + _) 1] at this
      omega
    by_cases hxy : x = y
    · subst hxy
      obtain ⟨r, q1, q2⟩ := ih (by omega) (by rw [drop_cons hlt, drop_cons (show n < b.length by omega), hxe, hye, he])
      refine ⟨r, ?_, q2⟩
      refine .step (fun k => whole_compare_c4_eq k _ _ _) (.ck (by omega) (.ck (by omega) (.ck (by omega) (.ck (by omega) (.ck (by omega) (.ff (by rw [hti, hxe, hye]; simp) ?_))))))
      rw [e1]
      exact q1
    · have pre : ∀ r, Ev (fun k => Bool.rec (some (1 : Int)) (some (-1)) (decide (x < y))) r → Ev (fun k => whole_compare_c4 k a b (n : Int)) r := by
        intro r hr
        refine .step (fun k => whole_compare_c4_eq k _ _ _) (.ck (by omega) (.ck (by omega) (.ck (by omega) (.ck (by omega) (.ck (by omega) (.tt (by rw [hti, hxe, hye]; simpa using hxy) (.ck (by omega) (.ck (by omega) (.ck (by omega) (.ck (by omega) ?_))))))))))
        rw [hti, hxe, hye]
        refine .dec (fun h => ?_) (fun h => ?_)
        · simpa [h] using hr
        · simpa [h] using hr
      by_cases h : x < y
      · refine ⟨-1, pre _ (by simp [h]; exact .pure _), ?_⟩
        have := cmp x y h
        constructor
        · omega
        · omega
      · refine ⟨1, pre _ (by simp [h]; exact .pure _), ?_⟩
        have := cmp' y x (by omega)
        constructor
        · omega
        · omega

theorem ev_compare (a b : Nat) (ha : (digs 4294967296 a).length < 1099511627776) (hb : (digs 4294967296 b).length < 1099511627776) :
    ∃ r, Ev (fun k => whole_compare k (digs 4294967296 a) (digs 4294967296 b)) r ∧ (0 ≤ r ↔ b ≤ a) := by
  by_cases h : (digs 4294967296 a).length = (digs 4294967296 b).length
  · obtain ⟨r, q1, q2⟩ := ev_compare_c4 _ _ (dD a) (dD b) h ha (digs 4294967296 a).length (Nat.le_refl _) (by rw [List.drop_length, h, List.drop_length])
    refine ⟨r, .step (fun k => whole_compare_eq k _ _) (.ff (by simp [h]) ?_), ?_⟩
    · rw [wi64_id (by omega) (by omega)]
      exact q1
    · rw [q2, dV, dV]
      omega
  · refine ⟨_, .step (fun k => whole_compare_eq k _ _) (.tt (by simp; omega) (.pure _)), ?_⟩
    rw [wi64_id (by omega) (by omega)]
    rcases Nat.lt_or_ge (digs 4294967296 a).length (digs 4294967296 b).length with z | z
    · have := digs_lt_of_len (b := 4294967296) (by decide) z
      omega
    · have := digs_lt_of_len (b := 4294967296) (by decide) (show (digs 4294967296 b).length < (digs 4294967296 a).length by omega)
      omega

theorem ev_less_c4 (a b : List Int) (ha : Dg 4294967296 a) (hb : Dg 4294967296 b) (hl : b.length ≤ a.length) (hn : a.length < 549755813888) : ∀ (m i : Nat) (out : List Int) (c : Int), a.length - i = m → i ≤ a.length → out.length = i → Dg 4294967296 out → 0 ≤ c → c ≤ 1 →
    0 ≤ Vb 4294967296 out + 4294967296 ^ i * (Vb 4294967296 (a.drop i) - Vb 4294967296 (b.drop i) - c) →
    Ev (fun k => whole_less_c4 k b out c a (a.length : Int) (i : Int)) (digs 4294967296 (Vb 4294967296 out + 4294967296 ^ i * (Vb 4294967296 (a.drop i) - Vb 4294967296 (b.drop i) - c)).toNat) := by
  intro m
  induction m with
  | zero =>
    intro i out c hm hi ho hd hc hc1 hp
    have hi' : i = a.length := by omega
    subst hi'
    rw [List.drop_length, List.drop_of_length_le hl] at hp ⊢
    simp only [Vb] at hp ⊢
    have hc0 : c = 0 := by
      have h1 := Vb_lt (b := 4294967296) (by omega) hd
      rw [ho] at h1
      rcases (show c = 0 ∨ c = 1 by omega) with h | h
      · exact h
      · subst h
        exfalso
        rw [show (0 - 0 - 1 : Int) = -1 by omega, Int.mul_neg, Int.mul_one] at hp
        omega
    subst hc0
    refine .step (fun k => whole_less_c4_eq k _ _ _ _ _ _) (.nk (by omega) ?_)
    refine .ret (ev_trimmed out (by omega) hd) ?_
    simp
  | succ m ih =>
    intro i out c hm hi ho hd hc hc1 hp
    have hlt : i < a.length := by omega
    have hx := ha.at (by omega) i
    have hti : ((i : Int)).toNat = i := Int.toNat_natCast i
    have e1 : wi64 ((i : Int) + 1) = ((i + 1 : Nat) : Int) := by rw [wi64_id (by omega) (by omega)]; rfl
    have bor : ∀ t : Int, -4294967296 ≤ t → t < 4294967296 → bitsI .and .u64 (shrI .u64 (t % 18446744073709551616) 32) 1 = (if t < 0 then 1 else 0) ∧ wu32 (t % 18446744073709551616) = t + 4294967296 * (if t < 0 then 1 else 0) := by
      intro t h1 h2
      rw [shr32, and1 rfl (by decide) (by omega) (by simp [IntKind.bits]; omega), wu32_mod]
      split <;> omega
    rw [drop_cons hlt] at hp ⊢
    generalize hxe : a.getD i 0 = x at *
    by_cases hb2 : i < b.length
    · have hy := hb.at (by omega) i
      rw [drop_cons hb2] at hp ⊢
      generalize hye : b.getD i 0 = y at *
      obtain ⟨b1, b2⟩ := bor (x - c - y) (by omega) (by omega)
      have et : wu64 (wu64 (wu64 x - c) - wu64 y) = (x - c - y) % 18446744073709551616 := by
        rw [wu64_id (x := x) (by omega) (by omega), wu64_id (x := y) (by omega) (by omega), wu64_mod, wu64_mod]
        omega
      have hval : Vb 4294967296 (out ++ [x - c - y + 4294967296 * (if x - c - y < 0 then 1 else 0)]) + 4294967296 ^ (i + 1) * (Vb 4294967296 (a.drop (i + 1)) - Vb 4294967296 (b.drop (i + 1)) - (if x - c - y < 0 then 1 else 0)) = Vb 4294967296 out + 4294967296 ^ i * (Vb 4294967296 (x :: a.drop (i + 1)) - Vb 4294967296 (y :: b.drop (i + 1)) - c) := by
        rw [Vb_append, Vb_one, ho, Int.pow_succ]
        simp only [Vb]
        rw [Int.add_assoc, pow_step]
        congr 2
        omega
      rw [← hval] at hp ⊢
      refine .step (fun k => whole_less_c4_eq k _ _ _ _ _ _) (.ck (by omega) (.ck (by omega) (.ck (by omega) (.ck (by omega) (.ck (by omega) (.ck (by omega) (.ck (by omega) ?_)))))))
      rw [hti, hxe, hye, et, b1, b2, e1]
      exact ih (i + 1) _ _ (by omega) (by omega) (by simp [ho]) (hd.append (.mk (by split <;> omega) (by split <;> omega) .nil)) (by split <;> omega) (by split <;> omega) hp
    · obtain ⟨b1, b2⟩ := bor (x - c) (by omega) (by omega)
      have et : wu64 (wu64 x - c) = (x - c) % 18446744073709551616 := by
        rw [wu64_id (x := x) (by omega) (by omega), wu64_mod]
      rw [List.drop_of_length_le (show b.length ≤ i by omega)] at hp ⊢
      have hval : Vb 4294967296 (out ++ [x - c + 4294967296 * (if x - c < 0 then 1 else 0)]) + 4294967296 ^ (i + 1) * (Vb 4294967296 (a.drop (i + 1)) - Vb 4294967296 (b.drop (i + 1)) - (if x - c < 0 then 1 else 0)) = Vb 4294967296 out + 4294967296 ^ i * (Vb 4294967296 (x :: a.drop (i + 1)) - Vb 4294967296 [] - c) := by
        rw [Vb_append, Vb_one, ho, Int.pow_succ, List.drop_of_length_le (show b.length ≤ i + 1 by omega)]
        simp only [Vb]
        rw [Int.add_assoc, pow_step]
        congr 2
        omega
      rw [← hval] at hp ⊢
      refine .step (fun k => whole_less_c4_eq k _ _ _ _ _ _) (.ck (by omega) (.ck (by omega) (.ck (by omega) (.nk (by omega) (.ck (by omega) ?_)))))
      rw [hti, hxe, et, b1, b2, e1]
      exact ih (i + 1) _ _ (by omega) (by omega) (by simp [ho]) (hd.append (.mk (by split <;> omega) (by split <;> omega) .nil)) (by split <;> omega) (by split <;> omega) hp

theorem ev_less (a b : Nat) (ha : (digs 4294967296 a).length < 549755813888) (h : b ≤ a) : Ev (fun k => whole_less k (digs 4294967296 a) (digs 4294967296 b)) (digs 4294967296 (a - b)) := by
  have hl : (digs 4294967296 b).length ≤ (digs 4294967296 a).length := by
    rcases Nat.lt_or_ge (digs 4294967296 a).length (digs 4294967296 b).length with z | z
    · have := digs_lt_of_len (b := 4294967296) (by decide) z
      omega
    · exact z
  have := ev_less_c4 _ _ (dD a) (dD b) hl ha _ 0 [] 0 rfl (by omega) rfl .nil (by omega) (by omega) (by simp [Vb, dV]; omega)
  refine .step (fun k => whole_less_eq k _ _) (.ck (by omega) (.ck (by omega) (.to this ?_)))
  simp only [List.drop_zero, dV, Vb]
  congr 1
  simp

theorem ev_made_digs (s : Bool) (n : Nat) (hn : (digs 4294967296 n).length < 1099511627776) : Ev (fun k => whole_made k s (digs 4294967296 n)) (W (cond s (-(n : Int)) n)) := by
  have := ev_made s _ hn (dD n)
  rwa [dV] at this

theorem ev_Plus (a b : Int) (ha : Sm a) (hb : Sm b) : Ev (fun k => whole_Int_Plus k (W a) (W b)) (W (a + b)) := by
  have la := ha.len
  have lb := hb.len
  refine .step (fun k => whole_Int_Plus_eq k _ _) ?_
  by_cases hs : decide (a < 0) = decide (b < 0)
  · refine .tt (by simpa [W] using hs) ?_
    obtain ⟨s, q1, q2, q3, q4⟩ := ev_sum (W a).2 (W b).2 (W_dg a) (W_dg b) (by omega) (by omega)
    refine .bind q1 (.ret (ev_made (W a).1 s (by omega) q2) ?_)
    rw [q4, W_V, W_V, W_neg]
    congr 1
    have hs' : a < 0 ↔ b < 0 := by simpa using hs
    by_cases h0 : a < 0
    · have := hs'.1 h0
      simp [h0]
      omega
    · have : ¬ b < 0 := fun z => h0 (hs'.2 z)
      simp [h0]
      omega
  · refine .ff (by simpa [W] using hs) ?_
    obtain ⟨r, q1, q2⟩ := ev_compare a.natAbs b.natAbs (show (W a).2.length < _ by omega) (show (W b).2.length < _ by omega)
    have hs' : ¬ (a < 0 ↔ b < 0) := by simpa using hs
    refine .bind q1 (.dec (fun h => ?_) (fun h => ?_))
    · have hba := q2.1 h
      refine .bind (ev_less a.natAbs b.natAbs (show (W a).2.length < _ by omega) hba) (.ret (ev_made_digs (W a).1 _ ?_) ?_)
      · have h1 : a.natAbs < 4294967296 ^ 100 := ha
        have := digs_len (b := 4294967296) (by decide) 100 (a.natAbs - b.natAbs) (by omega)
        omega
      · rw [W_neg]
        congr 1
        by_cases h0 : a < 0
        · simp [h0]
          omega
        · simp [h0]
          omega
    · have hba : a.natAbs < b.natAbs := by
        rcases Nat.lt_or_ge a.natAbs b.natAbs with z | z
        · exact z
        · exact absurd (q2.2 z) h
      refine .bind (ev_less b.natAbs a.natAbs (show (W b).2.length < _ by omega) (by omega)) (.ret (ev_made_digs (W b).1 _ ?_) ?_)
      · have h1 : b.natAbs < 4294967296 ^ 100 := hb
        have := digs_len (b := 4294967296) (by decide) 100 (b.natAbs - a.natAbs) (by omega)
        omega
      · rw [W_neg]
        congr 1
        by_cases h0 : b < 0
        · simp [h0]
          omega
        · simp [h0]
          omega

theorem ev_Minus (a : Int) (ha : Sm a) : Ev (fun k => whole_Int_Minus k (W a)) (W (-a)) := by
  have la := ha.len
  refine .step (fun k => whole_Int_Minus_eq k _) (.ret (ev_made_digs (!(W a).1) a.natAbs (show (W a).2.length < _ by omega)) ?_)
  rw [W_neg]
  congr 1
  by_cases h0 : a < 0
  · simp [h0]
    omega
  · simp [h0]
    omega
theorem ev_Abs (a : Int) (ha : Sm a) : Ev (fun k => whole_Int_Abs k (W a)) (W a.natAbs) := by
  have la := ha.len
  exact .step (fun k => whole_Int_Abs_eq k _) (.ret (ev_made_digs false a.natAbs (show (W a).2.length < _ by omega)) rfl)
theorem Sm.neg {a : Int} (h : Sm a) : Sm (-a) := by unfold Sm at *; omega
theorem ev_Less (a b : Int) (ha : Sm a) (hb : Sm b) : Ev (fun k => whole_Int_Less k (W a) (W b)) (W (a - b)) :=
  .step (fun k => whole_Int_Less_eq k _ _) (.bind (ev_Minus b hb) (.ret (ev_Plus a (-b) ha hb.neg) (by rw [Int.sub_eq_add_neg])))
theorem ev_Sign (a : Int) : Ev (fun k => whole_Int_Sign k (W a)) a.sign := by
  refine .step (fun k => whole_Int_Sign_eq k _) ?_
  by_cases h0 : a < 0
  · exact .tt (by simpa [W] using h0) (.to (.pure _) (Int.sign_eq_neg_one_of_neg h0).symm)
  · refine .ff (by simpa [W] using h0) ?_
    by_cases hz : a = 0
    · subst hz
      exact .tt (by simp [W, digs_zero]) (.pure _)
    · refine .ff ?_ (.to (.pure _) (Int.sign_eq_one_of_pos (by omega)).symm)
      have := digs_ne (b := 4294967296) (n := a.natAbs) (by decide) (by omega)
      simpa [W] using this
theorem ev_Compare (a b : Int) (ha : Sm a) (hb : Sm b) : Ev (fun k => whole_Int_Compare k (W a) (W b)) (a - b).sign :=
  .step (fun k => whole_Int_Compare_eq k _ _) (.bind (ev_Less a b ha hb) (.ret (ev_Sign _) rfl))

theorem digs_one {n : Nat} (h : 0 < n) (h2 : n < 4294967296) : digs 4294967296 n = [(n : Int)] := by
  rw [digs_pos (by decide) h, Nat.mod_eq_of_lt h2, Nat.div_eq_of_lt h2]
  rfl
theorem digs_two {n : Nat} (h : 4294967296 ≤ n) (h2 : n < 18446744073709551616) : digs 4294967296 n = [((n % 4294967296 : Nat) : Int), ((n / 4294967296 : Nat) : Int)] := by
  rw [digs_pos (by decide) (by omega), digs_one (Nat.div_pos h (by omega)) (by omega)]

theorem ev_Int_c5 (most v : Int) (s2 : Bool × List Int) (l : List Int) (hm : 0 ≤ most) (hm2 : most < 4611686018427387904) (hv : 0 ≤ v) (hv2 : v < 18446744073709551616) :
    Ev (fun k => whole_Int_Int_c5 k most s2 v l (l.length : Int) (l.length : Int)) (if v ≤ most then (cond s2.1 (-v) v, true) else (0, false)) := by
  refine .step (fun k => whole_Int_Int_c5_eq k _ _ _ _ _ _) (.nk (by omega) ?_)
  rw [wu64_id (x := most) hm (by omega)]
  refine .dec (fun h => .to (.pure _) (by rw [if_neg (by omega)])) (fun h => ?_)
  rw [if_pos (by omega)]
  rw [wi64_id (x := v) (by omega) (by omega), wi64_id (x := 0 - v) (by omega) (by omega)]
  refine .cond (fun h => .to (.pure _) (by rw [h]; simp)) (fun h => .to (.pure _) (by rw [h]; simp))

theorem shl_id {x i : Int} (n : Nat) (hi : i = n) (hn : n ≤ 64) (hx : 0 ≤ x) (h : x * 2 ^ n < 18446744073709551616) : shlI .u64 x i = x * 2 ^ n := by
  subst hi
  show wu64 (x * 2 ^ (min ((n : Int)).toNat 64)) = _
  rw [Int.toNat_natCast, Nat.min_eq_left hn]
  exact wu64_id (Int.mul_nonneg hx (Int.pow_nonneg (by omega))) h

theorem ev_Int (a most : Int) (hm : 0 ≤ most) (hm2 : most < 4611686018427387904) : Ev (fun k => whole_Int_Int k (W a) most) (if a.natAbs ≤ most then (a, true) else (0, false)) := by
  have fin : ∀ v : Int, v = a.natAbs → (if v ≤ most then (cond (W a).1 (-v) v, true) else (0, false)) = (if (a.natAbs : Int) ≤ most then (a, true) else (0, false)) := by
    intro v hv
    subst hv
    have : cond (W a).1 (-(a.natAbs : Int)) (a.natAbs : Int) = a := by
      rw [W_neg]
      by_cases h : a < 0
      · simp [h]; omega
      · simp [h]; omega
    rw [this]
  rcases Nat.eq_zero_or_pos a.natAbs with h0 | h0
  · have hd : (W a).2 = [] := by show digs _ _ = _; rw [h0]; rfl
    refine .step (fun k => whole_Int_Int_eq k _ _) (.nk (by rw [hd]; simp) ?_)
    rw [hd]
    refine .to (ev_Int_c5 most 0 (W a) [] hm hm2 (by omega) (by omega)) (fin 0 (by omega))
  · rcases Nat.lt_or_ge a.natAbs 4294967296 with h1 | h1
    · have hd : (W a).2 = [(a.natAbs : Int)] := digs_one h0 h1
      refine .step (fun k => whole_Int_Int_eq k _ _) (.nk (by rw [hd]; simp) ?_)
      rw [hd]
      have e0 : wi64 (32 * 0) = 0 := wi64_id (by omega) (by omega)
      refine .step (fun k => whole_Int_Int_c5_eq k _ _ _ _ _ _) (.ck (by simp) (.ck (by omega) (.ck (by simp) ?_)))
      rw [e0]
      refine .ck (by omega) ?_
      have e1 : bitsI .or .u64 0 (shlI .u64 (wu64 ([(a.natAbs : Int)].getD (0 : Int).toNat 0)) 0) = (a.natAbs : Int) := by
        show bitsI .or .u64 0 (shlI .u64 (wu64 (a.natAbs : Int)) 0) = _
        rw [wu64_id (by omega) (by omega), shl_id (i := 0) 0 (by rfl) (by omega) (by omega) (by simp; omega)]
        have := or_add (k := .u64) (x := 0) (y := (a.natAbs : Int)) (i := 64) rfl (by omega) (by omega) (by simp [IntKind.bits]; omega) (by simp; omega)
        simpa using this
      have e2 : wi64 (0 + 1) = (([(a.natAbs : Int)].length : Nat) : Int) := wi64_id (by omega) (by omega)
      rw [e1, e2]
      exact .to (ev_Int_c5 most _ (W a) _ hm hm2 (by omega) (by omega)) (fin _ rfl)
    · rcases Nat.lt_or_ge a.natAbs 18446744073709551616 with h2 | h2
      · have hd : (W a).2 = [((a.natAbs % 4294967296 : Nat) : Int), ((a.natAbs / 4294967296 : Nat) : Int)] := digs_two h1 h2
        refine .step (fun k => whole_Int_Int_eq k _ _) (.nk (by rw [hd]; simp) ?_)
        rw [hd]
        generalize hx : a.natAbs % 4294967296 = x
        generalize hy : a.natAbs / 4294967296 = y
        have e0 : wi64 (32 * 0) = 0 := wi64_id (by omega) (by omega)
        refine .step (fun k => whole_Int_Int_c5_eq k _ _ _ _ _ _) (.ck (by simp) (.ck (by omega) (.ck (by simp) ?_)))
        rw [e0]
        refine .ck (by omega) ?_
        have e1 : bitsI .or .u64 0 (shlI .u64 (wu64 ([(x : Int), (y : Int)].getD (0 : Int).toNat 0)) 0) = (x : Int) := by
          show bitsI .or .u64 0 (shlI .u64 (wu64 (x : Int)) 0) = _
          rw [wu64_id (by omega) (by omega), shl_id (i := 0) 0 (by rfl) (by omega) (by omega) (by simp; omega)]
          have := or_add (k := .u64) (x := 0) (y := (x : Int)) (i := 64) rfl (by omega) (by omega) (by simp [IntKind.bits]; omega) (by simp; omega)
          simpa using this
        have e2 : wi64 (0 + 1) = 1 := wi64_id (by omega) (by omega)
        rw [e1, e2]
        have e3 : wi64 (32 * 1) = 32 := wi64_id (by omega) (by omega)
        refine .step (fun k => whole_Int_Int_c5_eq k _ _ _ _ _ _) (.ck (by simp) (.ck (by omega) (.ck (by simp) ?_)))
        rw [e3]
        refine .ck (by omega) ?_
        have e4 : bitsI .or .u64 (x : Int) (shlI .u64 (wu64 ([(x : Int), (y : Int)].getD (1 : Int).toNat 0)) 32) = (a.natAbs : Int) := by
          show bitsI .or .u64 (x : Int) (shlI .u64 (wu64 (y : Int)) 32) = _
          rw [wu64_id (by omega) (by omega), shl_id (i := 32) 32 (by rfl) (by omega) (by omega) (by omega)]
          have := or_add (k := .u64) (x := (y : Int)) (y := (x : Int)) (i := 32) rfl (by omega) (by omega) (by simp [IntKind.bits]; omega) (by simp; omega)
          rw [bits_or rfl (by omega) (by simp [IntKind.bits]; omega) (by omega) (by simp [IntKind.bits]; omega), Nat.or_comm, ← bits_or (k := .u64) rfl (by omega) (by simp [IntKind.bits]; omega) (by omega) (by simp [IntKind.bits]; omega), this]
          omega
        have e5 : wi64 (1 + 1) = (([(x : Int), (y : Int)].length : Nat) : Int) := wi64_id (by omega) (by omega)
        rw [e4, e5]
        exact .to (ev_Int_c5 most _ (W a) _ hm hm2 (by omega) (by omega)) (fin _ rfl)
      · have hl : 2 < (W a).2.length := digs_len_ge (b := 4294967296) (by decide) (m := 2) h2
        exact .step (fun k => whole_Int_Int_eq k _ _) (.ck (by omega) (.to (.pure _) (by rw [if_neg (by omega)])))

theorem ev_Times_c7 (a b : Bool × List Int) (s4 : Bool × List Int) (hb : Dg 4294967296 b.2) (x : Int) (hx : 0 ≤ x) (hx2 : x < 4294967296) (i : Nat) (hlen : i + b.2.length < 1099511627776) (s20 : List Int) (s21 s22 : Int) : ∀ (m j : Nat) (out : List Int) (c : Int), b.2.length - j = m → j ≤ b.2.length → i + b.2.length < out.length → Dg 4294967296 out → 0 ≤ c → c < 4294967296 → (∀ p, i + b.2.length ≤ p → out.getD p 0 = 0) →
    ∃ out2, out2.length = out.length ∧ Dg 4294967296 out2 ∧ (∀ p, i + b.2.length + 1 ≤ p → out2.getD p 0 = 0) ∧ Vb 4294967296 out2 = Vb 4294967296 out + 4294967296 ^ (i + j) * (c + x * Vb 4294967296 (b.2.drop j)) ∧
      ∀ y, Ev (fun k => whole_Int_Times_c3 k a b s4 out2 s20 s21 (wi64 (s22 + 1))) y → Ev (fun k => whole_Int_Times_c7 k a b s4 out (i : Int) x c s20 s21 s22 b.2 (b.2.length : Int) (j : Int)) y := by
  intro m
  induction m with
  | zero =>
    intro j out c hm hj hol hd hc hc2 hz
    have hj' : j = b.2.length := by omega
    subst hj'
    have e1 : wi64 ((i : Int) + (b.2.length : Int)) = ((i + b.2.length : Nat) : Int) := by rw [wi64_id (by omega) (by omega)]; rfl
    refine ⟨out.set (i + b.2.length) (wu32 c), by simp, ?_, fun p hp => ?_, ?_, fun y hy => ?_⟩
    · rw [wu32_id hc hc2]
      exact hd.set _ hc hc2
    · rw [List.getD_eq_getElem?_getD, List.getElem?_set_ne (by omega), ← List.getD_eq_getElem?_getD]
      exact hz p (by omega)
    · rw [Vb_set _ _ _ _ hol, wu32_id hc hc2, hz _ (Nat.le_refl _), List.drop_length]
      simp [Vb]
    · refine .step (fun k => whole_Int_Times_c7_eq k _ _ _ _ _ _ _ _ _ _ _ _ _) (.nk (by omega) ?_)
      rw [e1]
      exact .ck (by omega) (.ck (by omega) (by rw [Int.toNat_natCast]; exact hy))
  | succ m ih =>
    intro j out c hm hj hol hd hc hc2 hz
    have hlt : j < b.2.length := by omega
    have hy := hb.at (by omega) j
    have ho := hd.at (by omega) (i + j)
    have hti : ((j : Int)).toNat = j := Int.toNat_natCast j
    have e1 : wi64 ((i : Int) + (j : Int)) = ((i + j : Nat) : Int) := by rw [wi64_id (by omega) (by omega)]; rfl
    have e2 : wi64 ((j : Int) + 1) = ((j + 1 : Nat) : Int) := by rw [wi64_id (by omega) (by omega)]; rfl
    rw [drop_cons hlt]
    generalize hye : b.2.getD j 0 = y at *
    generalize hoe : out.getD (i + j) 0 = o at *
    have hxy0 : 0 ≤ x * y := Int.mul_nonneg hx hy.1
    have hxy : x * y ≤ 4294967295 * 4294967295 := Int.le_trans (Int.mul_le_mul_of_nonneg_right (show x ≤ 4294967295 by omega) hy.1) (Int.mul_le_mul_of_nonneg_left (show y ≤ 4294967295 by omega) (by omega))
    have et : wu64 (c + wu64 (wu64 o + wu64 (wu64 x * wu64 y))) = c + (o + x * y) := by
      rw [wu64_id (x := x) hx (by omega), wu64_id (x := y) hy.1 (by omega), wu64_id (x := o) ho.1 (by omega), wu64_id (x := x * y) hxy0 (by omega), wu64_id (x := o + x * y) (by omega) (by omega), wu64_id (by omega) (by omega)]
    generalize hp : x * y = p at *
    obtain ⟨out2, q1, q2, q3, q4, q5⟩ := ih (j + 1) (out.set (i + j) ((c + (o + p)) % 4294967296)) ((c + (o + p)) / 4294967296) (by omega) (by omega) (by simpa using hol) (hd.set _ (by omega) (by omega)) (by omega) (by omega) (fun r hr => by
      rw [List.getD_eq_getElem?_getD, List.getElem?_set_ne (by omega), ← List.getD_eq_getElem?_getD]
      exact hz r hr)
    refine ⟨out2, by simpa using q1, q2, q3, ?_, fun z hz' => ?_⟩
    · rw [q4, Vb_set _ _ _ _ (by omega), hoe, ← Nat.add_assoc, Int.pow_succ]
      simp only [Vb]
      rw [Int.add_assoc, pow_step]
      congr 2
      rw [Int.mul_add x, hp, ← Int.mul_assoc x, Int.mul_comm x 4294967296, Int.mul_assoc]
      generalize x * Vb 4294967296 (b.2.drop (j + 1)) = q
      omega
    · refine .step (fun k => whole_Int_Times_c7_eq k _ _ _ _ _ _ _ _ _ _ _ _ _) (.ck (by omega) (.ck (by omega) (.ck (by omega) ?_)))
      rw [e1]
      refine .ck (by omega) (.ck (by omega) (.ck (by omega) (.ck (by omega) ?_)))
      rw [hti, Int.toNat_natCast, hye, hoe, et, shr32, wu32_mod, e2]
      exact q5 z hz'

theorem ev_Times_c3 (a b : Bool × List Int) (s4 : Bool × List Int) (ha : Dg 4294967296 a.2) (hb : Dg 4294967296 b.2) (hlen : a.2.length + b.2.length < 1099511627776) : ∀ (m i : Nat) (out : List Int), a.2.length - i = m → i ≤ a.2.length → out.length = a.2.length + b.2.length → Dg 4294967296 out → (∀ p, i + b.2.length ≤ p → out.getD p 0 = 0) →
    Ev (fun k => whole_Int_Times_c3 k a b s4 out a.2 (a.2.length : Int) (i : Int)) (W (cond (!(a.1 == b.1)) (-(Vb 4294967296 out + 4294967296 ^ i * (Vb 4294967296 (a.2.drop i) * Vb 4294967296 b.2))) (Vb 4294967296 out + 4294967296 ^ i * (Vb 4294967296 (a.2.drop i) * Vb 4294967296 b.2)))) := by
  intro m
  induction m with
  | zero =>
    intro i out hm hi hol hd hz
    have hi' : i = a.2.length := by omega
    subst hi'
    refine .step (fun k => whole_Int_Times_c3_eq k _ _ _ _ _ _ _) (.nk (by omega) (.ret (ev_made _ out (by omega) hd) ?_))
    rw [List.drop_length]
    simp [Vb]
  | succ m ih =>
    intro i out hm hi hol hd hz
    have hlt : i < a.2.length := by omega
    have hx := ha.at (by omega) i
    have hti : ((i : Int)).toNat = i := Int.toNat_natCast i
    have e2 : wi64 ((i : Int) + 1) = ((i + 1 : Nat) : Int) := by rw [wi64_id (by omega) (by omega)]; rfl
    obtain ⟨out2, q1, q2, q3, q4, q5⟩ := ev_Times_c7 a b s4 hb (a.2.getD i 0) hx.1 hx.2 i (by omega) a.2 (a.2.length : Int) (i : Int) _ 0 out 0 rfl (by omega) (by omega) hd (by omega) (by omega) hz
    refine .step (fun k => whole_Int_Times_c3_eq k _ _ _ _ _ _ _) (.ck (by omega) (.ck (by omega) (.ck (by omega) ?_)))
    rw [hti]
    refine q5 _ ?_
    rw [e2]
    refine .to (ih (i + 1) out2 (by omega) (by omega) (by omega) q2 (fun p hp => q3 p (by omega))) ?_
    have hv : Vb 4294967296 out2 + 4294967296 ^ (i + 1) * (Vb 4294967296 (a.2.drop (i + 1)) * Vb 4294967296 b.2) = Vb 4294967296 out + 4294967296 ^ i * (Vb 4294967296 (a.2.drop i) * Vb 4294967296 b.2) := by
      rw [q4, drop_cons hlt, Int.pow_succ]
      simp only [Vb, Nat.add_zero, List.drop_zero]
      rw [Int.add_assoc, pow_step, Int.add_mul, Int.zero_add, Int.mul_assoc]
    rw [hv]

theorem ev_Times (a b : Int) (ha : Sm a) (hb : Sm b) : Ev (fun k => whole_Int_Times k (W a) (W b)) (W (a * b)) := by
  have la := ha.len
  have lb := hb.len
  have e1 : wi64 (((W a).2.length : Int) + ((W b).2.length : Int)) = (((W a).2.length + (W b).2.length : Nat) : Int) := by rw [wi64_id (by omega) (by omega)]; rfl
  refine .step (fun k => whole_Int_Times_eq k _ _) ?_
  rw [e1, Int.toNat_natCast]
  have hz : ∀ n p : Nat, (List.replicate n (0 : Int)).getD p 0 = 0 := by
    intro n p
    rw [List.getD_eq_getElem?_getD, List.getElem?_replicate]
    split <;> rfl
  refine .ck (by omega) (.ck (by omega) (.to (ev_Times_c3 (W a) (W b) (false, []) (W_dg a) (W_dg b) (by omega) _ 0 _ rfl (by omega) (by simp) (.zeros (by omega) _) (fun p _ => hz _ p)) ?_))
  rw [Vb_zeros]
  simp only [List.drop_zero, W_V, W_neg]
  congr 1
  have hn : ((a.natAbs : Int) * (b.natAbs : Int)) = ((a * b).natAbs : Int) := by rw [Int.natAbs_mul]; push_cast; rfl
  rw [hn]
  simp only [Int.pow_zero, Int.one_mul, Int.zero_add]
  by_cases h1 : a < 0
  · by_cases h2 : b < 0
    · have := Int.mul_pos_of_neg_of_neg h1 h2
      simp [h1, h2]
      omega
    · have : a * b ≤ 0 := Int.mul_nonpos_of_nonpos_of_nonneg (by omega) (by omega)
      simp [h1, h2]
      omega
  · by_cases h2 : b < 0
    · have : a * b ≤ 0 := Int.mul_nonpos_of_nonneg_of_nonpos (by omega) (by omega)
      simp [h1, h2]
      omega
    · have : 0 ≤ a * b := Int.mul_nonneg (by omega) (by omega)
      simp [h1, h2]
      omega

theorem ev_Power_c3 (s2 : Bool × List Int) (n : Nat) (hn : n ≤ 130) : ∀ (m i : Nat), n - i = m → i ≤ n → Ev (fun k => whole_Power_c3 k s2 (W (10 ^ i)) (n : Int) (i : Int)) (W (10 ^ n)) := by
  intro m
  induction m with
  | zero =>
    intro i hm hi
    have hi' : i = n := by omega
    subst hi'
    exact .step (fun k => whole_Power_c3_eq k _ _ _ _) (.nk (by omega) (.pure _))
  | succ m ih =>
    intro i hm hi
    have e2 : wi64 ((i : Int) + 1) = ((i + 1 : Nat) : Int) := by rw [wi64_id (by omega) (by omega)]; rfl
    refine .step (fun k => whole_Power_c3_eq k _ _ _ _) (.ck (by omega) (.bind (ev_Of 10 (by omega) (by omega)) (.bind (ev_Times (10 ^ i) 10 (.of ?_) (.of (by decide))) ?_)))
    · have h1 : (10 : Nat) ^ i ≤ 10 ^ 130 := Nat.pow_le_pow_right (by omega) (by omega)
      have h2 : ((10 : Int) ^ i).natAbs = 10 ^ i := by rw [Int.natAbs_pow]; rfl
      rw [h2]
      exact h1
    · rw [e2, ← Int.pow_succ]
      exact ih (i + 1) (by omega) (by omega)
theorem ev_Power (n : Nat) (hn : n ≤ 130) : Ev (fun k => whole_Power k (n : Int)) (W (10 ^ n)) :=
  .step (fun k => whole_Power_eq k _) (.bind (ev_Of 1 (by omega) (by omega)) (ev_Power_c3 _ n hn _ 0 rfl (by omega)))
end Go.Proofs.YtgoepklennckmaaGreatDoor.Eq
namespace Go.Ra
open Go Go.Ra

theorem eqS_iff (a b : ByteArray) : eqS a b = true ↔ a = b := by
  unfold eqS
  rw [beq_iff_eq, Lib.toList_data, Lib.toList_data]
  constructor
  · intro h
    rw [← Lib.mk_data a, ← Lib.mk_data b, h]
  · intro h
    rw [h]
theorem eqS_self (a : ByteArray) : eqS a a = true := (eqS_iff a a).2 rfl
theorem eqS_ne {a b : ByteArray} (h : a ≠ b) : eqS a b = false := by
  cases he : eqS a b with
  | false => rfl
  | true => exact absurd ((eqS_iff a b).1 he) h

def cmpS (a b : ByteArray) : Int := Lib.compareBytes a.data.toList b.data.toList
theorem cb_zero : ∀ (a b : List UInt8), Lib.compareBytes a b = 0 ↔ a = b
  | [], [] => by simp [Lib.compareBytes]
  | [], _ :: _ => by simp [Lib.compareBytes]
  | _ :: _, [] => by simp [Lib.compareBytes]
  | x :: a, y :: b => by
    have ih := cb_zero a b
    unfold Lib.compareBytes
    by_cases h1 : x < y
    · rw [if_pos h1]
      have : x ≠ y := fun e => by subst e; exact absurd h1 (UInt8.lt_irrefl x)
      simp [this]
    · rw [if_neg h1]
      by_cases h2 : y < x
      · rw [if_pos h2]
        have : x ≠ y := fun e => by subst e; exact absurd h2 (UInt8.lt_irrefl x)
        simp [this]
      · rw [if_neg h2, ih]
        have : x = y := UInt8.le_antisymm (UInt8.not_lt.1 h2) (UInt8.not_lt.1 h1)
        simp [this]
theorem cmpS_zero (a b : ByteArray) : cmpS a b = 0 ↔ a = b := by
  unfold cmpS
  rw [cb_zero]
  constructor
  · intro h
    rw [← Lib.mk_data a, ← Lib.mk_data b, h]
  · intro h
    rw [h]
theorem dw_nil {α : Type} (p : α → Bool) : ∀ l : List α, l.dropWhile p = [] ↔ ∀ x ∈ l, p x = true
  | [] => by simp
  | x :: l => by
    have ih := dw_nil p l
    cases hx : p x with
    | true => simp [hx, ih]
    | false => simp [hx]
theorem tw_all {α : Type} (p : α → Bool) : ∀ (l : List α), ∀ x ∈ l.takeWhile p, p x = true
  | [], x, h => by simp at h
  | y :: l, x, h => by
    cases hy : p y with
    | true =>
      rw [List.takeWhile_cons, hy] at h
      rcases List.mem_cons.1 h with rfl | h
      · exact hy
      · exact tw_all p l x h
    | false =>
      rw [List.takeWhile_cons, hy] at h
      simp at h
theorem dw_mem {α : Type} (p : α → Bool) (l : List α) {x : α} (h : x ∈ l.dropWhile p) : x ∈ l := by
  have e : l = l.takeWhile p ++ l.dropWhile p := (List.takeWhile_append_dropWhile).symm
  rw [e]
  exact List.mem_append_right _ h
theorem trim_nil {l cs : List UInt8} : Lib.trimS l cs = [] ↔ ∀ b ∈ l, cs.contains b = true := by
  unfold Lib.trimS Lib.trimLeftS
  rw [dw_nil]
  constructor
  · intro h b hb
    have e : l.reverse = l.reverse.takeWhile (cs.contains ·) ++ l.reverse.dropWhile (cs.contains ·) := (List.takeWhile_append_dropWhile).symm
    have hb' : b ∈ l.reverse := by simpa using hb
    rw [e] at hb'
    rcases List.mem_append.1 hb' with q | q
    · exact tw_all (cs.contains ·) _ b q
    · exact h b (by unfold Lib.trimRightS; simpa using q)
  · intro h b hb
    unfold Lib.trimRightS at hb
    have : b ∈ l.reverse.dropWhile (cs.contains ·) := by simpa using hb
    exact h b (by simpa using dw_mem _ _ this)

theorem bor' {p q : Bool} (h : p = true → q = true) : ((!p) || q) = true := by
  cases p
  · rfl
  · simp [h rfl]

theorem bt_at {s : ByteArray} {i : Nat} (h : i < s.size) : bt s (i : Int) = (((s.data.toList.getD i 0).toNat : Nat) : Int) := by
  unfold bt
  rw [dif_pos (by simpa using h)]
  have h' : i < s.data.toList.length := by rw [← Lib.size_eq]; exact h
  simp [List.getD_eq_getElem?_getD, List.getElem?_eq_getElem h', ByteArray.getElem_eq_getElem_data]


abbrev L (s : ByteArray) : List UInt8 := s.data.toList
def B (l : List UInt8) : ByteArray := ⟨l.toArray⟩
theorem L_B (l : List UInt8) : L (B l) = l := rfl
theorem B_L (s : ByteArray) : B (L s) = s := Lib.mk_data s
theorem L_app (a b : ByteArray) : L (a ++ b) = L a ++ L b := by
  simp [L, ByteArray.data_append]
theorem B_app (a b : List UInt8) : B a ++ B b = B (a ++ b) := by rw [← B_L (B a ++ B b), L_app, L_B, L_B]
theorem size_L (s : ByteArray) : s.size = (L s).length := Lib.size_eq s
theorem size_B (l : List UInt8) : (B l).size = l.length := by rw [size_L, L_B]
theorem L_ext (s : ByteArray) (i j : Nat) : L (s.extract i j) = ((L s).take j).drop i := by
  rw [List.drop_take]
  show (s.extract i j).data.toList = _
  rw [ByteArray.data_extract, Array.toList_extract]
theorem B_ext (l : List UInt8) (i j : Nat) : (B l).extract i j = B ((l.take j).drop i) := by rw [← B_L ((B l).extract i j), L_ext, L_B]
theorem L_inj {a b : ByteArray} (h : L a = L b) : a = b := by rw [← B_L a, h, B_L]
theorem eqS_L (a b : ByteArray) : eqS a b = decide (L a = L b) := by
  by_cases h : a = b
  · subst h; simp [eqS_self]
  · rw [eqS_ne h]
    simp only [Bool.false_eq, decide_eq_false_iff_not]
    exact fun z => h (L_inj z)
theorem L_bs_nil : L (bs []) = [] := rfl
theorem bt_B {l : List UInt8} {i : Nat} (h : i < l.length) : bt (B l) (i : Int) = (((l.getD i 0).toNat : Nat) : Int) := bt_at (by rw [size_B]; exact h)
end Go.Ra
namespace Go.Ra
open Go Go.Ra

end Go.Ra

namespace Go.Proofs.YtgoepklennckmaaGreatDoor.Eq
open Go Go.Ra
set_option linter.unusedVariables false

theorem wj {i n : Nat} (h : i < n) (hn : n < 1125899906842624) : wi64 ((i : Int) + 1) = ((i + 1 : Nat) : Int) := by
  rw [wi64_id (by omega) (by omega)]; rfl
abbrev UN : Type := ByteArray × ByteArray × Int × Int
abbrev u0 : UN := (bs [], (bs [], (0, 0)))
def nmSet : List UInt8 := [97, 98, 99, 100, 101, 102, 103, 104, 105, 106, 107, 108, 109, 110, 111, 112, 113, 114, 115, 116, 117, 118, 119, 120, 121, 122, 48, 49, 50, 51, 52, 53, 54, 55, 56, 57, 45]
def okB (b : UInt8) : Bool := nmSet.contains b
def nameB (s : ByteArray) : Bool := decide (1 ≤ s.size) && decide (s.size ≤ 40) && decide (97 ≤ bt s 0) && decide (bt s 0 ≤ 122) && s.data.toList.all okB

theorem ev_IsName (s : ByteArray) : Ev (fun k => kit_IsName k s) (nameB s) := by
  refine .step (fun k => kit_IsName_eq k _) ?_
  by_cases h1 : (s.size : Int) < 1
  · refine .tt (by simp) (.tt (bor' fun z => ?_) (.tt (by simp) (.tt (bor' fun z => ?_) (.tt (by simp [h1]) (.to (.pure _) ?_)))))
    · simp [h1] at z
    · simp [h1] at z
    · have : ¬ 1 ≤ s.size := by omega
      simp [nameB, this]
  · have h1' : 1 ≤ s.size := by omega
    refine .tt (by simp) (.tt (bor' fun z => by simpa using (by omega : 0 < s.size)) (.tt (by simp) (.tt (bor' fun z => by simpa using (by omega : 0 < s.size)) ?_)))
    by_cases h2 : (s.size : Int) > 40
    · refine .tt (by simp [h1, h2]) (.to (.pure _) ?_)
      have : ¬ s.size ≤ 40 := by omega
      simp [nameB, this]
    · by_cases h3 : bt s 0 < 97
      · refine .tt (by simp [h1, h2, h3]) (.to (.pure _) ?_)
        have : ¬ 97 ≤ bt s 0 := by omega
        simp [nameB, this]
      · by_cases h4 : bt s 0 > 122
        · refine .tt (by simp [h1, h2, h3, h4]) (.to (.pure _) ?_)
          have : ¬ bt s 0 ≤ 122 := by omega
          simp [nameB, this]
        · refine .ff (by simp [h1, h2, h3, h4]) (.bind (x := ⟨(Lib.trimS s.data.toList nmSet).toArray⟩) ?_ (.to (.pure _) ?_))
          · refine .off (n := 0) fun k => ?_
            show strings_Trim (k + 0) s _ = _
            rw [strings_Trim_eq]
            have : decide (s.size ≤ 9223372036854775807) = true := by simp; omega
            rw [this]
            rfl
          · have a1 : decide (1 ≤ s.size) = true := by simp; omega
            have a2 : decide (s.size ≤ 40) = true := by simp; omega
            have a3 : decide (97 ≤ bt s 0) = true := by simp; omega
            have a4 : decide (bt s 0 ≤ 122) = true := by simp; omega
            unfold nameB
            rw [a1, a2, a3, a4]
            simp only [Bool.true_and]
            by_cases hall : ∀ b ∈ s.data.toList, nmSet.contains b = true
            · have e : Lib.trimS s.data.toList nmSet = [] := trim_nil.2 hall
              have e2 : s.data.toList.all okB = true := List.all_eq_true.2 hall
              rw [e, e2]
              exact eqS_self _
            · have e2 : s.data.toList.all okB = false := by
                cases h : s.data.toList.all okB with
                | false => rfl
                | true => exact absurd (List.all_eq_true.1 h) hall
              rw [e2]
              refine eqS_ne fun h => hall (trim_nil.1 ?_)
              have := congrArg (fun b : ByteArray => b.data.toList) h
              simpa [bs] using this

end Go.Proofs.YtgoepklennckmaaGreatDoor.Eq
namespace Go.Proofs.YtgoepklennckmaaGreatDoor.Eq
open Go Go.Ra
set_option linter.unusedVariables false

def nm (l : List UN) (i : Nat) : ByteArray := (l.getD i u0).1
def unum (l : List UN) (i : Nat) : Int := (l.getD i u0).2.2.1
def uden (l : List UN) (i : Nat) : Int := (l.getD i u0).2.2.2
def no : ByteArray := bs []

def Sd (l : List UN) : Prop := ∀ i j, i < j → j < l.length → cmpS (nm l i) (nm l j) < 0
theorem Sd.ne {l : List UN} (h : Sd l) {i j : Nat} (hi : i < l.length) (hj : j < l.length) (he : nm l i = nm l j) : i = j := by
  rcases Nat.lt_trichotomy i j with q | q | q
  · have := h i j q hj
    rw [(cmpS_zero _ _).2 he] at this
    omega
  · exact q
  · have := h j i q hi
    rw [(cmpS_zero _ _).2 he.symm] at this
    omega

def okU (l : List UN) (i : Nat) : Prop := 1 ≤ unum l i ∧ unum l i ≤ 1000000 ∧ 1 ≤ uden l i ∧ uden l i ≤ 1000000
instance (l : List UN) (i : Nat) : Decidable (okU l i) := by unfold okU; infer_instance
end Go.Proofs.YtgoepklennckmaaGreatDoor.Eq
namespace Go.Proofs.YtgoepklennckmaaGreatDoor.Eq
open Go Go.Ra
end Go.Proofs.YtgoepklennckmaaGreatDoor.Eq
namespace Go.Ra
open Go Go.Ra
def lp (y : Int) : Int := if y % 4 = 0 ∧ (y % 100 ≠ 0 ∨ y % 400 = 0) then 1 else 0
def dom (y : Int) (m : Nat) : Int := if m = 2 then 28 + lp y else if m = 4 ∨ m = 6 ∨ m = 9 ∨ m = 11 then 30 else 31
def bef (y : Int) : Int := 365 * (y - 1) + (y - 1) / 4 - (y - 1) / 100 + (y - 1) / 400
def cum (y : Int) : Nat → Int
  | 0 => 0
  | j + 1 => cum y j + dom y (j + 1)
theorem lp_01 (y : Int) : lp y = 0 ∨ lp y = 1 := by unfold lp; split <;> simp
theorem bef_succ (y : Int) : bef (y + 1) = bef y + 365 + lp y := by
  unfold bef lp
  split <;> omega
theorem dom_pos (y : Int) (m : Nat) : 28 ≤ dom y m ∧ dom y m ≤ 31 := by
  have := lp_01 y
  unfold dom
  split
  · omega
  · split <;> omega
theorem cum_year (y : Int) : cum y 12 = 365 + lp y := by
  simp [cum, dom]
  omega
theorem cum_le {y : Int} {i j : Nat} (h : i ≤ j) : cum y i ≤ cum y j := by
  induction j with
  | zero =>
    have : i = 0 := by omega
    subst this
    exact Int.le_refl _
  | succ j ih =>
    by_cases e : i = j + 1
    · rw [e]; exact Int.le_refl _
    · have := ih (by omega)
      have := dom_pos y (j + 1)
      simp only [cum]
      omega
theorem cum_nonneg (y : Int) (j : Nat) : 0 ≤ cum y j := cum_le (y := y) (Nat.zero_le j)
structure Dt where
  y : Int
  m : Nat
  d : Int
structure Dt.Ok (t : Dt) : Prop where
  y1 : 1 ≤ t.y
  y2 : t.y ≤ 9999
  m1 : 1 ≤ t.m
  m2 : t.m ≤ 12
  d1 : 1 ≤ t.d
  d2 : t.d ≤ dom t.y t.m
def Dt.n (t : Dt) : Int := bef t.y + cum t.y (t.m - 1) + t.d
theorem Dt.Ok.in_year {t : Dt} (h : t.Ok) : bef t.y < t.n ∧ t.n ≤ bef (t.y + 1) := by
  have h1 := cum_nonneg t.y (t.m - 1)
  have h2 : cum t.y (t.m - 1) + dom t.y t.m ≤ cum t.y 12 := by
    have e : cum t.y (t.m - 1) + dom t.y t.m = cum t.y (t.m - 1 + 1) := by
      simp only [cum]
      rw [Nat.sub_add_cancel h.m1]
    rw [e]
    exact cum_le (by have := h.m1; have := h.m2; omega)
  have := cum_year t.y
  have := bef_succ t.y
  have := h.d1
  have := h.d2
  unfold Dt.n
  omega
theorem bef_mono {a b : Int} (h : a ≤ b) : bef a ≤ bef b := by
  unfold bef
  omega
theorem Dt.Ok.bound {t : Dt} (h : t.Ok) : 1 ≤ t.n ∧ t.n ≤ 3652059 := by
  have := h.in_year
  have h1 := bef_mono (a := 1) (b := t.y) h.y1
  have h2 := bef_mono (a := t.y + 1) (b := 10000) (by have := h.y2; omega)
  have e1 : bef 1 = 0 := by decide
  have e2 : bef 10000 = 3652059 := by decide
  omega
theorem Dt.inj {t u : Dt} (h : t.Ok) (k : u.Ok) (e : t.n = u.n) : t = u := by
  have h1 := h.in_year
  have k1 := k.in_year
  have ey : t.y = u.y := by
    rcases Int.lt_trichotomy t.y u.y with z | z | z
    · have := bef_mono (a := t.y + 1) (b := u.y) (by omega)
      omega
    · exact z
    · have := bef_mono (a := u.y + 1) (b := t.y) (by omega)
      omega
  have hm : ∀ {a b : Dt}, a.Ok → b.Ok → a.y = b.y → a.n = b.n → ¬ a.m < b.m := by
    intro a b ha hb e1 e2 z
    have q : cum a.y (a.m - 1) + dom a.y a.m = cum a.y (a.m - 1 + 1) := by
      simp only [cum]
      rw [Nat.sub_add_cancel ha.m1]
    have q2 : cum a.y (a.m - 1 + 1) ≤ cum a.y (b.m - 1) := cum_le (by have := ha.m1; omega)
    have := ha.d2
    have := hb.d1
    unfold Dt.n at e2
    rw [← e1] at e2
    omega
  have em : t.m = u.m := by
    have a := hm h k ey e
    have b := hm k h ey.symm e.symm
    omega
  have ed : t.d = u.d := by
    unfold Dt.n at e
    rw [ey, em] at e
    omega
  cases t; cases u
  simp_all
theorem Dt.ex {n : Int} (h1 : 1 ≤ n) (h2 : n ≤ 3652059) : ∃ t : Dt, t.Ok ∧ t.n = n := by
  have year : ∀ (m : Nat) (y : Int), 10000 - y = m → 1 ≤ y → y ≤ 10000 → bef y < n → ∃ z, 1 ≤ z ∧ z ≤ 9999 ∧ bef z < n ∧ n ≤ bef (z + 1) := by
    intro m
    induction m with
    | zero =>
      intro y hm h3 h4 h5
      have : y = 10000 := by omega
      subst this
      have : bef 10000 = 3652059 := by decide
      omega
    | succ m ih =>
      intro y hm h3 h4 h5
      by_cases h : n ≤ bef (y + 1)
      · exact ⟨y, h3, by omega, h5, h⟩
      · exact ih (y + 1) (by omega) (by omega) (by omega) (by omega)
  have hz : bef 1 = 0 := by decide
  obtain ⟨y, y1, y2, y3, y4⟩ := year 9999 1 (by decide) (by decide) (by decide) (by omega)
  have month : ∀ (k j : Nat), 12 - j = k → j ≤ 12 → cum y j < n - bef y → ∃ m, m < 12 ∧ cum y m < n - bef y ∧ n - bef y ≤ cum y (m + 1) := by
    intro k
    induction k with
    | zero =>
      intro j hk hj hc
      have : j = 12 := by omega
      subst this
      have := cum_year y
      have := bef_succ y
      omega
    | succ k ih =>
      intro j hk hj hc
      by_cases h : n - bef y ≤ cum y (j + 1)
      · exact ⟨j, by omega, hc, h⟩
      · exact ih (j + 1) (by omega) (by omega) (by omega)
  obtain ⟨m, m1, m2, m3⟩ := month 12 0 rfl (by decide) (by simp only [cum]; omega)
  simp only [cum] at m3
  refine ⟨⟨y, m + 1, n - bef y - cum y m⟩, ⟨y1, y2, by simp, by simp; omega, by simp; omega, by simp; omega⟩, ?_⟩
  simp only [Dt.n, Nat.add_sub_cancel]
  omega
end Go.Ra
namespace Go.Proofs.YtgoepklennckmaaGreatDoor.Eq
open Go Go.Ra
set_option linter.unusedVariables false

theorem befW {y : Int} (h1 : 1 ≤ y) (h2 : y ≤ 100000) : wi64 ((wi64 ((wi64 ((wi64 (365 * (wi64 (y - 1)))) + (wi64 ((wi64 (y - 1)).tdiv 4)))) - (wi64 ((wi64 (y - 1)).tdiv 100)))) + (wi64 ((wi64 (y - 1)).tdiv 400))) = bef y := by
  have e0 : wi64 (y - 1) = y - 1 := wi64_id (by omega) (by omega)
  have d1 : (y - 1).tdiv 4 = (y - 1) / 4 := Int.tdiv_eq_ediv_of_nonneg (by omega)
  have d2 : (y - 1).tdiv 100 = (y - 1) / 100 := Int.tdiv_eq_ediv_of_nonneg (by omega)
  have d3 : (y - 1).tdiv 400 = (y - 1) / 400 := Int.tdiv_eq_ediv_of_nonneg (by omega)
  rw [e0, d1, d2, d3]
  rw [wi64_id (x := 365 * (y - 1)) (by omega) (by omega), wi64_id (x := (y - 1) / 4) (by omega) (by omega), wi64_id (x := (y - 1) / 100) (by omega) (by omega), wi64_id (x := (y - 1) / 400) (by omega) (by omega)]
  rw [wi64_id (x := 365 * (y - 1) + (y - 1) / 4) (by omega) (by omega), wi64_id (x := 365 * (y - 1) + (y - 1) / 4 - (y - 1) / 100) (by omega) (by omega)]
  exact wi64_id (by omega) (by omega)
theorem ev_abefore {y : Int} (h1 : 1 ≤ y) (h2 : y ≤ 100000) : Ev (fun k => amount_before k y) (bef y) := .step (fun k => amount_before_eq k _) (.to (.pure _) (befW h1 h2))
theorem bef_small {y : Int} (h1 : 1 ≤ y) (h2 : y ≤ 100000) : 0 ≤ bef y ∧ bef y ≤ 36600000 := by
  unfold bef
  omega

theorem tmod4 {y : Int} (h : 0 ≤ y) (b : Int) : y.tmod b = y % b := Int.tmod_eq_emod_of_nonneg h
theorem ev_aLeap {y : Int} (h : 0 ≤ y) : Ev (fun k => amount_isLeap k y) (decide (lp y = 1)) := by
  refine .step (fun k => amount_isLeap_eq k _) (.tt (by simp) (.tt (by simp) (.to (.pure _) ?_)))
  simp only [tmod4 h]
  unfold lp
  by_cases a : y % 4 = 0 <;> by_cases b : y % 100 = 0 <;> by_cases c : y % 400 = 0 <;> simp [a, b, c]
theorem dom_tab (y : Int) {m : Nat} (h1 : 1 ≤ m) (h2 : m ≤ 12) (h : ¬ (m = 2 ∧ lp y = 1)) : [31, 28, 31, 30, 31, 30, 31, 31, 30, 31, 30, (31 : Int)].getD (m - 1) 0 = dom y m := by
  have := lp_01 y
  obtain rfl | rfl | rfl | rfl | rfl | rfl | rfl | rfl | rfl | rfl | rfl | rfl : m = 1 ∨ m = 2 ∨ m = 3 ∨ m = 4 ∨ m = 5 ∨ m = 6 ∨ m = 7 ∨ m = 8 ∨ m = 9 ∨ m = 10 ∨ m = 11 ∨ m = 12 := by omega
  all_goals simp [dom]
  all_goals omega
theorem ev_adom {y : Int} (hy : 0 ≤ y) {m : Nat} (h1 : 1 ≤ m) (h2 : m ≤ 12) : Ev (fun k => amount_daysOf k y (m : Int)) (dom y m) := by
  refine .step (fun k => amount_daysOf_eq k _ _) ?_
  have hw : wi64 ((m : Int) - 1) = ((m - 1 : Nat) : Int) := by rw [wi64_id (by omega) (by omega)]; omega
  have rest : ¬ (m = 2 ∧ lp y = 1) → Ev (fun k => cond (decide (0 ≤ (wi64 ((m : Int) - 1)))) (cond (decide ((wi64 ((m : Int) - 1)) < 12)) (some ([31, 28, 31, 30, 31, 30, 31, 31, 30, 31, 30, (31 : Int)].getD (wi64 ((m : Int) - 1)).toNat 0)) none) none) (dom y m) := fun h => by
    rw [hw]
    refine .ck (by omega) (.ck (by omega) (.to (.pure _) ?_))
    rw [Int.toNat_natCast]
    exact dom_tab y h1 h2 h
  by_cases hm : m = 2
  · subst hm
    refine .bind (.tt rfl (ev_aLeap hy)) ?_
    by_cases hl : lp y = 1
    · refine .tt (by simp [hl]) (.to (.pure _) ?_)
      simp [dom, hl]
    · exact .ff (by simp [hl]) (rest fun z => hl z.2)
  · have hb : ((m : Int) == 2) = false := by simpa using (by omega : ¬ (m : Int) = 2)
    exact .bind (x := false) (.ff hb (.pure _)) (.ff (by simp) (rest fun z => hm z.1))
theorem ev_aday_c5 {y : Int} (hy : 0 ≤ y) : ∀ (n m : Nat) (M : Nat) (s : Int), M - m = n → 1 ≤ m → m ≤ M → M ≤ 12 → -100000000 ≤ s → s + cum y 12 ≤ 100000000 + cum y (m - 1) → Ev (fun k => amount_dayOf_c5 k y (M : Int) s (m : Int)) (s + cum y (M - 1) - cum y (m - 1), true) := by
  intro n
  induction n with
  | zero =>
    intro m M s hn h1 h2 h3 _ _
    have : m = M := by omega
    subst this
    refine .step (fun k => amount_dayOf_c5_eq k _ _ _ _) (.nk (by omega) (.to (.pure _) ?_))
    congr 1
    omega
  | succ n ih =>
    intro m M s hn h1 h2 h3 hs hs2
    refine .step (fun k => amount_dayOf_c5_eq k _ _ _ _) (.ck (by omega) (.bind (ev_adom hy h1 (by omega)) ?_))
    have hd := dom_pos y m
    have e : cum y (m + 1 - 1) = cum y (m - 1) + dom y m := by
      obtain ⟨j, rfl⟩ : ∃ j, m = j + 1 := ⟨m - 1, by omega⟩
      simp only [cum, Nat.add_sub_cancel]
    have hl : cum y (m + 1 - 1) ≤ cum y 12 := cum_le (by omega)
    rw [wi64_id (x := s + dom y m) (by omega) (by omega), show wi64 ((m : Int) + 1) = ((m + 1 : Nat) : Int) by rw [wi64_id (by omega) (by omega)]; rfl]
    refine (ih (m + 1) M (s + dom y m) (by omega) (by omega) (by omega) h3 (by omega) (by omega)).to ?_
    rw [e]
    congr 1
    omega
def okDt (a b c : Int) : Prop := 1 ≤ a ∧ a ≤ 9999 ∧ 1 ≤ b ∧ b ≤ 12 ∧ 1 ≤ c ∧ c ≤ dom a b.toNat
instance (a b c : Int) : Decidable (okDt a b c) := by unfold okDt; infer_instance
theorem okDt_ok {a b c : Int} (h : okDt a b c) : (⟨a, b.toNat, c⟩ : Dt).Ok := by
  unfold okDt at h
  exact ⟨h.1, h.2.1, by simp; omega, by simp; omega, h.2.2.2.2.1, h.2.2.2.2.2⟩
theorem Dt.Ok.is {t : Dt} (h : t.Ok) : okDt t.y (t.m : Int) t.d := by
  refine ⟨h.y1, h.y2, ?_, ?_, h.d1, ?_⟩
  · have := h.m1; omega
  · have := h.m2; omega
  · rw [Int.toNat_natCast]; exact h.d2
theorem ev_Outside' (a b c : Int) : Ev (fun k => kit_Outside k a b c) (decide (a < b ∨ a > c)) := by
  refine .step (fun k => kit_Outside_eq k a b c) (.to (.pure _) ?_)
  by_cases h : a < b <;> simp [h]
theorem ev_adayOf (a b c : Int) : Ev (fun k => amount_dayOf k a b c) (if okDt a b c then ((⟨a, b.toNat, c⟩ : Dt).n, true) else (0, false)) := by
  refine .step (fun k => amount_dayOf_eq k _ _ _) (.bind (ev_Outside' _ _ _) ?_)
  by_cases h1 : a < 1 ∨ a > 9999
  · rw [decide_eq_true h1, if_neg (by unfold okDt; omega)]
    exact .bind (x := false) (.ff rfl (.pure _)) (.bind (x := 0) (.ff rfl (.pure _)) (.bind (x := false) (.ff rfl (.pure _)) (.tt rfl (.pure _))))
  · rw [decide_eq_false h1]
    refine .bind (.tt rfl (ev_Outside' _ _ _)) ?_
    by_cases h2 : b < 1 ∨ b > 12
    · rw [decide_eq_true h2, if_neg (by unfold okDt; omega)]
      exact .bind (x := 0) (.ff rfl (.pure _)) (.bind (x := false) (.ff rfl (.pure _)) (.tt rfl (.pure _)))
    · rw [decide_eq_false h2]
      obtain ⟨m, rfl⟩ : ∃ m : Nat, b = m := ⟨b.toNat, by omega⟩
      refine .bind (.tt rfl (ev_adom (by omega) (by omega) (by omega))) (.bind (.tt rfl (ev_Outside' _ _ _)) ?_)
      by_cases h3 : c < 1 ∨ c > dom a m
      · rw [decide_eq_true h3, if_neg (by unfold okDt; rw [Int.toNat_natCast]; omega)]
        exact .tt rfl (.pure _)
      · rw [decide_eq_false h3, if_pos (by unfold okDt; rw [Int.toNat_natCast]; omega)]
        have hb := bef_small (y := a) (by omega) (by omega)
        have hd := dom_pos a m
        have hc := cum_year a
        have hl := lp_01 a
        refine .ff rfl (.bind (ev_abefore (by omega) (by omega)) ?_)
        rw [wi64_id (x := bef a + c) (by omega) (by omega)]
        refine (ev_aday_c5 (by omega) _ 1 m _ rfl (by omega) (by omega) (by omega) (by omega) (by show _ + cum a 12 ≤ 100000000 + cum a 0; have c0 : cum a 0 = 0 := rfl; omega)).to ?_
        simp only [cum, Dt.n, Nat.sub_self, Int.toNat_natCast]
        congr 1
        omega
theorem ev_adate_c5 {t : Dt} (h : t.Ok) : ∀ (k m : Nat), t.m - m = k → 1 ≤ m → m ≤ t.m → Ev (fun q => amount_dateOf_c5 q t.y (m : Int) (t.n - bef t.y - cum t.y (m - 1))) (t.y, ((t.m : Int), t.d)) := by
  have y1 := h.y1
  have y2 := h.y2
  have m2 := h.m2
  have d1 := h.d1
  have d2 := h.d2
  have hb := bef_small (y := t.y) (by omega) (by omega)
  have hn := h.bound
  intro k
  induction k with
  | zero =>
    intro m hk h1 h2
    have : m = t.m := by omega
    subst this
    have e : t.n - bef t.y - cum t.y (t.m - 1) = t.d := by unfold Dt.n; omega
    rw [e]
    exact .step (fun q => amount_dateOf_c5_eq q _ _ _) (.bind (ev_adom (by omega) h1 m2) (.nk (by omega) (.pure _)))
  | succ k ih =>
    intro m hk h1 h2
    have e : cum t.y (m + 1 - 1) = cum t.y (m - 1) + dom t.y m := by
      obtain ⟨j, rfl⟩ : ∃ j, m = j + 1 := ⟨m - 1, by omega⟩
      simp only [cum, Nat.add_sub_cancel]
    have hl : cum t.y (m + 1 - 1) ≤ cum t.y (t.m - 1) := cum_le (by omega)
    have hd := dom_pos t.y m
    have hc0 := cum_nonneg t.y (m - 1)
    have hn' : t.n = bef t.y + cum t.y (t.m - 1) + t.d := rfl
    refine .step (fun q => amount_dateOf_c5_eq q _ _ _) (.bind (ev_adom (by omega) h1 (by omega)) (.ck (by omega) (.bind (ev_adom (by omega) h1 (by omega)) ?_)))
    rw [show wi64 ((m : Int) + 1) = ((m + 1 : Nat) : Int) by rw [wi64_id (by omega) (by omega)]; rfl, wi64_id (by omega) (by omega)]
    have := ih (m + 1) (by omega) (by omega) (by omega)
    rw [e] at this
    rw [show t.n - bef t.y - cum t.y (m - 1) - dom t.y m = t.n - bef t.y - (cum t.y (m - 1) + dom t.y m) by omega]
    exact this
theorem year_start {t : Dt} (h : t.Ok) : 1 ≤ t.n / 366 + 1 ∧ t.n / 366 + 1 ≤ t.y := by
  have hn := h.bound
  have hi := h.in_year
  refine ⟨by omega, ?_⟩
  refine Classical.byContradiction fun z => ?_
  have := bef_mono (a := t.y + 1) (b := t.n / 366 + 1) (by omega)
  have e : bef (t.n / 366 + 1) < t.n := by
    unfold bef
    omega
  omega
theorem ev_adateOf {t : Dt} (h : t.Ok) : Ev (fun q => amount_dateOf q t.n) (t.y, ((t.m : Int), t.d)) := by
  have y1 := h.y1
  have y2 := h.y2
  have hn := h.bound
  have hi := h.in_year
  have hs := year_start h
  have key : ∀ (k : Nat) (y : Int), t.y - y = k → 1 ≤ y → y ≤ t.y → Ev (fun q => amount_dateOf_c2 q t.n y) (t.y, ((t.m : Int), t.d)) := by
    intro k
    induction k with
    | zero =>
      intro y hk h1 h2
      have : y = t.y := by omega
      subst this
      refine .step (fun q => amount_dateOf_c2_eq q _ _) ?_
      have fin : Ev (fun q => (amount_before q t.y).bind fun y1 => amount_dateOf_c5 q t.y 1 (wi64 (t.n - y1))) (t.y, ((t.m : Int), t.d)) := by
        refine .bind (ev_abefore (by omega) (by omega)) ?_
        have hb := bef_small (y := t.y) (by omega) (by omega)
        rw [wi64_id (by omega) (by omega)]
        have := ev_adate_c5 h _ 1 rfl (by omega) h.m1
        simpa [cum] using this
      by_cases hy : t.y < 9999
      · refine .bind (x := bef (t.y + 1)) (.ck hy ?_) ?_
        · rw [wi64_id (by omega) (by omega)]
          exact ev_abefore (by omega) (by omega)
        · rw [decide_eq_true hy]
          exact .ff (by simp; omega) fin
      · exact .bind (x := 0) (.nk hy (.pure _)) (.ff (by rw [decide_eq_false hy]; rfl) fin)
    | succ k ih =>
      intro y hk h1 h2
      have hb : bef (y + 1) < t.n := by
        have := bef_mono (a := y + 1) (b := t.y) (by omega)
        omega
      refine .step (fun q => amount_dateOf_c2_eq q _ _) (.bind (x := bef (y + 1)) (.ck (by omega) ?_) ?_)
      · rw [wi64_id (by omega) (by omega)]
        exact ev_abefore (by omega) (by omega)
      · refine .tt ?_ ?_
        · rw [decide_eq_true (show y < 9999 by omega)]
          simpa using hb
        · rw [wi64_id (by omega) (by omega)]
          exact ih (y + 1) (by omega) (by omega) (by omega)
  refine .step (fun q => amount_dateOf_eq q _) ?_
  rw [Int.tdiv_eq_ediv_of_nonneg (by omega), wi64_id (x := t.n / 366) (by omega) (by omega), wi64_id (by omega) (by omega)]
  obtain ⟨k, hk⟩ : ∃ k : Nat, t.y - (t.n / 366 + 1) = k := ⟨(t.y - (t.n / 366 + 1)).toNat, by omega⟩
  exact key k _ hk hs.1 hs.2
end Go.Proofs.YtgoepklennckmaaGreatDoor.Eq
namespace Go.Ra
open Go Go.Ra
def dgB (b : UInt8) : Bool := decide (48 ≤ b.toNat) && decide (b.toNat ≤ 57)
def digB (l : List UInt8) : Bool := !l.isEmpty && l.all dgB
def dvA (a : Nat) : List UInt8 → Nat
  | [] => a
  | b :: l => dvA (a * 10 + (b.toNat - 48)) l
def dv (l : List UInt8) : Nat := dvA 0 l
theorem dvA_app (l m : List UInt8) : ∀ a, dvA a (l ++ m) = dvA (dvA a l) m := by
  induction l with
  | nil => intro a; rfl
  | cons b l ih => intro a; exact ih _
theorem dvA_eq (l : List UInt8) : ∀ a, dvA a l = a * 10 ^ l.length + dvA 0 l := by
  induction l with
  | nil =>
    intro a
    show a = a * 10 ^ 0 + 0
    rw [Nat.pow_zero, Nat.mul_one, Nat.add_zero]
  | cons b l ih =>
    intro a
    have h1 := ih (a * 10 + (b.toNat - 48))
    have h2 := ih (0 * 10 + (b.toNat - 48))
    show dvA (a * 10 + (b.toNat - 48)) l = a * 10 ^ (l.length + 1) + dvA (0 * 10 + (b.toNat - 48)) l
    rw [h1, h2, Nat.pow_succ]
    generalize 10 ^ l.length = p
    generalize dvA 0 l = D
    generalize b.toNat - 48 = d
    rw [Nat.add_mul, Nat.zero_mul, Nat.zero_add, Nat.mul_assoc a 10 p, Nat.mul_comm 10 p, Nat.add_assoc]
theorem dv_app (l m : List UInt8) : dv (l ++ m) = dv l * 10 ^ m.length + dv m := by
  unfold dv
  rw [dvA_app, dvA_eq m]
theorem dv_one (b : UInt8) : dv [b] = b.toNat - 48 := by
  show 0 * 10 + (b.toNat - 48) = b.toNat - 48
  omega
theorem dgB_iff {b : UInt8} : dgB b = true ↔ 48 ≤ b.toNat ∧ b.toNat ≤ 57 := by simp [dgB]
theorem dv_lt {l : List UInt8} (h : ∀ b ∈ l, dgB b = true) : dv l < 10 ^ l.length := by
  induction l with
  | nil =>
    show (0 : Nat) < 10 ^ 0
    rw [Nat.pow_zero]
    omega
  | cons b l ih =>
    have h1 := dgB_iff.1 (h b (by simp))
    have h2 := ih fun x hx => h x (by simp [hx])
    have e : dv (b :: l) = (b.toNat - 48) * 10 ^ l.length + dv l := by
      have := dv_app [b] l
      rw [dv_one] at this
      exact this
    rw [e, List.length_cons, Nat.pow_succ]
    have : (b.toNat - 48) * 10 ^ l.length ≤ 9 * 10 ^ l.length := Nat.mul_le_mul_right _ (by omega)
    omega
theorem take_succ' {l : List UInt8} {i : Nat} (h : i < l.length) : l.take (i + 1) = l.take i ++ [l.getD i 0] := by
  rw [List.take_add_one, List.getD_eq_getElem?_getD, List.getElem?_eq_getElem h]
  rfl
theorem digB_len {l : List UInt8} (h : digB l = true) : 1 ≤ l.length := by
  cases l with
  | nil => simp [digB] at h
  | cons => simp
theorem digB_all {l : List UInt8} (h : digB l = true) : ∀ b ∈ l, dgB b = true := by
  unfold digB at h
  rw [Bool.and_eq_true] at h
  exact List.all_eq_true.1 h.2
theorem digB_iff {l : List UInt8} : digB l = true ↔ l ≠ [] ∧ ∀ b ∈ l, dgB b = true := by
  unfold digB
  rw [Bool.and_eq_true, List.all_eq_true]
  cases l <;> simp
theorem eqS_nil (s : ByteArray) : eqS s (bs []) = (L s).isEmpty := by
  rw [eqS_L, L_bs_nil]
  cases L s <;> simp
end Go.Ra
namespace Go.Proofs.YtgoepklennckmaaGreatDoor.Eq
open Go Go.Ra
set_option linter.unusedVariables false

theorem wu8_dig {b : UInt8} (h : dgB b = true) : wi64 (wu8 (((b.toNat : Nat) : Int) - 48)) = ((b.toNat - 48 : Nat) : Int) := by
  have := dgB_iff.1 h
  rw [wu8_id (by omega) (by omega), wi64_id (by omega) (by omega)]
  omega
theorem ev_InBytes (s : ByteArray) (lo hi : Int) (hs : s.size < 1125899906842624) : Ev (fun k => kit_InBytes k s lo hi) ((L s).all fun b => decide (lo ≤ (b.toNat : Int)) && decide ((b.toNat : Int) ≤ hi)) := by
  refine .step (fun k => kit_InBytes_eq k _ _ _) ?_
  have hsz := size_L s
  have key : ∀ (m i : Nat), s.size - i = m → i ≤ s.size → Ev (fun k => kit_InBytes_c2 k s lo hi (s.size : Int) (i : Int)) (((L s).drop i).all fun b => decide (lo ≤ (b.toNat : Int)) && decide ((b.toNat : Int) ≤ hi)) := by
    intro m
    induction m with
    | zero =>
      intro i hm hi'
      refine .step (fun k => kit_InBytes_c2_eq k _ _ _ _ _) (.nk (by omega) (.to (.pure _) ?_))
      rw [List.drop_of_length_le (by omega)]
      rfl
    | succ m ih =>
      intro i hm hi'
      have hil : i < (L s).length := by omega
      have hd : (L s).drop i = (L s).getD i 0 :: (L s).drop (i + 1) := by
        rw [List.drop_eq_getElem_cons hil, List.getD_eq_getElem?_getD, List.getElem?_eq_getElem hil]
        rfl
      refine .step (fun k => kit_InBytes_c2_eq k _ _ _ _ _) (.ck (by omega) (.ck (by omega) (.ck (by omega) (.tt (bor' fun _ => by simp) (.tt (bor' fun _ => by simp; omega) ?_)))))
      rw [bt_at (by omega : i < s.size), hd, List.all_cons]
      generalize (L s).getD i 0 = b
      have hw : wi64 ((i : Int) + 1) = ((i + 1 : Nat) : Int) := by rw [wi64_id (by omega) (by omega)]; rfl
      by_cases h : lo ≤ (b.toNat : Int) ∧ (b.toNat : Int) ≤ hi
      · rw [decide_eq_true h.1, decide_eq_true h.2]
        refine .ff (by rw [decide_eq_false (by omega), decide_eq_false (by omega)]; rfl) ?_
        rw [hw]
        exact ih (i + 1) (by omega) (by omega)
      · refine .tt ?_ (.to (.pure _) ?_)
        · by_cases h1 : (b.toNat : Int) < lo
          · rw [decide_eq_true h1]; rfl
          · rw [decide_eq_false h1, decide_eq_true (by omega : (b.toNat : Int) > hi)]; rfl
        · have : (decide (lo ≤ (b.toNat : Int)) && decide ((b.toNat : Int) ≤ hi)) = false := by simpa using h
          rw [this]
          rfl
  have := key _ 0 rfl (by omega)
  simpa using this
theorem dgB_eq (b : UInt8) : (decide ((48 : Int) ≤ (b.toNat : Int)) && decide ((b.toNat : Int) ≤ 57)) = dgB b := by
  unfold dgB
  congr 1
  · exact decide_eq_decide.2 (by omega)
  · exact decide_eq_decide.2 (by omega)
theorem ev_kDig (s : ByteArray) (hs : s.size < 1125899906842624) : Ev (fun k => kit_IsDigits k s) (digB (L s)) := by
  refine .step (fun k => kit_IsDigits_eq k _) ?_
  rw [eqS_nil]
  unfold digB
  cases h : (L s).isEmpty with
  | true => exact .bind (x := false) (.ff rfl (.pure _)) (.pure _)
  | false =>
    refine .bind (.tt rfl (ev_InBytes s 48 57 hs)) (.to (.pure _) ?_)
    simp only [dgB_eq]
    rfl
def cutP (l : List UInt8) : List UInt8 × Bool := if l.head? = some 45 then (l.drop 1, true) else (l, false)
theorem ev_HasPre (s : ByteArray) (c : UInt8) : Ev (fun k => stringslite_HasPrefix k s (B [c])) (decide ((L s).head? = some c)) := by
  have hsz := size_L s
  have h1 : (B [c]).size = 1 := rfl
  refine .step (fun k => stringslite_HasPrefix_eq k _ _) (.tt (bor' fun _ => by simp) (.tt (bor' fun z => z) (.to (.pure _) ?_)))
  rw [h1]
  cases hl : L s with
  | nil =>
    rw [hl] at hsz
    have h0 : s.size = 0 := hsz
    have : ¬ ((s.size : Int) ≥ ((1 : Nat) : Int)) := by omega
    rw [decide_eq_false this]
    rfl
  | cons b t =>
    rw [hl] at hsz
    have h0 : s.size = t.length + 1 := hsz
    have : ((s.size : Int) ≥ ((1 : Nat) : Int)) := by omega
    rw [decide_eq_true this]
    simp only [cond_true, Int.toNat_natCast]
    rw [eqS_L, L_ext, hl]
    simp [L_B]
theorem ev_CutPre (s : ByteArray) : Ev (fun k => strings_CutPrefix k s (B [45])) (B (cutP (L s)).1, (cutP (L s)).2) := by
  have hsz := size_L s
  have h1 : (B [45]).size = 1 := rfl
  refine .step (fun k => strings_CutPrefix_eq k _ _) (.ret (.step (fun k => stringslite_CutPrefix_eq k _ _) (.bind (ev_HasPre s 45) ?_)) rfl)
  unfold cutP
  by_cases h : (L s).head? = some 45
  · rw [if_pos h, decide_eq_true h]
    have : 1 ≤ (L s).length := by
      cases hl : L s with
      | nil => rw [hl] at h; simp at h
      | cons => simp
    refine .ff rfl (.ck (by omega) (.ck (by rw [h1]; omega) (.to (.pure _) ?_)))
    rw [h1]
    congr 1
    rw [← B_L (s.extract _ _), L_ext, List.take_of_length_le (by omega)]
    rfl
  · rw [if_neg h, decide_eq_false h]
    refine .tt rfl (.to (.pure _) ?_)
    rw [B_L]
theorem ev_Idx (s : ByteArray) (c : UInt8) : Ev (fun k => stringslite_Index k s (B [c])) (Lib.indexByte (L s) c) := by
  have h1 : (B [c]).size = 1 := rfl
  have hb : bt (B [c]) 0 = ((c.toNat : Nat) : Int) := by
    have := bt_B (l := [c]) (i := 0) (by simp)
    simpa using this
  refine .step (fun k => stringslite_Index_eq k _ _) ?_
  rw [h1, eqS_L, L_B]
  by_cases h : [c] = L s
  · refine .tt (by simp [h]) (.to (.pure _) ?_)
    rw [← h]
    simp [Lib.indexByte]
  · refine .ff (by simp [h]) (.tt rfl (.ck (by decide) (.ret ?_ rfl)))
    refine .off (n := 0) fun k => ?_
    show stringslite_IndexByte (k + 0) s _ = _
    rw [stringslite_IndexByte_eq, hb]
    simp
def cutB (l : List UInt8) (c : UInt8) : List UInt8 × List UInt8 × Bool :=
  if 0 ≤ Lib.indexByte l c then (l.take (Lib.indexByte l c).toNat, l.drop ((Lib.indexByte l c).toNat + 1), true) else (l, [], false)
theorem indexByte_lt : ∀ (l : List UInt8) (c : UInt8), 0 ≤ Lib.indexByte l c → (Lib.indexByte l c).toNat < l.length
  | [], _, h => by simp [Lib.indexByte] at h
  | b :: l, c, h => by
    unfold Lib.indexByte at h ⊢
    split
    · simp
    · rename_i hb
      rw [if_neg hb] at h
      split
      · rename_i hm
        rw [if_pos hm] at h
        simp at h
      · rename_i hm
        rw [if_neg hm] at h
        have hge := Lib.indexByte_ge l c
        have hne : Lib.indexByte l c ≠ -1 := by simpa using hm
        have := indexByte_lt l c (by omega)
        simp only [List.length_cons]
        omega
theorem ev_Cut (s : ByteArray) (c : UInt8) (hs : s.size < 1125899906842624) : Ev (fun k => strings_Cut k s (B [c])) (B (cutB (L s) c).1, (B (cutB (L s) c).2.1, (cutB (L s) c).2.2)) := by
  have h1 : (B [c]).size = 1 := rfl
  have hsz := size_L s
  refine .step (fun k => strings_Cut_eq k _ _) (.ret (.step (fun k => stringslite_Cut_eq k _ _) (.bind (ev_Idx s c) ?_)) rfl)
  unfold cutB
  by_cases h : 0 ≤ Lib.indexByte (L s) c
  · rw [if_pos h]
    have hl := indexByte_lt _ _ h
    have hw : wi64 (Lib.indexByte (L s) c + ((B [c]).size : Int)) = (((Lib.indexByte (L s) c).toNat + 1 : Nat) : Int) := by
      rw [h1, wi64_id (by omega) (by omega)]
      omega
    refine .ck h (.ck h (.ck (by omega) ?_))
    rw [hw]
    refine .ck (by omega) (.ck (by omega) (.to (.pure _) ?_))
    rw [Int.toNat_natCast]
    congr 1
    · rw [← B_L (s.extract _ _), L_ext, List.drop_zero]
    · congr 1
      rw [← B_L (s.extract _ _), L_ext, List.take_of_length_le (by omega)]
  · rw [if_neg h]
    refine .nk h (.to (.pure _) ?_)
    rw [B_L]
    rfl
theorem indexByte_none {l : List UInt8} {c : UInt8} (h : c ∉ l) : Lib.indexByte l c = -1 := by
  induction l with
  | nil => rfl
  | cons b l ih =>
    unfold Lib.indexByte
    have hb : b ≠ c := fun z => h (by simp [z])
    have := ih fun z => h (by simp [z])
    rw [this]
    simp [hb]
theorem indexByte_app {l m : List UInt8} {c : UInt8} (h : c ∉ l) : Lib.indexByte (l ++ c :: m) c = l.length := by
  induction l with
  | nil => simp [Lib.indexByte]
  | cons b l ih =>
    show Lib.indexByte (b :: (l ++ c :: m)) c = _
    unfold Lib.indexByte
    have hb : b ≠ c := fun z => h (by simp [z])
    have := ih fun z => h (by simp [z])
    rw [this]
    have hne : ¬ ((l.length : Int) == -1) = true := by simp
    simp [hb, hne]
theorem cutB_none {l : List UInt8} {c : UInt8} (h : c ∉ l) : cutB l c = (l, [], false) := by
  unfold cutB
  rw [indexByte_none h]
  rfl
theorem cutB_app {l m : List UInt8} {c : UInt8} (h : c ∉ l) : cutB (l ++ c :: m) c = (l, m, true) := by
  unfold cutB
  rw [indexByte_app h, if_pos (by omega), Int.toNat_natCast]
  simp
theorem cutB_cases (l : List UInt8) (c : UInt8) : (c ∉ l ∧ cutB l c = (l, [], false)) ∨ ∃ a b, l = a ++ c :: b ∧ c ∉ a ∧ cutB l c = (a, b, true) := by
  by_cases h : c ∈ l
  · obtain ⟨a, b, e, hn⟩ : ∃ a b, l = a ++ c :: b ∧ c ∉ a := by
      induction l with
      | nil => simp at h
      | cons x l ih =>
        by_cases hx : x = c
        · exact ⟨[], l, by simp [hx], by simp⟩
        · have : c ∈ l := by
            rcases List.mem_cons.1 h with z | z
            · exact absurd z.symm hx
            · exact z
          obtain ⟨a, b, rfl, q⟩ := ih this
          exact ⟨x :: a, b, rfl, by simp [q, Ne.symm hx]⟩
    subst e
    exact .inr ⟨a, b, rfl, hn, cutB_app hn⟩
  · exact .inl ⟨h, cutB_none h⟩
end Go.Proofs.YtgoepklennckmaaGreatDoor.Eq
namespace Go.Ra
open Go Go.Ra
def pdL (n : Int) (w : Nat) : List UInt8 := List.replicate (w - (Lib.itoa n).length) 48 ++ Lib.itoa n
def pad (n : Int) (w : Nat) : ByteArray := B (pdL n w)
theorem nDig_le : ∀ (k u : Nat), 1 ≤ k → u < 10 ^ k → Lib.nDigits u ≤ k
  | 0, _, h, _ => by omega
  | k + 1, u, _, h => by
    by_cases hu : u < 10
    · rw [Lib.nDigits_small hu]; omega
    · rw [Lib.nDigits_big hu]
      have hk : 1 ≤ k := by
        rcases Nat.eq_zero_or_pos k with z | z
        · subst z; simp at h; omega
        · exact z
      have := nDig_le k (u / 10) hk (by rw [Nat.pow_succ] at h; omega)
      omega
theorem itoa_nat (n : Nat) : Lib.itoa (n : Int) = Lib.decDigits n := by
  unfold Lib.itoa
  rw [if_neg (by omega), Int.toNat_natCast]
theorem itoa_len {n : Int} {k : Nat} (h0 : 0 ≤ n) (hk : 1 ≤ k) (h : n < 10 ^ k) : (Lib.itoa n).length ≤ k := by
  obtain ⟨m, rfl⟩ : ∃ m : Nat, n = m := ⟨n.toNat, by omega⟩
  rw [itoa_nat, Lib.decDigits_length]
  exact nDig_le k m hk (by exact_mod_cast h)
theorem pdL_len {n : Int} {w : Nat} (h : (Lib.itoa n).length ≤ w) : (pdL n w).length = w := by
  unfold pdL
  rw [List.length_append, List.length_replicate]
  omega
theorem pad_size {n : Int} {w : Nat} (h : (Lib.itoa n).length ≤ w) : (pad n w).size = w := by
  unfold pad
  rw [size_B, pdL_len h]
theorem l4 {n : Int} (h0 : 0 ≤ n) (h : n ≤ 9999) : (Lib.itoa n).length ≤ 4 := itoa_len h0 (by decide) (by omega)
theorem l2 {n : Int} (h0 : 0 ≤ n) (h : n ≤ 99) : (Lib.itoa n).length ≤ 2 := itoa_len h0 (by decide) (by omega)
theorem l1 {n : Int} (h0 : 0 ≤ n) (h : n ≤ 9) : (Lib.itoa n).length ≤ 1 := itoa_len h0 (by decide) (by omega)
theorem rep48 (n : Nat) : Lib.repeatL [48] n = List.replicate n 48 := by
  have := Lib.repeatL_replicate 48 1 n
  simpa using this
def thu (n : Int) : Int := n - (n - 1) % 7 + 3
theorem thu_in {n : Int} (h1 : 1 ≤ n) (h2 : n ≤ 3652059) : 1 ≤ thu n ∧ thu n ≤ 3652059 := by
  have e : thu n = 7 * ((n - 1) / 7) + 4 := by unfold thu; omega
  rw [e]
  omega
def wk (y n : Int) : Int := (thu n - bef y - 1) / 7 + 1
def dtx (t v : Dt) (form : Int) : ByteArray :=
  if form = 1 then (pad t.y 4 ++ pad t.m 2) ++ pad t.d 2
  else if form = 2 then (pad (t.y % 100) 2 ++ pad t.m 2) ++ pad t.d 2
  else if form = 3 then (pad t.d 2 ++ pad t.m 2) ++ pad t.y 4
  else if form = 4 then (((pad t.y 4 ++ bs [45]) ++ pad t.m 2) ++ bs [45]) ++ pad t.d 2
  else (pad v.y 4 ++ pad (wk v.y t.n) 2) ++ pad ((t.n - 1) % 7 + 1) 1
end Go.Ra
namespace Go.Proofs.YtgoepklennckmaaGreatDoor.Eq
open Go Go.Ra
set_option linter.unusedVariables false

theorem ev_Itoa {n : Int} (h1 : -9223372036854775808 ≤ n) (h2 : n ≤ 9223372036854775807) : Ev (fun k => strconv_Itoa k n) (B (Lib.itoa n)) := by
  refine .off (n := 0) fun k => ?_
  show strconv_Itoa (k + 0) n = _
  rw [strconv_Itoa_eq, decide_eq_true h1, decide_eq_true h2]
  rfl
theorem ev_Rep48 {n : Int} (h1 : 0 ≤ n) (h2 : n ≤ 1000000) : Ev (fun k => strings_Repeat k (bs [48]) n) (B (List.replicate n.toNat 48)) := by
  refine .off (n := 0) fun k => ?_
  show strings_Repeat (k + 0) (bs [48]) n = _
  have hs : (bs [48]).size = 1 := rfl
  rw [strings_Repeat_eq, decide_eq_true h1, decide_eq_true (show n ≤ 9223372036854775807 by omega), hs, decide_eq_true (by omega)]
  show some (B (Lib.repeatL [48] n.toNat)) = _
  rw [rep48]
theorem ev_apad {n : Int} {w : Nat} (h0 : 0 ≤ n) (h1 : n ≤ 9999) (hl : (Lib.itoa n).length ≤ w) (hw : w ≤ 10) : Ev (fun k => amount_padded k n (w : Int)) (pad n w) := by
  refine .step (fun k => amount_padded_eq k _ _) (.bind (ev_Itoa (by omega) (by omega)) ?_)
  have e : wi64 ((w : Int) - ((B (Lib.itoa n)).size : Int)) = ((w - (Lib.itoa n).length : Nat) : Int) := by
    rw [size_B, wi64_id (by omega) (by omega)]; omega
  rw [e]
  refine .bind (ev_Rep48 (by omega) (by omega)) (.ck (by rw [size_B, size_B, List.length_replicate]; omega) (.to (.pure _) ?_))
  rw [B_app, Int.toNat_natCast]
  rfl
theorem ev_kIsDay (n : Int) : Ev (fun k => kit_IsDay k n) (decide (1 ≤ n ∧ n ≤ 3652059)) := by
  refine .step (fun k => kit_IsDay_eq k _) (.bind (ev_Outside' _ _ _) (.to (.pure _) ?_))
  by_cases h : 1 ≤ n ∧ n ≤ 3652059
  · rw [decide_eq_true h, decide_eq_false (by omega)]; rfl
  · rw [decide_eq_false h, decide_eq_true (by omega)]; rfl
theorem ev_WeekDay2 {n : Int} (h1 : 1 ≤ n) (h2 : n ≤ 3652059) : Ev (fun k => amount_WeekDay k n) ((n - 1) % 7) := by
  refine .step (fun k => amount_WeekDay_eq k _) (.to (.pure _) ?_)
  rw [wi64_id (by omega) (by omega), Int.tmod_eq_emod_of_nonneg (by omega)]
theorem wk_w {v : Dt} (hv : v.Ok) {n : Int} (h : v.n = thu n) : wi64 ((wi64 ((wi64 ((wi64 ((thu n) - bef v.y)) - 1)).tdiv 7)) + 1) = wk v.y n ∧ 1 ≤ wk v.y n ∧ wk v.y n ≤ 53 := by
  have hi := hv.in_year
  have hb := bef_succ v.y
  have hl := lp_01 v.y
  have hbs := bef_small (y := v.y) hv.y1 (by have := hv.y2; omega)
  rw [h] at hi
  unfold wk
  have e1 : wi64 (thu n - bef v.y) = thu n - bef v.y := wi64_id (by omega) (by omega)
  have e2 : wi64 (thu n - bef v.y - 1) = thu n - bef v.y - 1 := wi64_id (by omega) (by omega)
  rw [e1, e2, Int.tdiv_eq_ediv_of_nonneg (by omega)]
  refine ⟨?_, by omega, by omega⟩
  rw [wi64_id (x := (thu n - bef v.y - 1) / 7) (by omega) (by omega)]
  exact wi64_id (by omega) (by omega)
theorem ev_aweekOf {t v : Dt} (ht : t.Ok) (hv : v.Ok) (h : v.n = thu t.n) : Ev (fun k => amount_weekOf k t.n) (v.y, wk v.y t.n) := by
  have hn := ht.bound
  have ht3 := thu_in hn.1 hn.2
  refine .step (fun k => amount_weekOf_eq k _) (.bind (ev_WeekDay2 hn.1 hn.2) ?_)
  have e : wi64 (wi64 (t.n - (t.n - 1) % 7) + 3) = thu t.n := by
    unfold thu at *
    rw [wi64_id (x := t.n - (t.n - 1) % 7) (by omega) (by omega), wi64_id (by omega) (by omega)]
  rw [e]
  have hd := ev_adateOf hv
  rw [h] at hd
  refine .bind hd (.bind (ev_abefore hv.y1 (by have := hv.y2; omega)) (.to (.pure _) ?_))
  rw [(wk_w hv h).1]
structure Szs (t v : Dt) : Prop where
  y4 : (Lib.itoa t.y).length ≤ 4
  y2 : (Lib.itoa (t.y % 100)).length ≤ 2
  m2 : (Lib.itoa (t.m : Int)).length ≤ 2
  d2 : (Lib.itoa t.d).length ≤ 2
  v4 : (Lib.itoa v.y).length ≤ 4
  w2 : (Lib.itoa (wk v.y t.n)).length ≤ 2
  e1 : (Lib.itoa ((t.n - 1) % 7 + 1)).length ≤ 1
theorem szs {t v : Dt} (ht : t.Ok) (hv : v.Ok) (h : v.n = thu t.n) : Szs t v := by
  have y1 := ht.y1
  have y2 := ht.y2
  have v1 := hv.y1
  have v2 := hv.y2
  have m2 := ht.m2
  have d1 := ht.d1
  have d2 := ht.d2
  have hd := dom_pos t.y t.m
  have hw := wk_w hv h
  exact ⟨l4 (by omega) (by omega), l2 (by omega) (by omega), l2 (by omega) (by omega), l2 (by omega) (by omega), l4 (by omega) (by omega), l2 (by omega) (by omega), l1 (by omega) (by omega)⟩
theorem beq_no {a b : Int} (h : a ≠ b) : (a == b) = false := by simpa using h

theorem pad1 {n : Int} (h0 : 0 ≤ n) (h : n ≤ 9) : pad n 1 = B (Lib.itoa n) := by
  unfold pad pdL
  have h1 := l1 h0 h
  obtain ⟨m, rfl⟩ : ∃ m : Nat, n = m := ⟨n.toNat, by omega⟩
  have : (Lib.itoa (m : Int)).length = 1 := by
    rw [itoa_nat, Lib.decDigits_length]
    exact Lib.nDigits_small (by omega)
  rw [this]
  rfl
theorem ev_aDayText {t v : Dt} (ht : t.Ok) (hv : v.Ok) (h : v.n = thu t.n) {form : Int} (hf : 1 ≤ form ∧ form ≤ 5) : Ev (fun k => amount_DayText k t.n form) (dtx t v form, 0) := by
  have z := szs ht hv h
  have y1 := ht.y1
  have y2 := ht.y2
  have v1 := hv.y1
  have v2 := hv.y2
  have m2 := ht.m2
  have d1 := ht.d1
  have d2 := ht.d2
  have hd := dom_pos t.y t.m
  have hw := wk_w hv h
  have hn := ht.bound
  have s1 := pad_size z.y4
  have s2 := pad_size z.y2
  have s3 := pad_size z.m2
  have s4 := pad_size z.d2
  have s5 := pad_size z.v4
  have s6 := pad_size z.w2
  have s7 := pad_size z.e1
  have s8 : (bs [45]).size = 1 := rfl
  have pY := ev_apad (n := t.y) (w := 4) (by omega) (by omega) z.y4 (by omega)
  have pm := ev_apad (n := (t.m : Int)) (w := 2) (by omega) (by omega) z.m2 (by omega)
  have pd := ev_apad (n := t.d) (w := 2) (by omega) (by omega) z.d2 (by omega)
  have py := ev_apad (n := t.y % 100) (w := 2) (by omega) (by omega) z.y2 (by omega)
  have pv := ev_apad (n := v.y) (w := 4) (by omega) (by omega) z.v4 (by omega)
  have pw := ev_apad (n := wk v.y t.n) (w := 2) (by omega) (by omega) z.w2 (by omega)
  refine .step (fun k => amount_DayText_eq k _ _) (.bind (.step (fun k => amount_isForm_eq k _) (.bind (ev_Outside' _ _ _) (.pure _))) ?_)
  rw [decide_eq_false (show ¬ (form < 1 ∨ form > 5) by omega)]
  refine .ff rfl (.bind (ev_kIsDay _) ?_)
  rw [decide_eq_true hn]
  refine .ff rfl (.bind (ev_adateOf ht) ?_)
  unfold dtx
  by_cases f1 : form = 1
  · rw [if_pos f1]
    exact .tt (by simp [f1]) (.bind pY (.bind pm (.ck (by omega) (.bind pd (.ck (by rw [ByteArray.size_append]; omega) (.pure _))))))
  rw [if_neg f1]
  refine .ff (beq_no f1) ?_
  by_cases f2 : form = 2
  · rw [if_pos f2]
    refine .tt (by simp [f2]) ?_
    rw [Int.tmod_eq_emod_of_nonneg (by omega)]
    exact .bind py (.bind pm (.ck (by omega) (.bind pd (.ck (by rw [ByteArray.size_append]; omega) (.pure _)))))
  rw [if_neg f2]
  refine .ff (beq_no f2) ?_
  by_cases f3 : form = 3
  · rw [if_pos f3]
    exact .tt (by simp [f3]) (.bind pd (.bind pm (.ck (by omega) (.bind pY (.ck (by rw [ByteArray.size_append]; omega) (.pure _))))))
  rw [if_neg f3]
  refine .ff (beq_no f3) ?_
  by_cases f4 : form = 4
  · rw [if_pos f4]
    exact .tt (by simp [f4]) (.bind pY (.ck (by omega) (.bind pm (.ck (by rw [ByteArray.size_append]; omega) (.ck (by rw [ByteArray.size_append, ByteArray.size_append]; omega) (.bind pd (.ck (by rw [ByteArray.size_append, ByteArray.size_append, ByteArray.size_append]; omega) (.pure _))))))))
  rw [if_neg f4]
  refine .ff (beq_no f4) (.bind (ev_aweekOf ht hv h) (.bind pv (.bind pw (.ck (by omega) (.bind (ev_WeekDay2 hn.1 hn.2) ?_)))))
  rw [wi64_id (x := (t.n - 1) % 7 + 1) (by omega) (by omega)]
  have s9 := pad_size z.e1
  rw [pad1 (by omega) (by omega)] at s9 ⊢
  exact .bind (ev_Itoa (by omega) (by omega)) (.ck (by rw [ByteArray.size_append]; omega) (.pure _))
end Go.Proofs.YtgoepklennckmaaGreatDoor.Eq
namespace Go.Ra
open Go Go.Ra
def revDig : Nat → Nat → List UInt8
  | 0, _ => []
  | f + 1, n => if n = 0 then [] else UInt8.ofNat (48 + n % 10) :: revDig f (n / 10)
theorem dec_rev : ∀ (f n : Nat), n ≤ f → 0 < n → (revDig f n).reverse = Lib.decDigits n
  | 0, n, h, h0 => by omega
  | f + 1, n, h, h0 => by
    unfold revDig
    rw [if_neg (by omega)]
    by_cases h10 : n < 10
    · have e : n / 10 = 0 := Nat.div_eq_of_lt h10
      have e2 : n % 10 = n := Nat.mod_eq_of_lt h10
      rw [e, e2]
      have : revDig f 0 = [] := by cases f <;> simp [revDig]
      rw [this, Lib.decDigits_one h10]
      rfl
    · rw [List.reverse_cons, dec_rev f (n / 10) (by omega) (by omega)]
      conv => rhs; rw [Lib.decDigits]
      rw [dif_neg h10]
theorem revDig_more : ∀ (f g n : Nat), n ≤ f → n ≤ g → revDig f n = revDig g n
  | 0, 0, _, _, _ => rfl
  | 0, g + 1, n, h, _ => by
    have : n = 0 := by omega
    subst this; simp [revDig]
  | f + 1, 0, n, _, h => by
    have : n = 0 := by omega
    subst this; simp [revDig]
  | f + 1, g + 1, n, h1, h2 => by
    unfold revDig
    split
    · rfl
    · rw [revDig_more f g (n / 10) (by omega) (by omega)]
theorem revDig_step {n : Nat} (h : 0 < n) : revDig n n = UInt8.ofNat (48 + n % 10) :: revDig (n / 10) (n / 10) := by
  obtain ⟨m, rfl⟩ : ∃ m, n = m + 1 := ⟨n - 1, by omega⟩
  conv => lhs; unfold revDig
  rw [if_neg (by omega), revDig_more m ((m + 1) / 10) _ (by omega) (Nat.le_refl _)]
def bl (l : List UInt8) : List Int := l.map fun b => ((b.toNat : Nat) : Int)
theorem strOf_bl (l : List UInt8) : strOf (bl l) = B l := by
  unfold strOf bl B
  congr 1
  rw [List.map_map]
  congr 1
  conv => rhs; rw [← List.map_id l]
  apply List.map_congr_left
  intro b _
  simp
theorem bl_app (l m : List UInt8) : bl (l ++ m) = bl l ++ bl m := by simp [bl]
theorem bl_len (l : List UInt8) : (bl l).length = l.length := by simp [bl]
theorem revDig_dig : ∀ (f n : Nat), ∀ b ∈ revDig f n, dgB b = true
  | 0, _, b, h => by simp [revDig] at h
  | f + 1, n, b, h => by
    unfold revDig at h
    split at h
    · simp at h
    · rcases List.mem_cons.1 h with rfl | h
      · rw [dgB_iff, UInt8.toNat_ofNat']
        omega
      · exact revDig_dig f _ b h
theorem dv_rev : ∀ (f n : Nat), n ≤ f → dv (revDig f n).reverse = n
  | 0, n, h => by
    have : n = 0 := by omega
    subst this
    rfl
  | f + 1, n, h => by
    unfold revDig
    by_cases hn : n = 0
    · rw [if_pos hn, hn]; rfl
    · rw [if_neg hn, List.reverse_cons, dv_app, dv_rev f _ (by omega), dv_one, UInt8.toNat_ofNat']
      simp only [List.length_singleton]
      omega
theorem dec_dig (n : Nat) : digB (Lib.decDigits n) = true ∧ dv (Lib.decDigits n) = n := by
  rcases Nat.eq_zero_or_pos n with rfl | h
  · rw [Lib.decDigits_one (by decide)]
    exact ⟨rfl, rfl⟩
  · rw [← dec_rev n n (Nat.le_refl _) h]
    refine ⟨digB_iff.2 ⟨?_, fun b hb => revDig_dig n n b (by simpa using hb)⟩, dv_rev n n (Nat.le_refl _)⟩
    rw [revDig_step h]
    simp
end Go.Ra
namespace Go.Proofs.YtgoepklennckmaaGreatDoor.Eq
open Go Go.Ra
set_option linter.unusedVariables false

theorem ev_trim1_c1 : ∀ (n : Nat) (l : List Int), l.length = n → n < 1099511627776 → Dg 4294967296 l → Ev (fun k => whole_trimmed_1_c1 k l) (digs 4294967296 (Vb 4294967296 l).toNat) := by
  intro n
  induction n with
  | zero =>
    intro l hl hn hd
    have : l = [] := List.eq_nil_of_length_eq_zero hl
    subst this
    exact .step (fun k => whole_trimmed_1_c1_eq k _) (.tt rfl (.tt rfl (.ff rfl (.pure _))))
  | succ n ih =>
    intro l hl hn hd
    have hw : wi64 ((l.length : Int) - 1) = (n : Int) := by rw [wi64_id (by omega) (by omega)]; omega
    have hlast : l = l.take n ++ [l.getD n 0] := by
      have h1 := List.take_append_drop n l
      rw [drop_cons (l := l) (i := n) (by omega), List.drop_of_length_le (by omega)] at h1
      exact h1.symm
    refine .step (fun k => whole_trimmed_1_c1_eq k _) ?_
    rw [hw, Int.toNat_natCast]
    refine .tt (bor' fun _ => by simp) (.tt (bor' fun _ => by simp; omega) ?_)
    by_cases h0 : l.getD n 0 = 0
    · refine .tt ?_ (.ck (by omega) (.ck (by omega) ?_))
      · rw [decide_eq_true (show (l.length : Int) > 0 by omega), h0]; rfl
      · have := ih (l.take n) (by rw [List.length_take]; omega) (by omega) (hd.take n)
        have e : Vb 4294967296 l = Vb 4294967296 (l.take n) := by
          conv => lhs; rw [hlast, h0]
          rw [Vb_append, Vb_one]
          simp
        rw [e]
        exact this
    · refine .ff ?_ (.to (.pure _) ?_)
      · rw [decide_eq_true (show (l.length : Int) > 0 by omega)]
        simpa using h0
      · refine dE hd ?_
        rw [hlast]
        simp only [List.getLast?_append, List.getLast?_singleton, Option.some_or]
        intro z
        exact h0 (Option.some.inj z)
theorem ev_Div32 (r d : Int) (hr : 0 ≤ r) (hr2 : r < 10) (hd : 0 ≤ d) (hd2 : d < 4294967296) : Ev (fun k => bits_Div32 k r d 10) ((r * 4294967296 + d) / 10, (r * 4294967296 + d) % 10) := by
  have e1 : wu64 10 = 10 := wu64_id (by decide) (by decide)
  have e2 : wu64 r = r := wu64_id hr (by omega)
  have e3 : wu64 d = d := wu64_id hd (by omega)
  have e4 : shlI .u64 r 32 = r * 4294967296 := shl_id 32 rfl (by decide) hr (by omega)
  have e5 : bitsI .or .u64 (r * 4294967296) d = r * 4294967296 + d := or_add (i := 32) rfl hr hd (by
    show r * 4294967296 + d < 18446744073709551616
    omega) hd2
  refine .step (fun k => bits_Div32_eq k _ _ _) (.ff (by rw [decide_eq_false (by omega)]; rfl) ?_)
  rw [e1, e2, e3, e4, e5]
  refine .tt rfl (.tt rfl (.to (.pure _) ?_))
  rw [Int.tdiv_eq_ediv_of_nonneg (by omega), Int.tmod_eq_emod_of_nonneg (by omega), wu64_id (by omega) (by omega), wu32_id (by omega) (by omega), wu32_id (by omega) (by omega)]

theorem ev_Text_c8 (s1 : Bool × List Int) (s3 : List Int) (l0 : List Int) (hd0 : Dg 4294967296 l0) (hn : l0.length < 1000) (hn3 : s3.length < 100000) {y : ByteArray}
    (hy : Ev (fun k => whole_Int_Text_c5 k s1 (s3 ++ [48 + Vb 4294967296 l0 % 10]) (digs 4294967296 (Vb 4294967296 l0 / 10).toNat)) y) :
    Ev (fun k => whole_Int_Text_c8 k s1 s3 l0 0 (wi64 ((l0.length : Int) - 1))) y := by
  have key : ∀ (i : Nat) (l : List Int) (r : Int), i ≤ l0.length → l.length = l0.length → Dg 4294967296 l → 0 ≤ r → r < 10 → l.take i = l0.take i → Vb 4294967296 (l.drop i) * 10 + r = Vb 4294967296 (l0.drop i) →
      Ev (fun k => whole_Int_Text_c8 k s1 s3 l r ((i : Int) - 1)) y := by
    intro i
    induction i with
    | zero =>
      intro l r hi hl hd hr hr2 ht hv
      simp only [List.drop_zero] at hv
      have hVl := Vb_nonneg (b := 4294967296) (by decide) hd
      have e10 : Vb 4294967296 l0 % 10 = r := by omega
      have ed : Vb 4294967296 l0 / 10 = Vb 4294967296 l := by omega
      rw [e10, ed] at hy
      have ew : wu8 (48 + wu8 r) = 48 + r := by rw [wu8_id (x := r) hr (by omega), wu8_id (by omega) (by omega)]
      refine .step (fun k => whole_Int_Text_c8_eq k _ _ _ _ _) (.nk (by omega) (.ck (by omega) (.bind (.step (fun k => whole_trimmed_1_eq k _) (ev_trim1_c1 _ l rfl (by omega) hd)) ?_)))
      rw [ew]
      exact hy
    | succ i ih =>
      intro l r hi hl hd hr hr2 ht hv
      have hi' : i < l.length := by omega
      have hi0 : i < l0.length := by omega
      have hx := hd0.at (by decide) i
      have hgl : l.getD i 0 = l0.getD i 0 := by
        have h1 : (l.take (i + 1))[i]? = (l0.take (i + 1))[i]? := by rw [ht]
        rw [List.getElem?_take_of_lt (by omega), List.getElem?_take_of_lt (by omega)] at h1
        rw [List.getD_eq_getElem?_getD, h1, ← List.getD_eq_getElem?_getD]
      have e0 : (((i + 1 : Nat) : Int) - 1) = (i : Int) := by omega
      rw [e0]
      refine .step (fun k => whole_Int_Text_c8_eq k _ _ _ _ _) (.ck (by omega) (.ck (by omega) (.ck (by omega) ?_)))
      rw [Int.toNat_natCast, hgl]
      have hq1 : 0 ≤ (r * 4294967296 + l0.getD i 0) / 10 := by omega
      have hq2 : (r * 4294967296 + l0.getD i 0) / 10 < 4294967296 := by omega
      refine .bind (ev_Div32 r _ hr hr2 hx.1 hx.2) (.ck (by omega) (.ck (by omega) ?_))
      rw [show wi64 ((i : Int) - 1) = (i : Int) - 1 from wi64_id (by omega) (by omega)]
      refine ih (l.set i ((r * 4294967296 + l0.getD i 0) / 10)) _ (by omega) (by rw [List.length_set]; exact hl) (hd.set i hq1 hq2) (by omega) (by omega) ?_ ?_
      · rw [List.take_set_of_le (by omega)]
        have := congrArg (List.take i) ht
        rw [List.take_take, List.take_take, Nat.min_eq_left (by omega)] at this
        exact this
      · rw [drop_consI (l := l.set i _) (by rw [List.length_set]; exact hi'), lset_eq _ _ _ hi', drop_consI hi0]
        have hds : (l.set i ((r * 4294967296 + l0.getD i 0) / 10)).drop (i + 1) = l.drop (i + 1) := by
          rw [List.drop_set_of_lt (by omega)]
        rw [hds]
        simp only [Vb]
        rw [← hv]
        omega
  have hw : wi64 ((l0.length : Int) - 1) = (l0.length : Int) - 1 := wi64_id (by omega) (by omega)
  rw [hw]
  refine key l0.length l0 0 (Nat.le_refl _) rfl hd0 (by decide) (by decide) rfl ?_
  rw [List.drop_of_length_le (Nat.le_refl _)]
  simp [Vb]
end Go.Proofs.YtgoepklennckmaaGreatDoor.Eq
namespace Go.Proofs.YtgoepklennckmaaGreatDoor.Eq
open Go Go.Ra
set_option linter.unusedVariables false

def okD (d : Int × Int) : Prop := -1000000000000000 ≤ d.1 ∧ d.1 ≤ 1000000000000000 ∧ 0 ≤ d.2 ∧ d.2 ≤ 9
instance (d : Int × Int) : Decidable (okD d) := by unfold okD; infer_instance

theorem ev_Outside (a b c : Int) : Ev (fun k => kit_Outside k a b c) (decide (a < b ∨ a > c)) := by
  refine .step (fun k => kit_Outside_eq k a b c) (.to (.pure _) ?_)
  by_cases h : a < b <;> simp [h]

theorem ev_CheckDecimal (d : Int × Int) : Ev (fun k => amount_CheckDecimal k d) (if okD d then 0 else 1) := by
  refine .step (fun k => amount_CheckDecimal_eq k d) (.bind (ev_Outside _ _ _) ?_)
  by_cases h : d.1 < -1000000000000000 ∨ d.1 > 1000000000000000
  · refine .bind (x := false) (.ff (by simp [h]) (.pure _)) (.tt (by simp [h]) (.to (.pure _) ?_))
    rw [if_neg]
    intro z
    unfold okD at z
    omega
  · refine .bind (.tt (by simp [h]) (ev_Outside _ _ _)) ?_
    by_cases h2 : d.2 < 0 ∨ d.2 > 9
    · refine .tt (by simp [h, h2]) (.to (.pure _) ?_)
      rw [if_neg]
      intro z
      unfold okD at z
      omega
    · refine .ff (by simp [h, h2]) (.to (.pure _) ?_)
      rw [if_pos]
      unfold okD
      omega

theorem getD_eta (l : List (Int × Int)) (i : Nat) : ((l.getD i (0, 0)).1, (l.getD i (0, 0)).2) = l.getD i (0, 0) := rfl

theorem dropp_cons {α : Type} {l : List α} {i : Nat} {d : α} (h : i < l.length) : l.drop i = l.getD i d :: l.drop (i + 1) := by
  rw [List.drop_eq_getElem_cons h, List.getD_eq_getElem?_getD, List.getElem?_eq_getElem h]
  rfl

theorem wi_succ {i n : Nat} (h : i < n) (hn : n < 1125899906842624) : wi64 ((i : Int) + 1) = ((i + 1 : Nat) : Int) := by
  rw [wi64_id (by omega) (by omega)]
  rfl

theorem ev_CheckDecimals (l : List (Int × Int)) (hn : l.length < 1125899906842624) : Ev (fun k => amount_CheckDecimals k l) (if ∀ d ∈ l, okD d then 0 else 1) := by
  have key : ∀ (m i : Nat), l.length - i = m → i ≤ l.length → Ev (fun k => amount_CheckDecimals_c2 k l (l.length : Int) (i : Int)) (if ∀ d ∈ l.drop i, okD d then 0 else 1) := by
    intro m
    induction m with
    | zero =>
      intro i hm hi
      refine .step (fun k => amount_CheckDecimals_c2_eq k _ _ _) (.nk (by omega) (.to (.pure _) ?_))
      rw [List.drop_of_length_le (by omega)]
      simp
    | succ m ih =>
      intro i hm hi
      refine .step (fun k => amount_CheckDecimals_c2_eq k _ _ _) (.ck (by omega) (.ck (by omega) (.ck (by omega) ?_)))
      rw [Int.toNat_natCast, getD_eta, dropp_cons (d := (0, 0)) (show i < l.length by omega)]
      refine .bind (ev_CheckDecimal _) ?_
      by_cases h : okD (l.getD i (0, 0))
      · rw [if_pos h, wi_succ (show i < l.length by omega) hn]
        refine .ff (by simp) (.to (ih (i + 1) (by omega) (by omega)) ?_)
        simp only [List.forall_mem_cons, h, true_and]
      · rw [if_neg h]
        refine .tt (by simp) (.to (.pure _) ?_)
        simp only [List.forall_mem_cons, h, false_and, if_false]
  exact .step (fun k => amount_CheckDecimals_eq k l) (key _ 0 rfl (by omega))

def sc (d : Int × Int) (p : Int) : Int := d.1 * 10 ^ (p - d.2).toNat

theorem pow10_abs (n : Nat) : ((10 : Int) ^ n).natAbs = 10 ^ n := by rw [Int.natAbs_pow]; rfl
theorem pow10_le {n : Nat} (m : Nat) (h : n ≤ m) : (10 : Nat) ^ n ≤ 10 ^ m := Nat.pow_le_pow_right (by omega) h
theorem Sm.pow10 {n : Nat} (h : n ≤ 130) : Sm (10 ^ n) := .of (by rw [pow10_abs]; exact pow10_le 130 h)
theorem sc_abs {d : Int × Int} {p : Int} (h : okD d) (hp : p ≤ 20) : (sc d p).natAbs ≤ 10 ^ 35 := by
  unfold sc
  unfold okD at h
  rw [Int.natAbs_mul, pow10_abs]
  have h1 : d.1.natAbs ≤ 10 ^ 15 := by omega
  have h2 : (10 : Nat) ^ (p - d.2).toNat ≤ 10 ^ 20 := pow10_le 20 (by omega)
  exact Nat.le_trans (Nat.mul_le_mul h1 h2) (by decide)

theorem ev_Scaled (d : Int × Int) (p : Int) (h : okD d) (hp : d.2 ≤ p) (hp2 : p ≤ 20) : Ev (fun k => amount_Scaled k d p) (W (sc d p)) := by
  have h' := h
  unfold okD at h'
  have e : wi64 (p - d.2) = (((p - d.2).toNat : Nat) : Int) := by rw [wi64_id (by omega) (by omega)]; omega
  refine .step (fun k => amount_Scaled_eq k d p) (.bind (ev_Of d.1 (by omega) (by omega)) ?_)
  rw [e]
  exact .bind (ev_Power _ (by omega)) (.ret (ev_Times d.1 _ (.of (Nat.le_trans (show d.1.natAbs ≤ 10 ^ 15 by omega) (by decide))) (.pow10 (by omega))) rfl)

theorem ev_Value (d : Int × Int) (h : okD d) : Ev (fun k => amount_Value k d) (W (sc d 9)) :=
  .step (fun k => amount_Value_eq k d) (.ret (ev_Scaled d 9 h h.2.2.2 (by omega)) rfl)

def mk (v p : Int) : (Int × Int) × Int := if v.natAbs ≤ 1000000000000000 then ((v, p), 0) else ((0, 0), 1)
theorem ev_Made (v p : Int) : Ev (fun k => amount_Made k (W v) p) (mk v p) := by
  refine .step (fun k => amount_Made_eq k _ p) (.bind (ev_Int v 1000000000000000 (by omega) (by omega)) ?_)
  unfold mk
  by_cases h : v.natAbs ≤ 1000000000000000
  · rw [if_pos h, if_pos (by omega)]
    exact .ff rfl (.pure _)
  · rw [if_neg h, if_neg (by omega)]
    exact .tt rfl (.pure _)

def pl : List (Int × Int) → Int
  | [] => 0
  | d :: l => max d.2 (pl l)
def sumV (p : Int) : List (Int × Int) → Int
  | [] => 0
  | d :: l => sc d p + sumV p l
theorem pl_nonneg : ∀ l, 0 ≤ pl l
  | [] => Int.le_refl _
  | d :: l => by have := pl_nonneg l; simp only [pl]; omega
theorem pl_le : ∀ {l}, (∀ d ∈ l, okD d) → pl l ≤ 9
  | [], _ => by simp [pl]
  | d :: l, h => by
    have h1 := (h d (by simp)).2.2.2
    have h2 := pl_le (l := l) fun x hx => h x (by simp [hx])
    simp only [pl]
    omega
theorem pl_mem : ∀ {l} {d : Int × Int}, d ∈ l → d.2 ≤ pl l
  | x :: l, d, h => by
    simp only [pl]
    rcases List.mem_cons.1 h with rfl | h
    · omega
    · have := pl_mem h
      omega
theorem sumV_append (p : Int) : ∀ a b, sumV p (a ++ b) = sumV p a + sumV p b
  | [], b => by simp [sumV]
  | d :: a, b => by simp only [List.cons_append, sumV, sumV_append p a b]; omega
theorem sc_scale {d : Int × Int} {q p : Int} (h1 : d.2 ≤ q) (h2 : q ≤ p) : sc d q * 10 ^ (p - q).toNat = sc d p := by
  unfold sc
  rw [Int.mul_assoc, ← Int.pow_add]
  congr 2
  omega
theorem sumV_scale {q p : Int} (h2 : q ≤ p) : ∀ {l}, (∀ d ∈ l, d.2 ≤ q) → sumV q l * 10 ^ (p - q).toNat = sumV p l
  | [], _ => by simp [sumV]
  | d :: l, h => by
    simp only [sumV, Int.add_mul]
    rw [sumV_scale h2 (l := l) fun x hx => h x (by simp [hx]), sc_scale (h d (by simp)) h2]
theorem sumV_abs {p : Int} (hp : p ≤ 20) : ∀ {l}, (∀ d ∈ l, okD d) → (sumV p l).natAbs ≤ l.length * 10 ^ 35
  | [], _ => by simp [sumV]
  | d :: l, h => by
    have h1 := sc_abs (h d (by simp)) hp
    have h2 := sumV_abs hp (l := l) fun x hx => h x (by simp [hx])
    simp only [sumV, List.length_cons]
    omega

def sumR (l : List (Int × Int)) : (Int × Int) × Int := if l.length > 1000 then ((0, 0), 2) else if ∀ d ∈ l, okD d then mk (sumV (pl l) l) (pl l) else ((0, 0), 1)

theorem ev_Sum_c14 (s2 : Int × Int) (l : List (Int × Int)) (p : Int) (hl : l.length ≤ 1000) (hok : ∀ d ∈ l, okD d) (hp : ∀ d ∈ l, d.2 ≤ p) (hp2 : p ≤ 20) : ∀ (m i : Nat), l.length - i = m → i ≤ l.length →
    Ev (fun k => amount_Sum_c14 k s2 p (W (sumV p (l.take i))) l (l.length : Int) (i : Int)) (mk (sumV p l) p) := by
  intro m
  induction m with
  | zero =>
    intro i hm hi
    rw [List.take_of_length_le (by omega)]
    exact .step (fun k => amount_Sum_c14_eq k _ _ _ _ _ _) (.nk (by omega) (.ret (ev_Made _ _) rfl))
  | succ m ih =>
    intro i hm hi
    have hlt : i < l.length := by omega
    have hmem : l.getD i (0, 0) ∈ l := by
      rw [List.getD_eq_getElem?_getD, List.getElem?_eq_getElem hlt]
      exact List.getElem_mem hlt
    refine .step (fun k => amount_Sum_c14_eq k _ _ _ _ _ _) (.ck (by omega) (.ck (by omega) (.ck (by omega) ?_)))
    rw [Int.toNat_natCast, getD_eta, wi_succ hlt (by omega)]
    refine .bind (ev_Scaled _ p (hok _ hmem) (hp _ hmem) hp2) (.bind (ev_Plus _ _ (.of ?_) (.of (Nat.le_trans (sc_abs (hok _ hmem) hp2) (by decide)))) ?_)
    · have := sumV_abs hp2 (l := l.take i) fun d hd => hok d (List.mem_of_mem_take hd)
      have h3 : (l.take i).length ≤ 1000 := by rw [List.length_take]; omega
      have h4 := Nat.mul_le_mul_right (10 ^ 35) h3
      have h5 : 1000 * 10 ^ 35 ≤ 10 ^ 130 := by decide
      omega
    · have : sumV p (l.take i) + sc (l.getD i (0, 0)) p = sumV p (l.take (i + 1)) := by
        rw [List.take_add_one, List.getElem?_eq_getElem hlt, sumV_append, List.getD_eq_getElem?_getD, List.getElem?_eq_getElem hlt]
        simp [sumV]
      rw [this]
      exact ih (i + 1) (by omega) (by omega)

theorem maxI_eq (x y : Int) : maxI x y = max x y := by unfold maxI; split <;> omega

theorem ev_Sum_c8 (s0 : List (Int × Int)) (s2 : Int × Int) (l : List (Int × Int)) (hl : l.length ≤ 1000) {r : (Int × Int) × Int} (hr : Ev (fun k => amount_Sum_c14 k s2 (pl l) (W 0) s0 (s0.length : Int) 0) r) : ∀ (m i : Nat) (q : Int), l.length - i = m → i ≤ l.length → 0 ≤ q → max q (pl (l.drop i)) = pl l →
    Ev (fun k => amount_Sum_c8 k s0 s2 q l (l.length : Int) (i : Int)) r := by
  intro m
  induction m with
  | zero =>
    intro i q hm hi h hq
    rw [List.drop_of_length_le (by omega)] at hq
    refine .step (fun k => amount_Sum_c8_eq k _ _ _ _ _ _) (.nk (by omega) (.bind (ev_Of 0 (by omega) (by omega)) ?_))
    have : q = pl l := by simp only [pl] at hq; omega
    rw [this]
    exact hr
  | succ m ih =>
    intro i q hm hi h hq
    have hlt : i < l.length := by omega
    refine .step (fun k => amount_Sum_c8_eq k _ _ _ _ _ _) (.ck (by omega) (.ck (by omega) (.ck (by omega) ?_)))
    rw [Int.toNat_natCast, wi_succ hlt (by omega), maxI_eq]
    refine ih (i + 1) _ (by omega) (by omega) (by omega) ?_
    rw [dropp_cons (d := (0, 0)) hlt] at hq
    simp only [pl] at hq
    omega

theorem ev_Sum (l : List (Int × Int)) : Ev (fun k => amount_Sum k l) (sumR l) := by
  unfold sumR
  refine .step (fun k => amount_Sum_eq k l) (.dec (fun h => ?_) (fun h => ?_))
  · rw [if_pos (by omega)]
    exact .pure _
  · rw [if_neg (by omega)]
    refine .bind (ev_CheckDecimals l (by omega)) ?_
    by_cases hok : ∀ d ∈ l, okD d
    · rw [if_pos hok, if_pos hok]
      refine .ff rfl ?_
      have := ev_Sum_c14 (0, 0) l (pl l) (by omega) hok (fun d hd => pl_mem hd) (by have := pl_le hok; omega) _ 0 rfl (by omega)
      refine ev_Sum_c8 l (0, 0) l (by omega) this _ 0 0 rfl (by omega) (by omega) ?_
      have := pl_nonneg l
      simp only [List.drop_zero]
      omega
    · rw [if_neg hok, if_neg hok]
      exact .tt rfl (.pure _)

theorem ev_acompare (a b : Int × Int) (ha : okD a) (hb : okD b) : Ev (fun k => amount_Compare k a b) ((sc a 9 - sc b 9).sign, 0) := by
  refine .step (fun k => amount_Compare_eq k a b) (.bind (ev_CheckDecimals [a, b] (by simp)) ?_)
  rw [if_pos (by simp [ha, hb])]
  exact .ff rfl (.bind (ev_Value a ha) (.bind (ev_Value b hb) (.bind (ev_Compare _ _ (.of (Nat.le_trans (sc_abs ha (by omega)) (by decide))) (.of (Nat.le_trans (sc_abs hb (by omega)) (by decide)))) (.pure _))))
end Go.Proofs.YtgoepklennckmaaGreatDoor.Eq
namespace Go.Proofs.YtgoepklennckmaaGreatDoor.Eq
open Go Go.Ra
set_option linter.unusedVariables false

def N (n : Int) : Bool × List Int := (decide (n < 0), digs 1000000 n.natAbs)
def Sr (n : Int) : Prop := n.natAbs < 1000000 ^ 100
theorem Sr.len {n : Int} (h : Sr n) : (N n).2.length ≤ 100 := digs_len (by omega) 100 _ h
theorem Sr.of {n : Int} (h : n.natAbs ≤ 10 ^ 130) : Sr n := Nat.lt_of_le_of_lt h (by decide)

theorem Sr.neg {a : Int} (h : Sr a) : Sr (-a) := by unfold Sr at *; omega
end Go.Proofs.YtgoepklennckmaaGreatDoor.Eq
namespace Go.Proofs.YtgoepklennckmaaGreatDoor.Eq
open Go Go.Ra
set_option linter.unusedVariables false

/- products -/
/- as an int -/
/- long division -/
theorem sign_nonneg_iff (a : Int) : a.sign ≥ 0 ↔ 0 ≤ a := by
  rcases Int.lt_trichotomy a 0 with h | h | h
  · rw [Int.sign_eq_neg_one_of_neg h]; omega
  · subst h; simp
  · rw [Int.sign_eq_one_of_pos h]; omega

end Go.Proofs.YtgoepklennckmaaGreatDoor.Eq
namespace Go.Proofs.YtgoepklennckmaaGreatDoor.Eq
open Go Go.Ra
set_option linter.unusedVariables false

theorem Sr.pow10 {n : Nat} (h : n ≤ 130) : Sr (10 ^ n) := .of (by rw [pow10_abs]; exact pow10_le 130 h)

def cmpR (a b : Int × Int) : Int × Int := if okD a ∧ okD b then ((sc a 9 - sc b 9).sign, 0) else (0, 1)

theorem ev_aCompare (a b : Int × Int) : Ev (fun k => amount_Compare k a b) (cmpR a b) := by
  unfold cmpR
  by_cases h : okD a ∧ okD b
  · rw [if_pos h]
    exact ev_acompare a b h.1 h.2
  · rw [if_neg h]
    refine .step (fun k => amount_Compare_eq k a b) (.bind (ev_CheckDecimals [a, b] (by simp)) ?_)
    rw [if_neg (by simpa using h)]
    exact .tt rfl (.pure _)

end Go.Proofs.YtgoepklennckmaaGreatDoor.Eq
namespace Go.Proofs.YtgoepklennckmaaGreatDoor.Eq
open Go Go.Ra
set_option linter.unusedVariables false

theorem lt_pow_of {x b k : Nat} (h : (x : Int) < (b : Int) ^ k) : x < b ^ k := by
  rw [← Int.natCast_pow] at h
  omega
theorem cp2 (n : Nat) : ((2 ^ n : Nat) : Int) = (2 : Int) ^ n := Int.natCast_pow 2 n

theorem bit_at (A m s : Nat) (hs : s < 32) : (A / 4294967296 ^ m % 4294967296) / 2 ^ s % 2 = A / 2 ^ (32 * m + s) % 2 := by
  have e1 : (4294967296 : Nat) ^ m = 2 ^ (32 * m) := by rw [show (4294967296 : Nat) = 2 ^ 32 from rfl, ← Nat.pow_mul]
  have e2 : (4294967296 : Nat) = 2 ^ s * 2 ^ (32 - s) := by rw [← Nat.pow_add, show s + (32 - s) = 32 by omega]
  rw [e1, Nat.pow_add, ← Nat.div_div_eq_div_mul]
  generalize A / 2 ^ (32 * m) = X
  rw [e2, Nat.mod_mul_right_div_self]
  exact Nat.mod_mod_of_dvd _ (Nat.dvd_trans (show 2 ∣ 2 ^ 1 by decide) (Nat.pow_dvd_pow 2 (by omega)))

theorem Vb_digit {l : List Int} (h : Dg 4294967296 l) : ∀ m : Nat, l.getD m 0 = (((Vb 4294967296 l).toNat / 4294967296 ^ m % 4294967296 : Nat) : Int) := by
  induction l with
  | nil => intro m; simp [Vb]
  | cons d l ih =>
    intro m
    obtain ⟨⟨h1, h2⟩, h3⟩ := h.cons
    have hv := Vb_nonneg (b := 4294967296) (by omega) h3
    have hn : (Vb 4294967296 (d :: l)).toNat = d.toNat + 4294967296 * (Vb 4294967296 l).toNat := by
      simp only [Vb]
      omega
    rw [hn]
    cases m with
    | zero =>
      simp
      omega
    | succ m =>
      rw [List.getD_cons_succ, ih h3 m, Nat.pow_succ', ← Nat.div_div_eq_div_mul, Nat.add_mul_div_left _ _ (show 0 < 4294967296 by omega), Nat.div_eq_of_lt (show d.toNat < 4294967296 by omega), Nat.zero_add]

theorem shr_u32 (x : Int) {s : Int} {n : Nat} (hs : s = n) (hn : n ≤ 32) : shrI .u32 x s = x / 2 ^ n := by
  subst hs
  show x / 2 ^ (min ((n : Int)).toNat 32) = _
  rw [Int.toNat_natCast, Nat.min_eq_left hn]
theorem shl1_u32 {s : Int} {n : Nat} (hs : s = n) (hn : n < 32) : shlI .u32 1 s = 2 ^ n := by
  subst hs
  show wu32 (1 * 2 ^ (min ((n : Int)).toNat 32)) = _
  rw [Int.toNat_natCast, Nat.min_eq_left (by omega), Int.one_mul]
  have h : (2 : Nat) ^ n ≤ 2 ^ 31 := Nat.pow_le_pow_right (by omega) (by omega)
  rw [← cp2]
  generalize 2 ^ n = u at h ⊢
  exact wu32_id (by omega) (by omega)

theorem ev_By_c4 (A D : Nat) (s2n s3n : Bool) (s4 s5 : Bool × List Int) (hD : 0 < D) (hA : (digs 4294967296 A).length ≤ 100) (hDl : (digs 4294967296 D).length ≤ 100) : ∀ (n : Nat) (q : List Int), n ≤ 32 * (digs 4294967296 A).length → q.length = (digs 4294967296 A).length → Dg 4294967296 q → Vb 4294967296 q = ((A / 2 ^ n / D * 2 ^ n : Nat) : Int) →
    Ev (fun k => whole_Int_By_c4 k (s2n, digs 4294967296 A) (s3n, digs 4294967296 D) s4 s5 q (digs 4294967296 (A / 2 ^ n % D)) ((n : Int) - 1)) (W ((A / D : Nat) : Int), W ((A % D : Nat) : Int)) := by
  have hsmall : ∀ x : Nat, x < D → (digs 4294967296 x).length ≤ 100 := by
    intro x hx
    have h1 := Vb_lt (b := 4294967296) (by omega) (dD D)
    rw [dV] at h1
    have h2 : D < 4294967296 ^ (digs 4294967296 D).length := lt_pow_of (b := 4294967296) h1
    have h3 : (4294967296 : Nat) ^ (digs 4294967296 D).length ≤ 4294967296 ^ 100 := Nat.pow_le_pow_right (by omega) hDl
    exact digs_len (b := 4294967296) (by decide) 100 x (Nat.lt_trans hx (Nat.lt_of_lt_of_le h2 h3))
  intro n
  induction n with
  | zero =>
    intro q hle hql hqd hqv
    refine .step (fun k => whole_Int_By_c4_eq k _ _ _ _ _ _ _) (.nk (by omega) (.bind (ev_made false q (by omega) hqd) (.bind (ev_made_digs false _ ?_) (.to (.pure _) ?_))))
    · have := hsmall (A / 2 ^ 0 % D) (Nat.mod_lt _ hD)
      omega
    · rw [hqv]
      simp only [cond_false, Nat.pow_zero, Nat.mul_one, Nat.div_one]
  | succ n ih =>
    intro q hle hql hqd hqv
    have e0 : (((n + 1 : Nat) : Int) - 1) = (n : Int) := by omega
    have e1 : wi64 ((n : Int) - 1) = (n : Int) - 1 := wi64_id (by omega) (by omega)
    obtain ⟨m, hm⟩ : ∃ m, m = n / 32 := ⟨_, rfl⟩
    obtain ⟨s, hs⟩ : ∃ s, s = n % 32 := ⟨_, rfl⟩
    have hn32 : n = 32 * m + s := by omega
    have hs32 : s < 32 := by omega
    have hml : m < (digs 4294967296 A).length := by omega
    have e2 : wi64 ((n : Int).tdiv 32) = (m : Int) := by
      rw [Int.tdiv_eq_ediv_of_nonneg (by omega), wi64_id (by omega) (by omega)]
      omega
    have e3 : (n : Int).tmod 32 = (s : Int) := by
      rw [Int.tmod_eq_emod_of_nonneg (by omega)]
      omega
    have hti : ((m : Int)).toNat = m := Int.toNat_natCast m
    have ht : A / 2 ^ n % 2 < 2 := Nat.mod_lt _ (by omega)
    have hh : A / 2 ^ n = 2 * (A / 2 ^ (n + 1)) + A / 2 ^ n % 2 := by
      have h1 : A / 2 ^ (n + 1) = A / 2 ^ n / 2 := by rw [Nat.pow_succ, Nat.div_div_eq_div_mul]
      rw [h1]
      omega
    obtain ⟨d1, d2⟩ := div_step hD rfl rfl ht (h := A / 2 ^ (n + 1))
    rw [← hh] at d1 d2
    have hr := Nat.mod_lt (A / 2 ^ (n + 1)) hD
    have hrl := hsmall _ hr
    have hbit : bitsI .and .u32 (shrI .u32 ((digs 4294967296 A).getD m 0) (s : Int)) 1 = ((A / 2 ^ n % 2 : Nat) : Int) := by
      rw [shr_u32 _ rfl (by omega), digs_at (b := 4294967296) (by decide) m A]
      have hlt := Nat.mod_lt (A / 4294967296 ^ m) (show 0 < 4294967296 by omega)
      have e : ((A / 4294967296 ^ m % 4294967296 : Nat) : Int) / 2 ^ s = ((A / 4294967296 ^ m % 4294967296 / 2 ^ s : Nat) : Int) := by
        rw [Int.natCast_ediv, Int.natCast_pow]
        rfl
      have hle2 : A / 4294967296 ^ m % 4294967296 / 2 ^ s ≤ A / 4294967296 ^ m % 4294967296 := Nat.div_le_self _ _
      have hb2 := bit_at A m s hs32
      rw [e, hn32, ← hb2]
      generalize A / 4294967296 ^ m % 4294967296 / 2 ^ s = u at *
      rw [and1 rfl (by decide) (by omega) (by simp only [IntKind.bits]; omega)]
      omega
    have ih' := ih
    rw [d1, d2] at ih'
    generalize A / 2 ^ n % 2 = t at *
    generalize A / 2 ^ (n + 1) / D = Q at *
    generalize A / 2 ^ (n + 1) % D = R at *
    obtain ⟨y, p1, p2, p3, p4⟩ := ev_sum _ _ (dD R) (dD R) (by omega) (by omega)
    rw [dV] at p4
    have hy0 : 0 < y.length := by omega
    have hyd := p2.at (by omega) 0
    have hyeven : y.getD 0 0 % 2 = 0 := by
      have := Vb_digit p2 0
      rw [this, p4]
      simp
      omega
    have hor : bitsI .or .u32 (y.getD 0 0) (t : Int) = y.getD 0 0 + t := by
      have := or_add (k := .u32) (x := y.getD 0 0 / 2) (y := (t : Int)) (i := 1) rfl (by omega) (by omega) (by simp only [IntKind.bits]; omega) (by omega)
      have e : y.getD 0 0 / 2 * 2 ^ 1 = y.getD 0 0 := by omega
      rwa [e] at this
    rw [e0]
    refine .step (fun k => whole_Int_By_c4_eq k _ _ _ _ _ _ _) (.ck (by omega) (.bind p1 (.ck (by omega) ?_)))
    simp only [e2, e3, hti, e1, hbit, hor]
    refine .ck (by omega) (.ck (by omega) (.ck (by omega) (.ck (by omega) (.bind (ev_trimmed _ (by rw [List.length_set]; omega) (p2.set _ (by omega) (by omega))) ?_))))
    have hyv : (Vb 4294967296 (y.set 0 (y.getD 0 0 + t))).toNat = 2 * R + t := by
      rw [Vb_set _ _ _ _ hy0, p4]
      simp
      omega
    rw [hyv]
    have hl2 : (digs 4294967296 (2 * R + t)).length ≤ 101 := by
      have h1 := Vb_lt (b := 4294967296) (by omega) (dD R)
      rw [dV] at h1
      have h2 : R < 4294967296 ^ (digs 4294967296 R).length := lt_pow_of (b := 4294967296) h1
      have h3 : (4294967296 : Nat) ^ (digs 4294967296 R).length ≤ 4294967296 ^ 100 := Nat.pow_le_pow_right (by omega) hrl
      have h4 : (4294967296 : Nat) ^ 101 = 4294967296 ^ 100 * 4294967296 := Nat.pow_succ _ _
      have h5 : 0 < (4294967296 : Nat) ^ 100 := Nat.pow_pos (by omega)
      generalize (4294967296 : Nat) ^ 100 = P at *
      exact digs_len (b := 4294967296) (by decide) 101 _ (by rw [h4]; omega)
    obtain ⟨c, c1, c2⟩ := ev_compare (2 * R + t) D (by omega) (by omega)
    refine .bind c1 ?_
    by_cases hc : D ≤ 2 * R + t
    · rw [if_pos hc, if_pos hc] at ih'
      refine .ck (c2.2 hc) (.bind (ev_less _ _ (by omega) hc) (.ck (by omega) (.ck (by omega) (.ck (by omega) (.ck (by omega) (.ck (by omega) ?_))))))
      rw [shl1_u32 rfl hs32]
      have hqm := hqd.at (by omega) m
      have hp2 : (0 : Int) < 2 ^ s := Int.pow_pos (by omega)
      -- the digit's lower bits are free
      have hqdig := Vb_digit hqd m
      rw [hqv, Int.toNat_natCast] at hqdig
      have e1' : (4294967296 : Nat) ^ m = 2 ^ (32 * m) := by rw [show (4294967296 : Nat) = 2 ^ 32 from rfl, ← Nat.pow_mul]
      have e2' : Q * 2 ^ (n + 1) / 4294967296 ^ m = Q * 2 ^ (s + 1) := by
        rw [e1', hn32, show 32 * m + s + 1 = (s + 1) + 32 * m by omega, Nat.pow_add, ← Nat.mul_assoc]
        exact Nat.mul_div_cancel _ (Nat.pow_pos (by omega))
      have e3' : (4294967296 : Nat) = 2 ^ (31 - s) * 2 ^ (s + 1) := by rw [← Nat.pow_add, show 31 - s + (s + 1) = 32 by omega]
      have e4' : Q * 2 ^ (s + 1) % 4294967296 = (Q % 2 ^ (31 - s)) * 2 ^ (s + 1) := by rw [e3', Nat.mul_mod_mul_right]
      rw [e2', e4'] at hqdig
      have hz := Nat.mod_lt Q (show 0 < 2 ^ (31 - s) from Nat.pow_pos (by omega))
      generalize Q % 2 ^ (31 - s) = z at *
      have hzb : z * 2 ^ (s + 1) + 2 ^ s < 4294967296 := by
        have h1 : (z + 1) * 2 ^ (s + 1) ≤ 2 ^ (31 - s) * 2 ^ (s + 1) := Nat.mul_le_mul_right _ hz
        rw [← e3', Nat.add_mul, Nat.one_mul] at h1
        have h2 : (2 : Nat) ^ (s + 1) = 2 ^ s * 2 := Nat.pow_succ _ _
        have h3 : 0 < (2 : Nat) ^ s := Nat.pow_pos (by omega)
        omega
      have hor2 : bitsI .or .u32 (q.getD m 0) (2 ^ s) = q.getD m 0 + 2 ^ s := by
        have hb : (z : Int) * 2 ^ (s + 1) + 2 ^ s < 2 ^ IntKind.u32.bits := by
          have hbN : ((z * 2 ^ (s + 1) + 2 ^ s : Nat) : Int) < 4294967296 := Int.ofNat_lt.2 hzb
          rw [Int.natCast_add, Int.natCast_mul, cp2, cp2] at hbN
          exact hbN
        have hb2 : (2 : Int) ^ s < 2 ^ (s + 1) := by rw [Int.pow_succ]; omega
        have := or_add (k := .u32) (x := (z : Int)) (y := 2 ^ s) (i := s + 1) rfl (by omega) (by omega) hb hb2
        have ez : ((z * 2 ^ (s + 1) : Nat) : Int) = (z : Int) * 2 ^ (s + 1) := by rw [Int.natCast_mul, cp2]
        rw [hqdig, ez]
        exact this
      rw [hor2]
      have hup : q.getD m 0 + 2 ^ s < 4294967296 := by
        rw [hqdig, ← cp2, ← Int.natCast_add]
        exact Int.ofNat_lt.2 hzb
      refine ih' _ (by omega) (by simpa using hql) (hqd.set _ (by omega) hup) ?_
      rw [Vb_set _ _ _ _ (by omega), hqv]
      have e5 : (4294967296 : Int) ^ m * (q.getD m 0 + 2 ^ s - q.getD m 0) = ((2 ^ n : Nat) : Int) := by
        rw [show q.getD m 0 + 2 ^ s - q.getD m 0 = 2 ^ s by omega]
        have : 4294967296 ^ m * 2 ^ s = 2 ^ n := by rw [e1', hn32, Nat.pow_add]
        rw [← this, Int.natCast_mul, Int.natCast_pow, Int.natCast_pow]
        rfl
      rw [e5]
      have : Q * 2 ^ (n + 1) + 2 ^ n = (2 * Q + 1) * 2 ^ n := by rw [Nat.pow_succ, Nat.add_mul, Nat.mul_comm (2 ^ n) 2, ← Nat.mul_assoc, Nat.mul_comm Q 2, Nat.one_mul]
      rw [← this, Int.natCast_add]
    · rw [if_neg hc, if_neg hc] at ih'
      refine .nk (fun z => hc (c2.1 z)) (ih' q (by omega) hql hqd ?_)
      rw [hqv]
      have : Q * 2 ^ (n + 1) = 2 * Q * 2 ^ n := by rw [Nat.pow_succ, Nat.mul_comm (2 ^ n) 2, ← Nat.mul_assoc, Nat.mul_comm Q 2]
      rw [this]

theorem ev_By (a b : Int) (ha : Sm a) (hb : Sm b) (h0 : b ≠ 0) : Ev (fun k => whole_Int_By k (W a) (W b)) (W ((a.natAbs / b.natAbs : Nat) : Int), W ((a.natAbs % b.natAbs : Nat) : Int)) := by
  have la := ha.len
  have lb := hb.len
  have e1 : wi64 (wi64 (((W a).2.length : Int) * 32) - 1) = ((32 * (W a).2.length : Nat) : Int) - 1 := by
    rw [wi64_id (x := _ * 32) (by omega) (by omega), wi64_id (by omega) (by omega)]
    omega
  refine .step (fun k => whole_Int_By_eq k _ _) ?_
  rw [e1, Int.toNat_natCast]
  have hlt : a.natAbs < 2 ^ (32 * (W a).2.length) := by
    have h1 := Vb_lt (b := 4294967296) (by omega) (W_dg a)
    rw [W_V] at h1
    have h2 : a.natAbs < 4294967296 ^ (W a).2.length := lt_pow_of (b := 4294967296) h1
    rwa [show (4294967296 : Nat) = 2 ^ 32 from rfl, ← Nat.pow_mul] at h2
  have hz : a.natAbs / 2 ^ (32 * (W a).2.length) = 0 := Nat.div_eq_of_lt hlt
  have := ev_By_c4 a.natAbs b.natAbs (W a).1 (W b).1 (false, []) (false, []) (by omega) la lb (32 * (W a).2.length) (List.replicate (W a).2.length 0) (Nat.le_refl _) (by simp [W]) (.zeros (by omega) _) (by rw [Vb_zeros, hz]; simp)
  rw [hz, Nat.zero_mod] at this
  exact .ck (by omega) (.ck (by omega) this)

end Go.Proofs.YtgoepklennckmaaGreatDoor.Eq
namespace Go.Proofs.YtgoepklennckmaaGreatDoor.Eq
open Go Go.Ra
set_option linter.unusedVariables false

theorem ev_ReverseB_c1 (n : Nat) (hn : n < 1125899906842624) : ∀ (m i : Nat) (l : List Int), n - i = m → i ≤ n → l.length = n →
    ∃ r, Ev (fun k => slices_Reverse_Lbyte_byte_c1 k l (i : Int) ((n : Int) - 1 - i)) r ∧ r.length = n ∧ ∀ p, r[p]? = if i ≤ p ∧ p + i < n then l[n - 1 - p]? else l[p]? := by
  intro m
  induction m using Nat.strongRecOn with
  | ind m ih =>
    intro i l hm hi hl
    by_cases h : (i : Int) < (n : Int) - 1 - i
    · have h1 : i < l.length := by omega
      have hj : ((n : Int) - 1 - i) = ((n - 1 - i : Nat) : Int) := by omega
      have hjl : n - 1 - i < l.length := by omega
      have e1 : wi64 ((i : Int) + 1) = ((i + 1 : Nat) : Int) := (by rw [wi64_id (by omega) (by omega)]; rfl)
      have e2 : wi64 ((n : Int) - 1 - i - 1) = (n : Int) - 1 - ((i + 1 : Nat) : Int) := by rw [wi64_id (by omega) (by omega)]; omega
      obtain ⟨r, q1, q2, q3⟩ := ih (n - (i + 1)) (by omega) (i + 1) ((l.set i (l.getD (n - 1 - i) 0)).set (n - 1 - i) (l.getD i 0)) rfl (by omega) (by simpa using hl)
      refine ⟨r, .step (fun k => slices_Reverse_Lbyte_byte_c1_eq k _ _ _) (.ck h (.ck (by omega) (.ck (by omega) (.ck (by omega) (.ck (by omega) (.ck (by omega) (.ck (by omega) (.ck (by omega) (.ck (by rw [List.length_set]; omega) ?_))))))))), q2, fun p => ?_⟩
      · rw [e1, e2, hj, Int.toNat_natCast, Int.toNat_natCast]
        exact q1
      · rw [q3 p]
        have g1 : l[i]? = some (l.getD i 0) := by rw [List.getD_eq_getElem?_getD, List.getElem?_eq_getElem h1]; rfl
        have g2 : l[n - 1 - i]? = some (l.getD (n - 1 - i) 0) := by rw [List.getD_eq_getElem?_getD, List.getElem?_eq_getElem hjl]; rfl
        by_cases hp : i ≤ p ∧ p + i < n
        · rw [if_pos hp]
          by_cases hpi : p = i
          · subst hpi
            rw [if_neg (by omega), List.getElem?_set_ne (by omega), List.getElem?_set_self h1, g2]
          · by_cases hpj : p = n - 1 - i
            · subst hpj
              rw [if_neg (by omega), List.getElem?_set_self (by simpa using hjl), show n - 1 - (n - 1 - i) = i by omega, g1]
            · rw [if_pos (by omega), List.getElem?_set_ne (by omega), List.getElem?_set_ne (by omega)]
        · rw [if_neg hp, if_neg (by omega), List.getElem?_set_ne (by omega), List.getElem?_set_ne (by omega)]
    · refine ⟨l, .step (fun k => slices_Reverse_Lbyte_byte_c1_eq k _ _ _) (.nk h (.pure _)), hl, fun p => ?_⟩
      by_cases hp : i ≤ p ∧ p + i < n
      · rw [if_pos hp]
        have : n - 1 - p = p := by omega
        rw [this]
      · rw [if_neg hp]

theorem ev_ReverseB (l : List Int) (hn : l.length < 1125899906842624) : Ev (fun k => slices_Reverse_Lbyte_byte k l) l.reverse := by
  obtain ⟨r, q1, q2, q3⟩ := ev_ReverseB_c1 l.length hn _ 0 l rfl (by omega) rfl
  have : r = l.reverse := by
    apply List.ext_getElem?
    intro p
    rw [q3 p]
    by_cases hp : p < l.length
    · rw [if_pos (by omega), List.getElem?_reverse hp]
    · rw [if_neg (by omega), List.getElem?_eq_none (by omega), List.getElem?_eq_none (by simp; omega)]
  rw [this] at q1
  refine .step (fun k => slices_Reverse_Lbyte_byte_eq k l) ?_
  rw [wi64_id (by omega) (by omega)]
  have e : ((l.length : Int) - 1 - ((0 : Nat) : Int)) = (l.length : Int) - 1 := by omega
  rw [e] at q1
  exact q1


theorem ev_CloneU (a : List Int) (h : a.length < 8796093022208) : Ev (fun k => slices_Clone_Luint32_uint32 k a) a := by
  cases a with
  | nil => exact .step (fun k => slices_Clone_Luint32_uint32_eq k _) (.pure _)
  | cons x a => exact .step (fun k => slices_Clone_Luint32_uint32_eq k _) (.ff rfl (.ck (by omega) (.pure _)))

theorem bl_rev (l : List UInt8) : (bl l).reverse = bl l.reverse := by simp [bl]
theorem dig_byte (n : Nat) : (((UInt8.ofNat (48 + n % 10)).toNat : Nat) : Int) = 48 + (n : Int) % 10 := by
  rw [UInt8.toNat_ofNat']
  omega

theorem ev_WText (a : Int) (ha : Sm a) (h0 : 0 ≤ a) : Ev (fun k => whole_Int_Text k (W a)) (B (Lib.itoa a)) := by
  obtain ⟨n, rfl⟩ : ∃ n : Nat, a = n := ⟨a.toNat, by omega⟩
  have hlen := ha.len
  rcases Nat.eq_zero_or_pos n with rfl | hn
  · refine .step (fun k => whole_Int_Text_eq k _) (.tt rfl (.to (.pure _) ?_))
    rw [itoa_nat, Lib.decDigits_one (by decide)]
    rfl
  · have hW : W (n : Int) = (false, digs 4294967296 n) := by unfold W; simp
    have hne := digs_ne (b := 4294967296) (by decide) hn
    rw [hW] at hlen
    simp only at hlen
    refine .step (fun k => whole_Int_Text_eq k _) ?_
    rw [hW]
    have hl0 : (((digs 4294967296 n).length : Int) == 0) = false := by
      have := List.length_pos_iff.2 hne
      simpa using hne
    refine .ff hl0 (.bind (ev_CloneU _ (by simp only; omega)) ?_)
    have key : ∀ (m c : Nat) (acc : List UInt8), c ≤ m → c ≤ n → acc.length + c ≤ acc.length + n → acc.length ≤ 1000 → acc ++ revDig c c = revDig n n → Ev (fun k => whole_Int_Text_c5 k (false, digs 4294967296 n) (bl acc) (digs 4294967296 c)) (B (Lib.decDigits n)) := by
      intro m
      induction m with
      | zero =>
        intro c acc h1 h2 _ h3 h4
        have : c = 0 := by omega
        subst this
        have e : acc = revDig n n := by simpa [revDig] using h4
        refine .step (fun k => whole_Int_Text_c5_eq k _ _ _) (.nk (by simp [digs_zero]) (.ff rfl (.bind (ev_ReverseB _ (by rw [bl_len]; omega)) (.to (.pure _) ?_))))
        rw [bl_rev, strOf_bl, e, dec_rev n n (Nat.le_refl _) hn]
      | succ m ih =>
        intro c acc h1 h2 _ h3 h4
        rcases Nat.eq_zero_or_pos c with rfl | hc
        · exact ih 0 acc (by omega) (by omega) (by omega) h3 h4
        · have hcn : (digs 4294967296 c).length ≤ 100 := by
            refine digs_len (by decide) 100 c (Nat.lt_of_le_of_lt h2 ?_)
            have := ha
            unfold Sm at this
            rw [Int.natAbs_natCast] at this
            exact this
          have hcp := List.length_pos_iff.2 (digs_ne (b := 4294967296) (by decide) hc)
          refine .step (fun k => whole_Int_Text_c5_eq k _ _ _) (.ck (by omega) (ev_Text_c8 _ _ _ (dD c) (by omega) (by rw [bl_len]; omega) ?_))
          rw [dV c]
          have e1 : ((c : Int) / 10).toNat = c / 10 := by omega
          have e2 : bl acc ++ [48 + (c : Int) % 10] = bl (acc ++ [UInt8.ofNat (48 + c % 10)]) := by
            rw [bl_app]
            congr 1
            show _ = [((((UInt8.ofNat (48 + c % 10)).toNat : Nat)) : Int)]
            rw [dig_byte]
          rw [e1, e2]
          have hlen2 : acc.length + 1 ≤ (revDig n n).length := by
            rw [← h4, List.length_append, revDig_step hc]
            simp
          have hrl : (revDig n n).length ≤ 1000 := by
            have : (revDig n n).length = (Lib.decDigits n).length := by rw [← dec_rev n n (Nat.le_refl _) hn, List.length_reverse]
            rw [this, Lib.decDigits_length]
            refine nDig_le 1000 n (by decide) (Nat.lt_of_lt_of_le (m := 4294967296 ^ 100) ?_ (by decide +kernel))
            have := ha
            unfold Sm at this
            rw [Int.natAbs_natCast] at this
            exact this
          refine ih (c / 10) _ (by omega) (by omega) (by omega) (by rw [List.length_append]; simp; omega) ?_
          rw [List.append_assoc, List.singleton_append, ← revDig_step hc]
          exact h4
    rw [itoa_nat]
    exact key n n [] (Nat.le_refl _) (Nat.le_refl _) (by omega) (by simp) (by simp)

theorem ev_sign (d : Int × Int) : Ev (fun k => amount_sign k d) (B (if d.1 < 0 then [45] else [])) := by
  refine .step (fun k => amount_sign_eq k _) ?_
  by_cases h : d.1 < 0
  · rw [if_pos h]; exact .ck h (.pure _)
  · rw [if_neg h]; exact .nk h (.pure _)
def ptL (n : Nat) (p : Nat) : List UInt8 := List.replicate (p + 1 - (Lib.decDigits n).length) 48 ++ Lib.decDigits n
theorem ptL_len (n p : Nat) : p + 1 ≤ (ptL n p).length := by
  unfold ptL
  rw [List.length_append, List.length_replicate]
  omega
theorem ptL_le (n p : Nat) (h : (Lib.decDigits n).length ≤ 16) (hp : p ≤ 9) : (ptL n p).length ≤ 16 := by
  unfold ptL
  rw [List.length_append, List.length_replicate]
  omega
def befL (n p : Nat) : List UInt8 := (ptL n p).take ((ptL n p).length - p)
def behL (n p : Nat) : List UInt8 := (ptL n p).drop ((ptL n p).length - p)
theorem behL_len (n p : Nat) : (behL n p).length = p := by
  have := ptL_len n p
  unfold behL
  rw [List.length_drop]
  omega
theorem bef_beh (n p : Nat) : befL n p ++ behL n p = ptL n p := List.take_append_drop _ _
theorem dec16 {n : Nat} (h : n ≤ 1000000000000000) : (Lib.decDigits n).length ≤ 16 := by
  rw [Lib.decDigits_length]
  exact nDig_le 16 n (by decide) (Nat.lt_of_le_of_lt h (by decide))
theorem ev_Rep48' (n : Nat) (h2 : n ≤ 1000000) : Ev (fun k => strings_Repeat k (bs [48]) (n : Int)) (B (List.replicate n 48)) := by
  have := ev_Rep48 (n := (n : Int)) (by omega) (by omega)
  rwa [Int.toNat_natCast] at this
theorem ev_pointed (n p : Nat) (hn : n ≤ 1000000000000000) (hp : p ≤ 9) : Ev (fun k => amount_pointed k (B (Lib.decDigits n)) (p : Int)) (B (befL n p), B (behL n p)) := by
  have h16 := dec16 hn
  have hl := ptL_len n p
  have hle := ptL_le n p h16 hp
  have e : maxI 0 (wi64 (wi64 ((p : Int) + 1) - ((B (Lib.decDigits n)).size : Int))) = ((p + 1 - (Lib.decDigits n).length : Nat) : Int) := by
    rw [size_B, wi64_id (x := (p : Int) + 1) (by omega) (by omega), wi64_id (by omega) (by omega)]
    unfold maxI
    split <;> omega
  refine .step (fun k => amount_pointed_eq k _ _) ?_
  rw [e]
  refine .bind (ev_Rep48' _ (by omega)) (.ck (by rw [size_B, size_B, List.length_replicate]; omega) ?_)
  have e2 : B (List.replicate (p + 1 - (Lib.decDigits n).length) 48) ++ B (Lib.decDigits n) = B (ptL n p) := B_app _ _
  rw [e2, size_B]
  have e3 : wi64 (((ptL n p).length : Int) - (p : Int)) = (((ptL n p).length - p : Nat) : Int) := by
    rw [wi64_id (by omega) (by omega)]; omega
  rw [e3]
  refine .ck (by omega) (.ck (by omega) (.ck (by omega) (.ck (by omega) (.to (.pure _) ?_))))
  rw [Int.toNat_natCast, B_ext, B_ext, List.drop_zero, List.take_of_length_le (Nat.le_refl _)]
  rfl
def txL (d : Int × Int) : List UInt8 := (if d.1 < 0 then [45] else []) ++ befL d.1.natAbs d.2.toNat ++ (if d.2 = 0 then [] else 46 :: behL d.1.natAbs d.2.toNat)
theorem okD_nat {d : Int × Int} (h : okD d) : d.1.natAbs ≤ 1000000000000000 ∧ d.2.toNat ≤ 9 ∧ ((d.2.toNat : Nat) : Int) = d.2 := by unfold okD at h; omega
theorem bef_len {d : Int × Int} (h : okD d) : (befL d.1.natAbs d.2.toNat).length ≤ 16 := by
  obtain ⟨h1, h2, h3⟩ := okD_nat h
  have := ptL_le d.1.natAbs d.2.toNat (dec16 h1) h2
  unfold befL
  rw [List.length_take]
  omega
theorem ev_aText (d : Int × Int) : Ev (fun k => amount_Text k d) (if okD d then (B (txL d), 0) else (bs [], 1)) := by
  refine .step (fun k => amount_Text_eq k _) (.bind (ev_CheckDecimal d) ?_)
  by_cases h : okD d
  · rw [if_pos h, if_pos h]
    obtain ⟨h1, h2, h3⟩ := okD_nat h
    have hb := bef_len h
    have hh := behL_len d.1.natAbs d.2.toNat
    refine .ff rfl ?_
    have hs : Sm d.1 := .of (Nat.le_trans h1 (by decide))
    have hs2 : Sm (d.1.natAbs : Int) := .of (by rw [Int.natAbs_natCast]; exact Nat.le_trans h1 (by decide))
    have hp := ev_pointed d.1.natAbs d.2.toNat h1 h2
    rw [h3] at hp
    refine .bind (ev_Of d.1 (by unfold okD at h; omega) (by unfold okD at h; omega)) (.bind (ev_Abs d.1 hs) (.bind (ev_WText _ hs2 (by omega)) ?_))
    rw [itoa_nat]
    refine .bind hp ?_
    have hsg : (if d.1 < 0 then [45] else ([] : List UInt8)).length ≤ 1 := by split <;> simp
    unfold txL
    by_cases hz : d.2 = 0
    · refine .tt (by simp [hz]) (.bind (ev_sign d) (.ck (by rw [size_B, size_B]; omega) (.to (.pure _) ?_)))
      rw [B_app, if_pos hz, List.append_nil]
    · refine .ff (by simp [hz]) (.bind (ev_sign d) (.ck (by rw [size_B, size_B]; omega) ?_))
      simp only [B_app]
      have e46 : bs [46] = B [46] := rfl
      rw [e46]
      simp only [B_app]
      refine .ck (by rw [size_B, List.length_append]; omega) (.ck (by rw [size_B, size_B, List.length_append, List.length_append]; simp only [List.length_singleton]; omega) (.to (.pure _) ?_))
      rw [if_neg hz]
      simp
  · rw [if_neg h, if_neg h]
    exact .tt rfl (.pure _)
end Go.Proofs.YtgoepklennckmaaGreatDoor.Eq
namespace Go.Proofs.YtgoepklennckmaaGreatDoor.Eq
open Go Go.Ra
set_option linter.unusedVariables false

end Go.Proofs.YtgoepklennckmaaGreatDoor.Eq
namespace Go.Ra
open Go Go.Ra
def mkOk (b : Int) : Prop := ¬ ((48 ≤ b ∧ b ≤ 57) ∨ b = 45 ∨ b < 32 ∨ b > 126)
instance (b : Int) : Decidable (mkOk b) := by unfold mkOk; infer_instance
end Go.Ra
namespace Go.Proofs.YtgoepklennckmaaGreatDoor.Eq
open Go Go.Ra
set_option linter.unusedVariables false

end Go.Proofs.YtgoepklennckmaaGreatDoor.Eq
namespace Go.Ra
open Go Go.Ra
def bdB (b : UInt8) : Bool := (decide (65 ≤ b.toNat) && decide (b.toNat ≤ 90)) || dgB b
end Go.Ra
namespace Go.Proofs.YtgoepklennckmaaGreatDoor.Eq
open Go Go.Ra
set_option linter.unusedVariables false

def alnum : List UInt8 := [65, 66, 67, 68, 69, 70, 71, 72, 73, 74, 75, 76, 77, 78, 79, 80, 81, 82, 83, 84, 85, 86, 87, 88, 89, 90, 48, 49, 50, 51, 52, 53, 54, 55, 56, 57]
theorem alnum_iff (b : UInt8) : alnum.contains b = bdB b := by
  have : ∀ k : Fin 256, alnum.contains (UInt8.ofNat k.val) = bdB (UInt8.ofNat k.val) := by decide +kernel
  have h := this ⟨b.toNat, b.toNat_lt⟩
  simpa using h
theorem dropW_nil {p : UInt8 → Bool} : ∀ l : List UInt8, l.dropWhile p = [] ↔ l.all p = true
  | [] => by simp
  | b :: l => by
    rw [List.dropWhile_cons, List.all_cons]
    cases h : p b with
    | true => simpa using dropW_nil (p := p) l
    | false => simp
theorem trimS_nil (l cs : List UInt8) : Lib.trimS l cs = [] ↔ l.all (cs.contains ·) = true := by
  unfold Lib.trimS Lib.trimLeftS Lib.trimRightS
  constructor
  · intro h
    have h1 := (dropW_nil _).1 h
    have h2 : l.reverse.dropWhile (cs.contains ·) = [] := by
      cases hd : l.reverse.dropWhile (cs.contains ·) with
      | nil => rfl
      | cons b t =>
        have h1 := List.all_eq_true.1 h1 b (by rw [hd]; simp)
        have h2 : cs.contains b = false := by
          have := List.head?_dropWhile_not (cs.contains ·) l.reverse
          rw [hd] at this
          simpa using this
        rw [h2] at h1
        cases h1
    have h3 := (dropW_nil _).1 h2
    rw [List.all_reverse] at h3
    exact h3
  · intro h
    refine (dropW_nil _).2 (List.all_eq_true.2 fun x hx => List.all_eq_true.1 h x ?_)
    have := List.mem_reverse.1 hx
    exact List.mem_reverse.1 ((List.dropWhile_sublist _).subset this)
end Go.Proofs.YtgoepklennckmaaGreatDoor.Eq
namespace Go.Proofs.YtgoepklennckmaaGreatDoor.Eq
open Go Go.Ra
set_option linter.unusedVariables false
abbrev Col : Type := ByteArray × Int × Int × Int × Int × Bool × Int × Bool
abbrev Knd : Type := ByteArray × List Col × Int × ByteArray
abbrev Fmt : Type := Int × Int × List Knd × ByteArray × ByteArray × ByteArray × ByteArray
abbrev Row : Type := ByteArray × List ByteArray
abbrev col0 : Col := (bs [], (0, (0, (0, (0, (false, (0, false)))))))
abbrev knd0 : Knd := (bs [], ([], (0, bs [])))
theorem col_eta (c : Col) : (c.1, (c.2.1, (c.2.2.1, (c.2.2.2.1, (c.2.2.2.2.1, (c.2.2.2.2.2.1, (c.2.2.2.2.2.2.1, c.2.2.2.2.2.2.2))))))) = c := rfl
theorem knd_eta (c : Knd) : (c.1, (c.2.1, (c.2.2.1, c.2.2.2))) = c := rfl
def ixI {α : Type} (p : α → Bool) (l : List α) : Int := if l.findIdx p < l.length then (l.findIdx p : Int) else -1
theorem ixI_none {α : Type} {p : α → Bool} {l : List α} : ixI p l < 0 ↔ ∀ x ∈ l, p x = false := by
  unfold ixI
  split
  · rename_i h
    have h2 := List.findIdx_lt_length.1 h
    obtain ⟨x, hx, hp⟩ := h2
    constructor
    · intro h0; omega
    · intro h0; rw [h0 x hx] at hp; cases hp
  · rename_i h
    constructor
    · intro _ x hx
      cases hp : p x with
      | false => rfl
      | true => exact absurd (List.findIdx_lt_length.2 ⟨x, hx, hp⟩) h
    · intro _; omega
theorem ixI_lt {α : Type} (p : α → Bool) (l : List α) : -1 ≤ ixI p l ∧ ixI p l < l.length := by
  unfold ixI
  split
  · omega
  · exact ⟨by omega, by omega⟩
theorem ixI_at {α : Type} {p : α → Bool} {l : List α} {i : Nat} (h : ixI p l = i) : ∃ hi : i < l.length, p l[i] = true ∧ ∀ j (hj : j < i), p (l[j]'(Nat.lt_trans hj hi)) = false := by
  unfold ixI at h
  split at h
  · rename_i hl
    have e : l.findIdx p = i := by omega
    subst e
    exact ⟨hl, List.findIdx_getElem, fun j hj => by simpa using List.not_of_lt_findIdx hj⟩
  · omega
theorem ixI_is {α : Type} {p : α → Bool} {l : List α} {i : Nat} (hi : i < l.length) (h1 : p l[i] = true) (h2 : ∀ j (hj : j < i), p (l[j]'(Nat.lt_trans hj hi)) = false) : ixI p l = i := by
  have e : l.findIdx p = i := (List.findIdx_eq hi).2 ⟨h1, h2⟩
  unfold ixI
  rw [e, if_pos hi]
theorem ixI_get {α : Type} {p : α → Bool} {l : List α} (h : 0 ≤ ixI p l) : ∃ i : Nat, ∃ hi : i < l.length, ixI p l = i ∧ p l[i] = true := by
  obtain ⟨i, hi⟩ : ∃ i : Nat, ixI p l = i := ⟨(ixI p l).toNat, by omega⟩
  obtain ⟨h1, h2, _⟩ := ixI_at hi
  exact ⟨i, h1, hi, h2⟩
theorem ev_loop {α : Type} (p : α → Bool) (l : List α) (c : Nat → Int → Option Int)
    (h1 : ∀ (i : Nat) (hi : i < l.length) (y : Int), (p l[i] = true → y = (i : Int)) → (p l[i] = false → Ev (fun k => c k ((i + 1 : Nat) : Int)) y) → Ev (fun k => c k (i : Int)) y)
    (h2 : Ev (fun k => c k (l.length : Int)) (-1)) : Ev (fun k => c k 0) (ixI p l) := by
  have key : ∀ (m i : Nat), l.length - i = m → i ≤ l.length → (∀ j (hj : j < l.length), j < i → p l[j] = false) → Ev (fun k => c k (i : Int)) (ixI p l) := by
    intro m
    induction m with
    | zero =>
      intro i hm hi hn
      have e : i = l.length := by omega
      subst e
      have : ixI p l = -1 := by
        have h3 : ixI p l < 0 := ixI_none.2 fun x hx => by
          obtain ⟨j, hj, rfl⟩ := List.getElem_of_mem hx
          exact hn j hj hj
        have := (ixI_lt p l).1
        omega
      rw [this]
      exact h2
    | succ m ih =>
      intro i hm hi hn
      have hil : i < l.length := by omega
      refine h1 i hil _ (fun hp => ixI_is hil hp fun j hj => hn j (by omega) hj) fun hp => ih (i + 1) (by omega) (by omega) fun j hj hji => ?_
      by_cases e : j = i
      · subst e; exact hp
      · exact hn j hj (by omega)
  exact key _ 0 rfl (Nat.zero_le _) fun j _ hj => absurd hj (Nat.not_lt_zero _)
theorem getD_at {α : Type} {l : List α} {i : Nat} (h : i < l.length) (d : α) : l.getD ((i : Nat) : Int).toNat d = l[i] := by
  rw [Int.toNat_natCast, List.getD_eq_getElem?_getD, List.getElem?_eq_getElem h]
  rfl
def tagP (t : ByteArray) (x : Knd) : Bool := eqS x.1 t
def colP (t : ByteArray) (x : Col) : Bool := eqS x.1 t
def kOf (ks : List Knd) (t : ByteArray) : Int := ixI (tagP t) ks
def cOf (cs : List Col) (t : ByteArray) : Int := ixI (colP t) cs
theorem ev_kf1 (a b : Knd) : Ev (fun k => flat_kindFault_1_r k a b) (tagP b.1 a) := .step (fun k => flat_kindFault_1_r_eq k _ _) (.pure _)
theorem ev_kf2 (a b : Knd) : Ev (fun k => flat_kindFault_2_r k a b) (tagP b.2.2.2 a) := .step (fun k => flat_kindFault_2_r_eq k _ _) (.pure _)
theorem ev_ka1 (a : Knd) (b : ByteArray) : Ev (fun k => flat_kindAt_1_r k a b) (tagP b a) := .step (fun k => flat_kindAt_1_r_eq k _ _) (.pure _)
theorem ev_cf1 (a b : Col) : Ev (fun k => flat_columnFault_1_r k a b) (colP b.1 a) := .step (fun k => flat_columnFault_1_r_eq k _ _) (.pure _)
theorem ev_ca1 (a : Col) (b : ByteArray) : Ev (fun k => flat_columnAt_1_r k a b) (colP b a) := .step (fun k => flat_columnAt_1_r_eq k _ _) (.pure _)
theorem ev_ixKf1 (l : List Knd) (b : Knd) (hn : l.length < 1125899906842624) : Ev (fun k => slices_IndexFunc_Lapi_RowKind_api_RowKind_of_flat_kindFault_1 k l b) (kOf l b.1) := by
  refine .step (fun k => slices_IndexFunc_Lapi_RowKind_api_RowKind_of_flat_kindFault_1_eq k _ _) ?_
  refine ev_loop (tagP b.1) l (fun k i => slices_IndexFunc_Lapi_RowKind_api_RowKind_of_flat_kindFault_1_c2 k l b (l.length : Int) i) (fun i hi y q1 q2 => ?_) (.step (fun k => slices_IndexFunc_Lapi_RowKind_api_RowKind_of_flat_kindFault_1_c2_eq k _ _ _ _) (.nk (by omega) (.pure _)))
  refine .step (fun k => slices_IndexFunc_Lapi_RowKind_api_RowKind_of_flat_kindFault_1_c2_eq k _ _ _ _) (.ck (by omega) (.ck (by omega) (.ck (by omega) ?_)))
  rw [getD_at hi, wj hi hn, knd_eta]
  exact .bind (ev_kf1 _ _) (.cond (fun z => .to (.pure _) (q1 z).symm) q2)
theorem ev_ixKf2 (l : List Knd) (b : Knd) (hn : l.length < 1125899906842624) : Ev (fun k => slices_IndexFunc_Lapi_RowKind_api_RowKind_of_flat_kindFault_2 k l b) (kOf l b.2.2.2) := by
  refine .step (fun k => slices_IndexFunc_Lapi_RowKind_api_RowKind_of_flat_kindFault_2_eq k _ _) ?_
  refine ev_loop (tagP b.2.2.2) l (fun k i => slices_IndexFunc_Lapi_RowKind_api_RowKind_of_flat_kindFault_2_c2 k l b (l.length : Int) i) (fun i hi y q1 q2 => ?_) (.step (fun k => slices_IndexFunc_Lapi_RowKind_api_RowKind_of_flat_kindFault_2_c2_eq k _ _ _ _) (.nk (by omega) (.pure _)))
  refine .step (fun k => slices_IndexFunc_Lapi_RowKind_api_RowKind_of_flat_kindFault_2_c2_eq k _ _ _ _) (.ck (by omega) (.ck (by omega) (.ck (by omega) ?_)))
  rw [getD_at hi, wj hi hn, knd_eta]
  exact .bind (ev_kf2 _ _) (.cond (fun z => .to (.pure _) (q1 z).symm) q2)
theorem ev_ixKa (l : List Knd) (b : ByteArray) (hn : l.length < 1125899906842624) : Ev (fun k => slices_IndexFunc_Lapi_RowKind_api_RowKind_of_flat_kindAt_1 k l b) (kOf l b) := by
  refine .step (fun k => slices_IndexFunc_Lapi_RowKind_api_RowKind_of_flat_kindAt_1_eq k _ _) ?_
  refine ev_loop (tagP b) l (fun k i => slices_IndexFunc_Lapi_RowKind_api_RowKind_of_flat_kindAt_1_c2 k l b (l.length : Int) i) (fun i hi y q1 q2 => ?_) (.step (fun k => slices_IndexFunc_Lapi_RowKind_api_RowKind_of_flat_kindAt_1_c2_eq k _ _ _ _) (.nk (by omega) (.pure _)))
  refine .step (fun k => slices_IndexFunc_Lapi_RowKind_api_RowKind_of_flat_kindAt_1_c2_eq k _ _ _ _) (.ck (by omega) (.ck (by omega) (.ck (by omega) ?_)))
  rw [getD_at hi, wj hi hn, knd_eta]
  exact .bind (ev_ka1 _ _) (.cond (fun z => .to (.pure _) (q1 z).symm) q2)
theorem ev_ixCf (l : List Col) (b : Col) (hn : l.length < 1125899906842624) : Ev (fun k => slices_IndexFunc_Lapi_Column_api_Column_of_flat_columnFault_1 k l b) (cOf l b.1) := by
  refine .step (fun k => slices_IndexFunc_Lapi_Column_api_Column_of_flat_columnFault_1_eq k _ _) ?_
  refine ev_loop (colP b.1) l (fun k i => slices_IndexFunc_Lapi_Column_api_Column_of_flat_columnFault_1_c2 k l b (l.length : Int) i) (fun i hi y q1 q2 => ?_) (.step (fun k => slices_IndexFunc_Lapi_Column_api_Column_of_flat_columnFault_1_c2_eq k _ _ _ _) (.nk (by omega) (.pure _)))
  refine .step (fun k => slices_IndexFunc_Lapi_Column_api_Column_of_flat_columnFault_1_c2_eq k _ _ _ _) (.ck (by omega) (.ck (by omega) (.ck (by omega) ?_)))
  rw [getD_at hi, wj hi hn, col_eta]
  exact .bind (ev_cf1 _ _) (.cond (fun z => .to (.pure _) (q1 z).symm) q2)
theorem ev_ixCa (l : List Col) (b : ByteArray) (hn : l.length < 1125899906842624) : Ev (fun k => slices_IndexFunc_Lapi_Column_api_Column_of_flat_columnAt_1 k l b) (cOf l b) := by
  refine .step (fun k => slices_IndexFunc_Lapi_Column_api_Column_of_flat_columnAt_1_eq k _ _) ?_
  refine ev_loop (colP b) l (fun k i => slices_IndexFunc_Lapi_Column_api_Column_of_flat_columnAt_1_c2 k l b (l.length : Int) i) (fun i hi y q1 q2 => ?_) (.step (fun k => slices_IndexFunc_Lapi_Column_api_Column_of_flat_columnAt_1_c2_eq k _ _ _ _) (.nk (by omega) (.pure _)))
  refine .step (fun k => slices_IndexFunc_Lapi_Column_api_Column_of_flat_columnAt_1_c2_eq k _ _ _ _) (.ck (by omega) (.ck (by omega) (.ck (by omega) ?_)))
  rw [getD_at hi, wj hi hn, col_eta]
  exact .bind (ev_ca1 _ _) (.cond (fun z => .to (.pure _) (q1 z).symm) q2)
theorem ev_hasKf1 (l : List Knd) (b : Knd) (hn : l.length < 1125899906842624) : Ev (fun k => slices_ContainsFunc_Lapi_RowKind_api_RowKind_of_flat_kindFault_1 k l b) (decide (0 ≤ kOf l b.1)) :=
  .step (fun k => slices_ContainsFunc_Lapi_RowKind_api_RowKind_of_flat_kindFault_1_eq k _ _) (.bind (ev_ixKf1 l b hn) (.pure _))
theorem ev_hasKf2 (l : List Knd) (b : Knd) (hn : l.length < 1125899906842624) : Ev (fun k => slices_ContainsFunc_Lapi_RowKind_api_RowKind_of_flat_kindFault_2 k l b) (decide (0 ≤ kOf l b.2.2.2)) :=
  .step (fun k => slices_ContainsFunc_Lapi_RowKind_api_RowKind_of_flat_kindFault_2_eq k _ _) (.bind (ev_ixKf2 l b hn) (.pure _))
theorem ev_hasCf (l : List Col) (b : Col) (hn : l.length < 1125899906842624) : Ev (fun k => slices_ContainsFunc_Lapi_Column_api_Column_of_flat_columnFault_1 k l b) (decide (0 ≤ cOf l b.1)) :=
  .step (fun k => slices_ContainsFunc_Lapi_Column_api_Column_of_flat_columnFault_1_eq k _ _) (.bind (ev_ixCf l b hn) (.pure _))
theorem ev_columnAt (a : Knd) (b : ByteArray) (hn : a.2.1.length < 1125899906842624) : Ev (fun k => flat_columnAt k a b) (cOf a.2.1 b) :=
  .step (fun k => flat_columnAt_eq k _ _) (.ret (ev_ixCa _ b hn) rfl)
def kAt (ks : List Knd) (t : ByteArray) : Knd × Bool := if 0 ≤ kOf ks t then (ks.getD (kOf ks t).toNat knd0, true) else (knd0, false)
theorem ev_kindAt (a : Fmt) (b : ByteArray) (hn : a.2.2.1.length < 1125899906842624) : Ev (fun k => flat_kindAt k a b) (kAt a.2.2.1 b) := by
  have hl := ixI_lt (tagP b) a.2.2.1
  refine .step (fun k => flat_kindAt_eq k _ _) (.bind (ev_ixKa _ b hn) ?_)
  unfold kAt kOf
  by_cases h : ixI (tagP b) a.2.2.1 < 0
  · rw [if_neg (by omega)]
    exact .ck h (.pure _)
  · rw [if_pos (by omega)]
    exact .nk h (.ck (by omega) (.ck (by omega) (.pure _)))
theorem ixI_take {α : Type} (p : α → Bool) (l : List α) (i : Nat) (hi : i ≤ l.length) : 0 ≤ ixI p (l.take i) ↔ (0 ≤ ixI p l ∧ ixI p l < i) := by
  constructor
  · intro h
    obtain ⟨j, hj, e, hp⟩ := ixI_get h
    have hj' : j < i := by rw [List.length_take] at hj; omega
    have hp' : p (l[j]'(by omega)) = true := by rw [List.getElem_take] at hp; exact hp
    obtain ⟨_, _, hmin⟩ := ixI_at e
    have : ixI p l = j := ixI_is (by omega) hp' fun q hq => by
      have := hmin q hq
      rw [List.getElem_take] at this
      exact this
    omega
  · rintro ⟨h1, h2⟩
    obtain ⟨j, hj, e, hp⟩ := ixI_get h1
    rcases Int.lt_or_le (ixI p (l.take i)) 0 with h | h
    · have := ixI_none.1 h (l[j]) (by
        rw [List.mem_take_iff_getElem]
        exact ⟨j, by omega, rfl⟩)
      rw [hp] at this
      cases this
    · exact h
theorem ixI_own {α : Type} (p : α → Bool) (l : List α) (i : Nat) (hi : i < l.length) (h : p l[i] = true) : ixI p l ≠ i ↔ 0 ≤ ixI p (l.take i) := by
  rw [ixI_take p l i (Nat.le_of_lt hi)]
  have hle : 0 ≤ ixI p l ∧ ixI p l ≤ i := by
    rcases Int.lt_or_le (ixI p l) 0 with h0 | h0
    · have := ixI_none.1 h0 l[i] (List.getElem_mem hi)
      rw [h] at this
      cases this
    · refine ⟨h0, ?_⟩
      obtain ⟨j, hj, e, hp⟩ := ixI_get h0
      obtain ⟨_, _, hmin⟩ := ixI_at e
      rcases Nat.lt_or_ge i j with hij | hij
      · have := hmin i hij
        rw [h] at this
        cases this
      · omega
  omega
end Go.Proofs.YtgoepklennckmaaGreatDoor.Eq
