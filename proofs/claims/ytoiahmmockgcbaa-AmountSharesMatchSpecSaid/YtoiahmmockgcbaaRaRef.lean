import Derived.Test.YtoiahmmockgcbaaRaEq
/- The reference's whole numbers of any size: what their functions compute. -/
namespace Go.Proofs.Ytoiahmmockgcbaa.Eq
open Go Go.Ra
set_option linter.unusedVariables false

theorem rV (n : Nat) : Vb 1000000 (digs 1000000 n) = n := digs_V (b := 1000000) (by decide) n
theorem rD (n : Nat) : Dg 1000000 (digs 1000000 n) := digs_dg (b := 1000000) (by decide) n
theorem rE {l : List Int} (h : Dg 1000000 l) (h2 : l.getLast? ≠ some 0) : l = digs 1000000 (Vb 1000000 l).toNat := digs_eq (b := 1000000) (by decide) h h2
theorem rpow_step (p d c b : Int) : p * d + p * b * c = p * (d + b * c) := by rw [Int.mul_add, Int.mul_assoc]
theorem rwi_succ {i : Nat} (h : i < 1125899906842624) : wi64 ((i : Int) + 1) = ((i + 1 : Nat) : Int) := by
  rw [wi64_id (by omega) (by omega)]
  rfl

/-- The canonical form of a number. -/
def N (n : Int) : Bool × List Int := (decide (n < 0), digs 1000000 n.natAbs)
theorem N_dg (n : Int) : Dg 1000000 (N n).2 := rD _
theorem N_V (n : Int) : Vb 1000000 (N n).2 = n.natAbs := rV _
theorem N_neg (n : Int) : (N n).1 = decide (n < 0) := rfl
/-- Of fewer than a hundred digits. -/
def Sr (n : Int) : Prop := n.natAbs < 1000000 ^ 100
theorem Sr.len {n : Int} (h : Sr n) : (N n).2.length ≤ 100 := digs_len (by omega) 100 _ h
theorem Sr.of {n : Int} (h : n.natAbs ≤ 10 ^ 60) : Sr n := Nat.lt_of_le_of_lt h (by decide)

theorem ev_rtrim_c1 (s2 : Bool × List Int) (s : Bool) : ∀ (n : Nat) (l : List Int), l.length = n → n < 1099511627776 → Dg 1000000 l →
    Ev (fun k => interchangeref1_trimmed_c1 k (s, l) s2) (N (cond s (-(Vb 1000000 l)) (Vb 1000000 l))) := by
  intro n
  induction n with
  | zero =>
    intro l hl _ _
    have : l = [] := by simpa using hl
    subst this
    refine .step (fun k => interchangeref1_trimmed_c1_eq k _ _) (.tt (by simp) (.tt (by simp) (.ff (by simp) (.tt (by simp) (.to (.pure _) ?_)))))
    cases s <;> simp [Vb, N, digs_zero]
  | succ n ih =>
    intro l hl hn hd
    obtain ⟨m, x, rfl⟩ : ∃ m x, l = m ++ [x] := by
      rcases List.eq_nil_or_concat l with rfl | ⟨m, x, rfl⟩
      · simp at hl
      · exact ⟨m, x, by simp⟩
    have hm : m.length = n := by simpa using hl
    have e : wi64 (((m ++ [x]).length : Int) - 1) = (n : Int) := by
      rw [hl, wi64_id (by omega) (by omega)]
      omega
    refine .step (fun k => interchangeref1_trimmed_c1_eq k _ _) ?_
    simp only
    rw [e, hl]
    have hg : (m ++ [x]).getD ((n : Int)).toNat 0 = x := by
      rw [Int.toNat_natCast, List.getD_eq_getElem?_getD, ← hm]
      simp
    have ht : (m ++ [x]).take ((n : Int)).toNat = m := by
      rw [Int.toNat_natCast, ← hm]
      simp
    rw [hg, ht]
    refine .tt (by simp) (.tt (by simp; omega) ?_)
    by_cases hx : x = 0
    · subst hx
      refine .tt (by simp) (.ck (by omega) (.ck (by omega) ?_))
      have := ih m hm (by omega) (fun y hy => hd y (by simp [hy]))
      rw [Vb_append, Vb_one, Int.mul_zero, Int.add_zero]
      exact this
    · refine .ff (by simp [hx]) (.ff (by simp; omega) (.to (.pure _) ?_))
      have hq := rE hd (by simpa using hx)
      have hv := Vb_nonneg (b := 1000000) (by omega) hd
      have hne : Vb 1000000 (m ++ [x]) ≠ 0 := by
        intro z
        rw [z] at hq
        simp [digs_zero] at hq
      generalize Vb 1000000 (m ++ [x]) = v at *
      rw [hq]
      unfold N
      cases s with
      | true =>
        have : decide (-v < 0) = true := by simp; omega
        simp only [cond_true, this]
        congr 2
        omega
      | false =>
        have : decide (v < 0) = false := by simp; omega
        simp only [cond_false, this]
        congr 2
        omega

theorem ev_rtrim (s : Bool) (l : List Int) (hn : l.length < 1099511627776) (hd : Dg 1000000 l) : Ev (fun k => interchangeref1_trimmed k (s, l)) (N (cond s (-(Vb 1000000 l)) (Vb 1000000 l))) :=
  .step (fun k => interchangeref1_trimmed_eq k _) (ev_rtrim_c1 _ s _ l rfl hn hd)

theorem ev_rOf (n : Int) (h1 : -9223372036854775808 ≤ n) (h2 : n < 9223372036854775808) : Ev (fun k => interchangeref1_Of k n) (N n) := by
  have key : ∀ (m : Nat) (x : Int) (s2 : Bool × List Int) (s : Bool) (out : List Int), x.natAbs ≤ m → -9223372036854775808 ≤ x → x < 9223372036854775808 → out.length + (digs 1000000 x.natAbs).length ≤ 1000 →
      Ev (fun k => interchangeref1_Of_c2 k x s2 (s, out)) (s, out ++ digs 1000000 x.natAbs) := by
    intro m
    induction m with
    | zero =>
      intro x s2 s out hm _ _ _
      have : x = 0 := by omega
      subst this
      exact .step (fun k => interchangeref1_Of_c2_eq k _ _ _) (.ff (by simp) (.to (.pure _) (by simp [digs_zero])))
    | succ m ih =>
      intro x s2 s out hm hx1 hx2 hl
      by_cases hx : x = 0
      · subst hx
        exact .step (fun k => interchangeref1_Of_c2_eq k _ _ _) (.ff (by simp) (.to (.pure _) (by simp [digs_zero])))
      · have hd := digs_pos (b := 1000000) (n := x.natAbs) (by decide) (by omega)
        rw [hd, List.length_cons] at hl
        have t1 : (x.tdiv 1000000).natAbs = x.natAbs / 1000000 := by rw [Int.natAbs_tdiv]; rfl
        have t2 : x.tmod 1000000 = if x < 0 then -((x.natAbs % 1000000 : Nat) : Int) else ((x.natAbs % 1000000 : Nat) : Int) := by
          split
          · have : x = -(x.natAbs : Int) := by omega
            rw [this, Int.neg_tmod]
            simp only [Int.natAbs_neg, Int.natAbs_natCast]
            rfl
          · have : x = (x.natAbs : Int) := by omega
            rw [this]
            simp only [Int.natAbs_natCast]
            rfl
        have hb1 : -9223372036854775808 ≤ x.tdiv 1000000 := by omega
        have hb2 : x.tdiv 1000000 < 9223372036854775808 := by omega
        refine .step (fun k => interchangeref1_Of_c2_eq k _ _ _) (.tt (by simpa using hx) (.ck (by simp only; omega) ?_))
        have em : maxI (x.tmod 1000000) (wi64 (0 - x.tmod 1000000)) = ((x.natAbs % 1000000 : Nat) : Int) := by
          rw [wi64_id (by rw [t2]; split <;> omega) (by rw [t2]; split <;> omega), t2]
          unfold maxI
          split <;> split <;> omega
        rw [em, wi64_id hb1 hb2]
        refine .to (ih _ s2 s _ (by omega) hb1 hb2 (by rw [t1]; simp; omega)) ?_
        rw [t1, hd]
        simp
  have hl : (digs 1000000 n.natAbs).length ≤ 4 := digs_len (b := 1000000) (by decide) 4 _ (by omega)
  exact .step (fun k => interchangeref1_Of_eq k n) (.to (key _ n _ _ [] (Nat.le_refl _) h1 h2 (by simp; omega)) (by simp [N]))

theorem ev_digit (l : List Int) (i : Nat) : Ev (fun k => interchangeref1_digit k l (i : Int)) (l.getD i 0) := by
  refine .step (fun k => interchangeref1_digit_eq k _ _) (.dec (fun h => .ck (by omega) (.ck h (by rw [Int.toNat_natCast]; exact .pure _))) (fun h => .to (.pure _) ?_))
  rw [List.getD_eq_getElem?_getD, List.getElem?_eq_none (by omega)]
  rfl

theorem ev_sizes_c4 (a b : List Int) (ha : Dg 1000000 a) (hb : Dg 1000000 b) (hl : a.length = b.length) (hn : a.length < 1099511627776) : ∀ n : Nat, n ≤ a.length → a.drop n = b.drop n →
    ∃ r, Ev (fun k => interchangeref1_sizes_c4 k a b ((n : Int) - 1)) r ∧ (0 ≤ r ↔ Vb 1000000 b ≤ Vb 1000000 a) ∧ (0 < r ↔ Vb 1000000 b < Vb 1000000 a) := by
  intro n
  induction n with
  | zero =>
    intro _ he
    refine ⟨0, .step (fun k => interchangeref1_sizes_c4_eq k _ _ _) (.nk (by omega) (.pure _)), ?_⟩
    have : a = b := by simpa using he
    subst this
    simp
  | succ n ih =>
    intro hle he
    have hlt : n < a.length := by omega
    have hx := ha.at (by omega) n
    have hy := hb.at (by omega) n
    have e0 : (((n + 1 : Nat) : Int) - 1) = (n : Int) := by omega
    have hti : ((n : Int)).toNat = n := Int.toNat_natCast n
    have e1 : wi64 ((n : Int) - 1) = (n : Int) - 1 := wi64_id (by omega) (by omega)
    have va : Vb 1000000 a = Vb 1000000 (a.take n) + 1000000 ^ n * (a.getD n 0 + 1000000 * Vb 1000000 (a.drop (n + 1))) := by
      have h := Vb_append 1000000 (a.take n) (a.drop n)
      rw [List.take_append_drop, drop_consI hlt, List.length_take, Nat.min_eq_left (by omega)] at h
      simpa only [Vb] using h
    have vb : Vb 1000000 b = Vb 1000000 (b.take n) + 1000000 ^ n * (b.getD n 0 + 1000000 * Vb 1000000 (b.drop (n + 1))) := by
      have h := Vb_append 1000000 (b.take n) (b.drop n)
      rw [List.take_append_drop, drop_consI (show n < b.length by omega), List.length_take, Nat.min_eq_left (by omega)] at h
      simpa only [Vb] using h
    have ta := Vb_lt (b := 1000000) (by omega) (ha.take n)
    have tb := Vb_lt (b := 1000000) (by omega) (hb.take n)
    have na := Vb_nonneg (b := 1000000) (by omega) (ha.take n)
    have nb := Vb_nonneg (b := 1000000) (by omega) (hb.take n)
    rw [List.length_take, Nat.min_eq_left (by omega)] at ta tb
    rw [he] at va
    rw [e0]
    generalize hxe : a.getD n 0 = x at *
    generalize hye : b.getD n 0 = y at *
    have cmp : ∀ u v c : Int, c < 1000000 ^ n → u < v → c + 1000000 ^ n * (u + 1000000 * Vb 1000000 (b.drop (n + 1))) < 1000000 ^ n * (v + 1000000 * Vb 1000000 (b.drop (n + 1))) := by
      intro u v c hc huv
      have : (1000000 : Int) ^ n * (u + 1000000 * Vb 1000000 (b.drop (n + 1)) + 1) ≤ 1000000 ^ n * (v + 1000000 * Vb 1000000 (b.drop (n + 1))) := Int.mul_le_mul_of_nonneg_left (by omega) (by omega)
      rw [Int.mul_add _ (u + _) 1] at this
      omega
    by_cases hxy : x = y
    · subst hxy
      obtain ⟨r, q1, q2⟩ := ih (by omega) (by rw [drop_consI hlt, drop_consI (show n < b.length by omega), hxe, hye, he])
      refine ⟨r, ?_, q2⟩
      refine .step (fun k => interchangeref1_sizes_c4_eq k _ _ _) (.ck (by omega) (.ck (by omega) (.ck (by omega) (.ck (by omega) (.ck (by omega) (.ff (by rw [hti, hxe, hye]; simp) ?_))))))
      rw [e1]
      exact q1
    · refine ⟨x - y, ?_, ?_⟩
      · refine .step (fun k => interchangeref1_sizes_c4_eq k _ _ _) (.ck (by omega) (.ck (by omega) (.ck (by omega) (.ck (by omega) (.ck (by omega) (.tt (by rw [hti, hxe, hye]; simpa using hxy) (.ck (by omega) (.ck (by omega) (.ck (by omega) (.ck (by omega) ?_))))))))))
        rw [hti, hxe, hye, wi64_id (by omega) (by omega)]
        exact .pure _
      · rcases Int.lt_or_gt_of_ne hxy with h | h
        · have := cmp x y _ ta h
          constructor <;> constructor <;> omega
        · have := cmp y x _ tb h
          constructor <;> constructor <;> omega

theorem ev_sizes (a b : Nat) (ha : (digs 1000000 a).length < 1099511627776) (hb : (digs 1000000 b).length < 1099511627776) :
    ∃ r, Ev (fun k => interchangeref1_sizes k (digs 1000000 a) (digs 1000000 b)) r ∧ (0 ≤ r ↔ b ≤ a) ∧ (0 < r ↔ b < a) := by
  by_cases h : (digs 1000000 a).length = (digs 1000000 b).length
  · obtain ⟨r, q1, q2, q3⟩ := ev_sizes_c4 _ _ (rD a) (rD b) h ha (digs 1000000 a).length (Nat.le_refl _) (by rw [List.drop_length, h, List.drop_length])
    refine ⟨r, .step (fun k => interchangeref1_sizes_eq k _ _) (.ff (by simp [h]) ?_), ?_, ?_⟩
    · rw [wi64_id (by omega) (by omega)]
      exact q1
    · rw [q2, rV, rV]
      omega
    · rw [q3, rV, rV]
      omega
  · refine ⟨_, .step (fun k => interchangeref1_sizes_eq k _ _) (.tt (by simp; omega) (.pure _)), ?_⟩
    rw [wi64_id (by omega) (by omega)]
    rcases Nat.lt_or_ge (digs 1000000 a).length (digs 1000000 b).length with z | z
    · have := digs_lt_of_len (b := 1000000) (by decide) z
      constructor <;> constructor <;> omega
    · have := digs_lt_of_len (b := 1000000) (by decide) (show (digs 1000000 b).length < (digs 1000000 a).length by omega)
      constructor <;> constructor <;> omega

theorem ev_rsub (a b : Bool × List Int) (s4 : Bool × List Int) (ha : Dg 1000000 a.2) (hb : Dg 1000000 b.2) (hl : b.2.length ≤ a.2.length) (hn : a.2.length < 549755813888) (s : Bool) : ∀ (m i : Nat) (out : List Int) (c : Int), a.2.length - i = m → i ≤ a.2.length → out.length = i → Dg 1000000 out → 0 ≤ c → c ≤ 1 →
    0 ≤ Vb 1000000 out + 1000000 ^ i * (Vb 1000000 (a.2.drop i) - Vb 1000000 (b.2.drop i) - c) →
    Ev (fun k => interchangeref1_Plus_c7 k a b s4 (s, out) c (a.2.length : Int) (i : Int)) (N (cond s (-(Vb 1000000 out + 1000000 ^ i * (Vb 1000000 (a.2.drop i) - Vb 1000000 (b.2.drop i) - c))) (Vb 1000000 out + 1000000 ^ i * (Vb 1000000 (a.2.drop i) - Vb 1000000 (b.2.drop i) - c)))) := by
  intro m
  induction m with
  | zero =>
    intro i out c hm hi ho hd hc hc1 hp
    have hi' : i = a.2.length := by omega
    subst hi'
    rw [List.drop_length, List.drop_of_length_le hl] at hp ⊢
    simp only [Vb] at hp ⊢
    have hc0 : c = 0 := by
      have h1 := Vb_lt (b := 1000000) (by omega) hd
      rw [ho] at h1
      rcases (show c = 0 ∨ c = 1 by omega) with h | h
      · exact h
      · subst h
        exfalso
        rw [show (0 - 0 - 1 : Int) = -1 by omega, Int.mul_neg, Int.mul_one] at hp
        omega
    subst hc0
    refine .step (fun k => interchangeref1_Plus_c7_eq k _ _ _ _ _ _ _) (.nk (by omega) ?_)
    refine .ret (ev_rtrim s out (by omega) hd) ?_
    simp
  | succ m ih =>
    intro i out c hm hi ho hd hc hc1 hp
    have hlt : i < a.2.length := by omega
    have hx := ha.at (by omega) i
    have hy := hb.at (by omega) i
    have hti : ((i : Int)).toNat = i := Int.toNat_natCast i
    have hdb : Vb 1000000 (b.2.drop i) = b.2.getD i 0 + 1000000 * Vb 1000000 (b.2.drop (i + 1)) := by
      by_cases hbl : i < b.2.length
      · rw [drop_consI hbl]; rfl
      · rw [List.drop_of_length_le (by omega), List.drop_of_length_le (by omega), List.getD_eq_getElem?_getD, List.getElem?_eq_none (by omega)]
        simp [Vb]
    rw [drop_consI hlt, hdb] at hp ⊢
    refine .step (fun k => interchangeref1_Plus_c7_eq k _ _ _ _ _ _ _) (.ck (by omega) (.ck (by omega) (.ck (by omega) (.bind (ev_digit _ _) ?_))))
    rw [hti]
    generalize hxe : a.2.getD i 0 = x at *
    generalize hye : b.2.getD i 0 = y at *
    have et : wi64 (wi64 (x - y) - c) = x - y - c := by rw [wi64_id (x := x - y) (by omega) (by omega), wi64_id (by omega) (by omega)]
    rw [et]
    have hval : ∀ d c' : Int, x - y - c = d - 1000000 * c' → Vb 1000000 (out ++ [d]) + 1000000 ^ (i + 1) * (Vb 1000000 (a.2.drop (i + 1)) - Vb 1000000 (b.2.drop (i + 1)) - c') = Vb 1000000 out + 1000000 ^ i * (Vb 1000000 (x :: a.2.drop (i + 1)) - (y + 1000000 * Vb 1000000 (b.2.drop (i + 1))) - c) := by
      intro d c' h
      rw [Vb_append, Vb_one, ho, Int.pow_succ]
      simp only [Vb]
      rw [Int.add_assoc, rpow_step]
      congr 2
      omega
    refine .dec (fun h => ?_) (fun h => ?_)
    · rw [wi64_id (by omega) (by omega)]
      have hv := hval (x - y - c + 1000000) 1 (by omega)
      rw [← hv] at hp ⊢
      refine .step (fun k => interchangeref1_Plus_c13_eq k _ _ _ _ _ _ _ _) (.ck (by simp only; omega) ?_)
      rw [rwi_succ (by omega)]
      exact ih (i + 1) _ 1 (by omega) (by omega) (by simp [ho]) (hd.append (.mk (by omega) (by omega) .nil)) (by omega) (by omega) hp
    · have hv := hval (x - y - c) 0 (by omega)
      rw [← hv] at hp ⊢
      refine .step (fun k => interchangeref1_Plus_c13_eq k _ _ _ _ _ _ _ _) (.ck (by simp only; omega) ?_)
      rw [rwi_succ (by omega)]
      exact ih (i + 1) _ 0 (by omega) (by omega) (by simp [ho]) (hd.append (.mk (by omega) (by omega) .nil)) (by omega) (by omega) hp

theorem Vdrop {l : List Int} (i : Nat) : Vb 1000000 (l.drop i) = l.getD i 0 + 1000000 * Vb 1000000 (l.drop (i + 1)) := by
  by_cases h : i < l.length
  · rw [drop_consI h]; rfl
  · rw [List.drop_of_length_le (by omega), List.drop_of_length_le (by omega), List.getD_eq_getElem?_getD, List.getElem?_eq_none (by omega)]
    simp [Vb]

theorem ev_radd (a b : Bool × List Int) (s4 : Bool × List Int) (ha : Dg 1000000 a.2) (hb : Dg 1000000 b.2) (s : Bool) (n : Nat) (hla : a.2.length < n) (hlb : b.2.length < n) (hn : n < 549755813888) : ∀ (m i : Nat) (out : List Int) (c : Int), n - i = m → i ≤ n → out.length = i → Dg 1000000 out → 0 ≤ c → c ≤ 1 → (i = n → c = 0) →
    Ev (fun k => interchangeref1_Plus_c19 k a b s4 (s, out) c (n : Int) (i : Int)) (N (cond s (-(Vb 1000000 out + 1000000 ^ i * (c + Vb 1000000 (a.2.drop i) + Vb 1000000 (b.2.drop i)))) (Vb 1000000 out + 1000000 ^ i * (c + Vb 1000000 (a.2.drop i) + Vb 1000000 (b.2.drop i))))) := by
  intro m
  induction m with
  | zero =>
    intro i out c hm hi ho hd hc hc1 hcn
    have hi' : i = n := by omega
    subst hi'
    have := hcn rfl
    subst this
    rw [List.drop_of_length_le (by omega), List.drop_of_length_le (by omega)]
    refine .step (fun k => interchangeref1_Plus_c19_eq k _ _ _ _ _ _ _) (.nk (by omega) (.ret (ev_rtrim s out (by omega) hd) ?_))
    simp [Vb]
  | succ m ih =>
    intro i out c hm hi ho hd hc hc1 hcn
    have hx := ha.at (by omega) i
    have hy := hb.at (by omega) i
    rw [Vdrop (l := a.2), Vdrop (l := b.2)]
    refine .step (fun k => interchangeref1_Plus_c19_eq k _ _ _ _ _ _ _) (.ck (by omega) (.bind (ev_digit _ _) (.bind (ev_digit _ _) (.ck (by simp only; omega) ?_))))
    have hend : i + 1 = n → a.2.getD i 0 = 0 ∨ a.2.length = i + 1 := by
      intro h
      rcases Nat.lt_or_ge i a.2.length with z | z
      · exact .inr (by omega)
      · exact .inl (by rw [List.getD_eq_getElem?_getD, List.getElem?_eq_none z]; rfl)
    have hxz : i + 1 = n → a.2.getD i 0 = 0 := fun h => by rw [List.getD_eq_getElem?_getD, List.getElem?_eq_none (by omega)]; rfl
    have hyz : i + 1 = n → b.2.getD i 0 = 0 := fun h => by rw [List.getD_eq_getElem?_getD, List.getElem?_eq_none (by omega)]; rfl
    generalize a.2.getD i 0 = x at *
    generalize b.2.getD i 0 = y at *
    have et : wi64 (wi64 (x + y) + c) = x + y + c := by rw [wi64_id (x := x + y) (by omega) (by omega), wi64_id (by omega) (by omega)]
    rw [et, rwi_succ (by omega), Int.tmod_eq_emod_of_nonneg (by omega), Int.tdiv_eq_ediv_of_nonneg (by omega), wi64_id (by omega) (by omega)]
    have hv : Vb 1000000 (out ++ [(x + y + c) % 1000000]) + 1000000 ^ (i + 1) * ((x + y + c) / 1000000 + Vb 1000000 (a.2.drop (i + 1)) + Vb 1000000 (b.2.drop (i + 1))) = Vb 1000000 out + 1000000 ^ i * (c + (x + 1000000 * Vb 1000000 (a.2.drop (i + 1))) + (y + 1000000 * Vb 1000000 (b.2.drop (i + 1)))) := by
      rw [Vb_append, Vb_one, ho, Int.pow_succ, Int.add_assoc, rpow_step]
      congr 2
      omega
    rw [← hv]
    exact ih (i + 1) _ _ (by omega) (by omega) (by simp [ho]) (hd.append (.mk (by omega) (by omega) .nil)) (by omega) (by omega) (fun h => by have := hxz h; have := hyz h; omega)

theorem ev_rPlus (a b : Int) (ha : Sr a) (hb : Sr b) : Ev (fun k => interchangeref1_Plus k (N a) (N b)) (N (a + b)) := by
  have la := ha.len
  have lb := hb.len
  refine .step (fun k => interchangeref1_Plus_eq k _ _) ?_
  have sub : ∀ (x y : Int), Sr x → y.natAbs ≤ x.natAbs → ¬ (x < 0 ↔ y < 0) → Ev (fun k => interchangeref1_Plus_c4 k (N x) (N y) (false, [])) (N (x + y)) := by
    intro x y hx h hs
    have lx := hx.len
    have hl : (N y).2.length ≤ (N x).2.length := by
      rcases Nat.lt_or_ge (N x).2.length (N y).2.length with z | z
      · have := digs_lt_of_len (b := 1000000) (by decide) z
        omega
      · exact z
    refine .step (fun k => interchangeref1_Plus_c4_eq k _ _ _) (.to (ev_rsub (N x) (N y) (false, []) (N_dg x) (N_dg y) hl (by omega) _ _ 0 [] 0 rfl (by omega) rfl .nil (by omega) (by omega) ?_) ?_)
    · simp only [List.drop_zero, N_V, Vb]
      omega
    · simp only [List.drop_zero, N_V, Vb, N_neg]
      congr 1
      by_cases h0 : x < 0
      · simp [h0]
        omega
      · simp [h0]
        omega
  by_cases hs : decide (a < 0) = decide (b < 0)
  · refine .ff (by simp [N, hs]) ?_
    have hs' : a < 0 ↔ b < 0 := by simpa using hs
    have em : wi64 (maxI ((N a).2.length : Int) ((N b).2.length : Int) + 1) = ((max (N a).2.length (N b).2.length + 1 : Nat) : Int) := by
      have : maxI ((N a).2.length : Int) ((N b).2.length : Int) = max ((N a).2.length : Int) ((N b).2.length : Int) := by unfold maxI; split <;> omega
      rw [this, wi64_id (by omega) (by omega)]
      omega
    rw [em]
    refine .to (ev_radd (N a) (N b) (false, []) (N_dg a) (N_dg b) _ _ (by omega) (by omega) (by omega) _ 0 [] 0 rfl (by omega) rfl .nil (by omega) (by omega) (by omega)) ?_
    simp only [List.drop_zero, N_V, Vb, N_neg]
    congr 1
    by_cases h0 : a < 0
    · have := hs'.1 h0
      simp [h0]
      omega
    · have : ¬ b < 0 := fun z => h0 (hs'.2 z)
      simp [h0]
      omega
  · refine .tt (by simpa [N] using hs) ?_
    have hs' : ¬ (a < 0 ↔ b < 0) := by simpa using hs
    obtain ⟨r, q1, q2, q3⟩ := ev_sizes a.natAbs b.natAbs (show (N a).2.length < _ by omega) (show (N b).2.length < _ by omega)
    refine .bind q1 (.dec (fun h => ?_) (fun h => ?_))
    · rw [Int.add_comm]
      exact sub b a hb (by omega) (fun z => hs' z.symm)
    · exact sub a b ha (by omega) hs'

theorem ev_rMinus (a : Int) : Ev (fun k => interchangeref1_Minus k (N a)) (N (-a)) := by
  refine .step (fun k => interchangeref1_Minus_eq k _) ?_
  by_cases hz : a = 0
  · subst hz
    exact .nk (by simp [N, digs_zero]) (.pure _)
  · have := digs_ne (b := 1000000) (n := a.natAbs) (by decide) (by omega)
    refine .ck ?_ (.to (.pure _) ?_)
    · have : 0 < (digs 1000000 a.natAbs).length := List.length_pos_iff.2 this
      simp only [N]
      omega
    · unfold N
      rw [Int.natAbs_neg]
      congr 1
      by_cases h : a < 0
      · simp [h]; omega
      · simp [h]; omega
theorem Sr.neg {a : Int} (h : Sr a) : Sr (-a) := by unfold Sr at *; omega
theorem ev_rSign (a : Int) : Ev (fun k => interchangeref1_Sign k (N a)) a.sign := by
  refine .step (fun k => interchangeref1_Sign_eq k _) ?_
  by_cases hz : a = 0
  · subst hz
    exact .tt (by simp [N, digs_zero]) (.pure _)
  · have := digs_ne (b := 1000000) (n := a.natAbs) (by decide) (by omega)
    refine .ff (by simpa [N] using this) ?_
    by_cases h0 : a < 0
    · exact .tt (by simpa [N] using h0) (.to (.pure _) (Int.sign_eq_neg_one_of_neg h0).symm)
    · exact .ff (by simpa [N] using h0) (.to (.pure _) (Int.sign_eq_one_of_pos (by omega)).symm)
theorem ev_rCmp (a b : Int) (ha : Sr a) (hb : Sr b) : Ev (fun k => interchangeref1_Cmp k (N a) (N b)) (a - b).sign :=
  .step (fun k => interchangeref1_Cmp_eq k _ _) (.bind (ev_rMinus b) (.bind (ev_rPlus a (-b) ha hb.neg) (.ret (ev_rSign _) (by rw [Int.sub_eq_add_neg]))))
end Go.Proofs.Ytoiahmmockgcbaa.Eq
