import Derived.Test.YtoiahmmockgcbaaRaSharesB
import Derived.Test.YtoiahmmockgcbaaRaRefC
/- Shares: what the reference's function computes; that it is the same. -/
namespace Go.Proofs.Ytoiahmmockgcbaa.Eq
open Go Go.Ra
set_option linter.unusedVariables false

/-- Before it in the order of the rests, the equal ones as they stand. -/
def Bef (x y : Sh) : Prop := val y < val x ∨ (val y = val x ∧ x.1 < y.1)
theorem mrg_bef (x : Sh) : ∀ (m : List Sh), m.Pairwise Bef → (∀ y ∈ m, x.1 < y.1) → (mrg leS [x] m).Pairwise Bef
  | [], _, _ => by rw [mrg_nil_right]; exact List.pairwise_singleton _ _
  | y :: m, h, hx => by
    have h' := List.pairwise_cons.1 h
    rw [mrg_cons]
    by_cases hxy : leS x y = true
    · rw [if_pos hxy, mrg_nil_left]
      simp only [leS, decide_eq_true_eq] at hxy
      refine List.pairwise_cons.2 ⟨fun z hz => ?_, h⟩
      have hxz := hx z hz
      unfold Bef
      rcases List.mem_cons.1 hz with rfl | hz
      · omega
      · have := h'.1 z hz
        unfold Bef at this
        omega
    · rw [if_neg hxy]
      simp only [leS, decide_eq_true_eq] at hxy
      refine List.pairwise_cons.2 ⟨fun z hz => ?_, mrg_bef x m h'.2 fun z hz => hx z (by simp [hz])⟩
      rcases List.mem_append.1 ((mrg_perm leS [x] m).mem_iff.1 hz) with hz | hz
      · have : z = x := by simpa using hz
        subst this
        exact .inl (by omega)
      · exact h'.1 z hz
theorem isort_bef : ∀ (l : List Sh), l.Pairwise (fun x y => x.1 < y.1) → (isort leS l).Pairwise Bef
  | [], _ => List.Pairwise.nil
  | x :: l, h => by
    have h' := List.pairwise_cons.1 h
    have := isort_append leS_tp [x] l
    rw [List.singleton_append] at this
    rw [this, isort_one]
    exact mrg_bef x _ (isort_bef l h'.2) fun y hy => h'.1 y ((isort_perm leS_tp l).mem_iff.1 hy)
theorem shs_up (u : Nat) (s : Int) : ∀ (l : List Int) (i : Nat), (shs u s l i).Pairwise (fun x y => x.1 < y.1) ∧ ∀ x ∈ shs u s l i, (i : Int) ≤ x.1
  | [], i => ⟨List.Pairwise.nil, by simp [shs]⟩
  | w :: l, i => by
    obtain ⟨h1, h2⟩ := shs_up u s l (i + 1)
    refine ⟨List.pairwise_cons.2 ⟨fun y hy => ?_, h1⟩, fun x hx => ?_⟩
    · have := h2 y hy
      show (i : Int) < y.1
      omega
    · simp only [shs, List.mem_cons] at hx
      rcases hx with rfl | hx
      · simp
      · have := h2 x hx
        omega

/-- The sorted parts: plain facts. -/
structure Sf (u : Nat) (s : Int) (l : List Int) (m : List Sh) : Prop where
  len : m.length = l.length
  nd : m.Pairwise (fun x y => x.1.toNat ≠ y.1.toNat)
  bef : m.Pairwise Bef
  mem : ∀ x ∈ m, ∃ j, j < l.length ∧ x = ((j : Int), (((qt u s (l.getD j 0) : Nat) : Int), W ((rt u s (l.getD j 0) : Nat) : Int)))
  cov : ∀ j, j < l.length → ∃ p : Nat, m[p]? = some ((j : Int), (((qt u s (l.getD j 0) : Nat) : Int), W ((rt u s (l.getD j 0) : Nat) : Int)))
  left0 : 0 ≤ (u : Int) - qsum u s l
  left1 : (u : Int) - qsum u s l ≤ l.length

theorem sf_ok (u : Nat) (s : Int) (l : List Int) (hok : ∀ w ∈ l, okW w) (hs : sumI l = s) (h0 : 0 < s) : Sf u s l (isort leS (shs u s l 0)) := by
  have hpm := isort_perm leS_tp (shs u s l 0)
  have hlen : (isort leS (shs u s l 0)).length = l.length := by rw [hpm.length_eq, shs_len]
  have hmem : ∀ x ∈ isort leS (shs u s l 0), ∃ j, j < l.length ∧ x = ((j : Int), (((qt u s (l.getD j 0) : Nat) : Int), W ((rt u s (l.getD j 0) : Nat) : Int))) := by
    intro x hx
    obtain ⟨j, hj⟩ := List.mem_iff_getElem?.1 (hpm.mem_iff.1 hx)
    have hjl : j < l.length := by
      rcases Nat.lt_or_ge j l.length with q | q
      · exact q
      · rw [List.getElem?_eq_none (by rw [shs_len]; exact q)] at hj; simp at hj
    rw [shs_get u s l 0 j hjl] at hj
    injection hj with hj
    exact ⟨j, hjl, by rw [← hj, Nat.zero_add]⟩
  have hvv : ∀ x ∈ isort leS (shs u s l 0), 0 ≤ val x ∧ val x < s := by
    intro x hx
    obtain ⟨j, hjl, rfl⟩ := hmem x hx
    rw [val_W (n := rt u s (l.getD j 0)) rfl]
    have := rt_lt (u := u) (s := s) (w := l.getD j 0) h0
    omega
  have hvs : vsum (isort leS (shs u s l 0)) = ((u : Int) - qsum u s l) * s := by
    rw [vsum_perm hpm]
    have := vsum_shs u s h0 l 0 fun w hw => (hok w hw).1
    rw [hs] at this
    rw [Int.sub_mul, Int.mul_comm (qsum u s l)]
    omega
  refine ⟨hlen, hpm.symm.pairwise (shs_nd u s l 0).1 fun {x y} h => h.symm, isort_bef _ (shs_up u s l 0).1, hmem, fun j hj => ?_, ?_, ?_⟩
  · have hx := shs_get u s l 0 j hj
    obtain ⟨p, hp⟩ := List.mem_iff_getElem?.1 (hpm.mem_iff.2 (List.mem_of_getElem? hx))
    exact ⟨p, by rw [hp, Nat.zero_add]⟩
  · have h1 : 0 ≤ vsum (isort leS (shs u s l 0)) := by
      have : ∀ m : List Sh, (∀ x ∈ m, 0 ≤ val x) → 0 ≤ vsum m := by
        intro m
        induction m with
        | nil => intro _; simp [vsum]
        | cons x m ih =>
          intro h
          have := h x (by simp)
          have := ih fun y hy => h y (by simp [hy])
          simp only [vsum]
          omega
      exact this _ fun x hx => (hvv x hx).1
    rw [hvs] at h1
    rcases Int.lt_or_le ((u : Int) - qsum u s l) 0 with q | q
    · have := Int.mul_neg_of_neg_of_pos q h0
      omega
    · exact q
  · have h1 := vsum_le s _ fun x hx => (hvv x hx).2
    rw [hvs, hlen] at h1
    rcases Int.lt_or_le (l.length : Int) ((u : Int) - qsum u s l) with q | q
    · have h2 : ((l.length : Int) + 1) * s ≤ ((u : Int) - qsum u s l) * s := Int.mul_le_mul_of_nonneg_right (by omega) (by omega)
      have h3 : (l.length : Int) * (s - 1) = l.length * s - l.length := by rw [Int.mul_sub]; omega
      have h4 : ((l.length : Int) + 1) * s = l.length * s + s := by rw [Int.add_mul]; omega
      omega
    · exact q

theorem ndAt {m : List Sh} (h : m.Pairwise (fun x y => x.1.toNat ≠ y.1.toNat)) {p q : Nat} {x y : Sh} (hx : m[p]? = some x) (hy : m[q]? = some y) (he : x.1.toNat = y.1.toNat) : p = q := by
  obtain ⟨hp, rfl⟩ := List.getElem?_eq_some_iff.1 hx
  obtain ⟨hq, rfl⟩ := List.getElem?_eq_some_iff.1 hy
  rcases Nat.lt_trichotomy p q with z | z | z
  · exact absurd he (List.pairwise_iff_getElem.1 h p q hp hq z)
  · exact z
  · exact absurd he.symm (List.pairwise_iff_getElem.1 h q p hq hp z)

/-- The first greatest one. -/
theorem ev_pick (d : Int × Int) (o : List (Int × Int)) (rest : List Int) (left : Int) (hn : rest.length = o.length) (hn2 : rest.length ≤ 1000) (h0 : 0 < rest.length) (hb : ∀ j, j < o.length → -1 ≤ (o.getD j (0, 0)).1 ∧ (o.getD j (0, 0)).1 ≤ 1000000000000001) :
    ∀ (n i b : Nat), rest.length - i = n → i ≤ rest.length → b < rest.length → (b ≤ i) → (∀ j, j < i → rest.getD j 0 ≤ rest.getD b 0) → (∀ j, j < b → rest.getD j 0 < rest.getD b 0) →
    ∃ b', b' < rest.length ∧ (∀ j, j < rest.length → rest.getD j 0 ≤ rest.getD b' 0) ∧ (∀ j, j < b' → rest.getD j 0 < rest.getD b' 0) ∧
      ∀ y, Ev (fun k => interchangeref1_Shares_c30 k d (o.set b' ((o.getD b' (0, 0)).1 + 1, (o.getD b' (0, 0)).2)) (rest.set b' (-1)) (wi64 (left - 1))) y →
        Ev (fun k => interchangeref1_Shares_c34 k d o rest left (b : Int) (rest.length : Int) (i : Int)) y := by
  intro n
  induction n with
  | zero =>
    intro i b hm hi hbl hbi h1 h2
    have hi' : i = rest.length := by omega
    subst hi'
    refine ⟨b, hbl, h1, h2, fun y hy => ?_⟩
    have hbo := hb b (by omega)
    refine .step (fun k => interchangeref1_Shares_c34_eq k _ _ _ _ _ _ _) (.nk (by omega) ?_)
    refine .ck (by omega) (.ck (by omega) (.ck (by omega) (.ck (by omega) (.ck (by omega) (.ck (by omega) ?_)))))
    rw [Int.toNat_natCast, wi64_id (x := (o.getD b (0, 0)).1 + 1) (by omega) (by omega)]
    exact hy
  | succ n ih =>
    intro i b hm hi hbl hbi h1 h2
    have hil : i < rest.length := by omega
    have step : ∀ (b2 : Nat), b2 < rest.length → b2 ≤ i + 1 → (∀ j, j < i + 1 → rest.getD j 0 ≤ rest.getD b2 0) → (∀ j, j < b2 → rest.getD j 0 < rest.getD b2 0) →
        ∃ b', b' < rest.length ∧ (∀ j, j < rest.length → rest.getD j 0 ≤ rest.getD b' 0) ∧ (∀ j, j < b' → rest.getD j 0 < rest.getD b' 0) ∧
        ∀ y, Ev (fun k => interchangeref1_Shares_c30 k d (o.set b' ((o.getD b' (0, 0)).1 + 1, (o.getD b' (0, 0)).2)) (rest.set b' (-1)) (wi64 (left - 1))) y →
        Ev (fun k => interchangeref1_Shares_c38 k d o rest left (b2 : Int) (rest.length : Int) (i : Int)) y := by
      intro b2 q1 q2 q3 q4
      obtain ⟨b', p1, p2, p3, p4⟩ := ih (i + 1) b2 (by omega) (by omega) q1 q2 q3 q4
      refine ⟨b', p1, p2, p3, fun y hy => .step (fun k => interchangeref1_Shares_c38_eq k _ _ _ _ _ _ _) ?_⟩
      rw [wi_s hil (by omega)]
      exact p4 y hy
    by_cases hgt : rest.getD i 0 > rest.getD b 0
    · obtain ⟨b', p1, p2, p3, p4⟩ := step i hil (by omega) (fun j hj => by
        by_cases hji : j = i
        · rw [hji]; exact Int.le_refl _
        · have := h1 j (by omega)
          omega) (fun j hj => by
        have := h1 j hj
        omega)
      refine ⟨b', p1, p2, p3, fun y hy => .step (fun k => interchangeref1_Shares_c34_eq k _ _ _ _ _ _ _) ?_⟩
      refine .ck (by omega) (.ck (by omega) (.ck (by omega) (.ck (by omega) (.ck (by omega) ?_))))
      exact .tt (by simpa using hgt) (p4 y hy)
    · obtain ⟨b', p1, p2, p3, p4⟩ := step b hbl (by omega) (fun j hj => by
        by_cases hji : j = i
        · rw [hji]; omega
        · exact h1 j (by omega)) h2
      refine ⟨b', p1, p2, p3, fun y hy => .step (fun k => interchangeref1_Shares_c34_eq k _ _ _ _ _ _ _) ?_⟩
      refine .ck (by omega) (.ck (by omega) (.ck (by omega) (.ck (by omega) (.ck (by omega) ?_))))
      exact .ff (by simpa using hgt) (p4 y hy)

def sgn (d : Int × Int) (x : Int × Int) : Int × Int := (if d.1 < 0 then -x.1 else x.1, x.2)
theorem ev_rShares_c42 (d : Int × Int) : ∀ (n i : Nat) (o : List (Int × Int)), o.length - i = n → i ≤ o.length → o.length ≤ 1000 → (∀ j, j < o.length → -1000000000000001 ≤ (o.getD j (0, 0)).1 ∧ (o.getD j (0, 0)).1 ≤ 1000000000000001) →
    ∃ r, Ev (fun k => interchangeref1_Shares_c42 k d o (o.length : Int) (i : Int)) (r, 0) ∧ r.length = o.length ∧ ∀ j : Nat, r[j]? = if i ≤ j then o[j]?.map (sgn d) else o[j]? := by
  intro n
  induction n with
  | zero =>
    intro i o hm hi hl hb
    refine ⟨o, .step (fun k => interchangeref1_Shares_c42_eq k _ _ _ _) (.nk (by omega) (.pure _)), rfl, fun j => ?_⟩
    by_cases hj : i ≤ j
    · rw [if_pos hj, List.getElem?_eq_none (by omega)]
      rfl
    · rw [if_neg hj]
  | succ n ih =>
    intro i o hm hi hl hb
    have hil : i < o.length := by omega
    by_cases hneg : d.1 < 0
    · have hset : (o.set i (-(o.getD i (0, 0)).1, (o.getD i (0, 0)).2)).length = o.length := by simp
      obtain ⟨r, q1, q2, q3⟩ := ih (i + 1) (o.set i (-(o.getD i (0, 0)).1, (o.getD i (0, 0)).2)) (by rw [hset]; omega) (by rw [hset]; omega) (by rw [hset]; omega) (fun j hj => by
        rw [hset] at hj
        rw [List.getD_eq_getElem?_getD, List.getElem?_set]
        by_cases he : i = j
        · subst he
          have := hb i hil
          simp only [if_pos hil, if_true, Option.getD_some]
          omega
        · rw [if_neg he, ← List.getD_eq_getElem?_getD]
          exact hb j hj)
      rw [hset] at q1 q2
      refine ⟨r, .step (fun k => interchangeref1_Shares_c42_eq k _ _ _ _) (.ck (by omega) (.ck hneg (.ck (by omega) (.ck (by omega) (.ck (by omega) (.ck (by omega) ?_)))))), q2, fun j => ?_⟩
      · have hbi := hb i hil
        rw [Int.toNat_natCast, wi_s hil (by omega), wi64_id (x := 0 - (o.getD i (0, 0)).1) (by omega) (by omega), Int.zero_sub]
        exact q1
      · rw [q3 j]
        by_cases hj : i = j
        · subst hj
          rw [if_neg (by omega), if_pos (by omega), List.getElem?_set_self hil, List.getD_eq_getElem?_getD, List.getElem?_eq_getElem hil]
          simp [sgn, hneg]
        · rw [List.getElem?_set_ne hj]
          by_cases hj2 : i + 1 ≤ j
          · rw [if_pos hj2, if_pos (by omega)]
          · rw [if_neg hj2, if_neg (by omega)]
    · obtain ⟨r, q1, q2, q3⟩ := ih (i + 1) o (by omega) (by omega) hl hb
      refine ⟨r, .step (fun k => interchangeref1_Shares_c42_eq k _ _ _ _) (.ck (by omega) (.nk hneg ?_)), q2, fun j => ?_⟩
      · rw [wi_s hil (by omega)]
        exact q1
      · rw [q3 j]
        have hid : ∀ x : Option (Int × Int), x.map (sgn d) = x := by
          intro x
          cases x with
          | none => rfl
          | some x => simp [sgn, hneg]
        simp [hid]

/-- The rounds in which what is left over is given out. -/
theorem ev_rShares_c30 (d : Int × Int) (u : Nat) (s : Int) (l : List Int) (m : List Sh) (F : Sf u s l m) (hl : l.length ≤ 1000) (hl0 : 0 < l.length) (hu : u ≤ 1000000000000000) (hs0 : 0 < s) (hok : ∀ w ∈ l, 0 ≤ w ∧ w ≤ s) (left : Int) (hleft0 : 0 ≤ left) (hleft1 : left ≤ l.length) :
    ∀ (n p0 : Nat) (o : List (Int × Int)) (rest : List Int), left - p0 = n → o.length = l.length → rest.length = l.length →
      (∀ (p : Nat) (x : Sh), m[p]? = some x → o[x.1.toNat]? = some (if p < p0 then x.2.1 + 1 else x.2.1, d.2) ∧ rest[x.1.toNat]? = some (if p < p0 then -1 else val x)) →
      ∃ r, Ev (fun k => interchangeref1_Shares_c30 k d o rest (left - p0)) (r, 0) ∧ r.length = l.length ∧ ∀ (p : Nat) (x : Sh), m[p]? = some x → r[x.1.toNat]? = some (sgn d (if (p : Int) < left then x.2.1 + 1 else x.2.1, d.2)) := by
  have hx2 : ∀ x ∈ m, 0 ≤ x.2.1 ∧ x.2.1 ≤ 1000000000000000 ∧ 0 ≤ val x := by
    intro x hx
    obtain ⟨j, hj, rfl⟩ := F.mem x hx
    have hw := hok (l.getD j 0) (by
      rw [List.getD_eq_getElem?_getD, List.getElem?_eq_getElem hj]
      exact List.getElem_mem hj)
    have := qt_le (u := u) hw.1 hw.2 hs0
    rw [val_W (n := rt u s (l.getD j 0)) rfl]
    show 0 ≤ ((qt u s (l.getD j 0) : Nat) : Int) ∧ ((qt u s (l.getD j 0) : Nat) : Int) ≤ 1000000000000000 ∧ 0 ≤ ((rt u s (l.getD j 0) : Nat) : Int)
    omega
  intro n
  induction n with
  | zero =>
    intro p0 o rest hn ho hr hst
    have hcov : ∀ j, j < o.length → -1000000000000001 ≤ (o.getD j (0, 0)).1 ∧ (o.getD j (0, 0)).1 ≤ 1000000000000001 := by
      intro j hj
      obtain ⟨p, hp⟩ := F.cov j (by omega)
      have h1 := (hst p _ hp).1
      have h2 := hx2 _ (List.mem_of_getElem? hp)
      rw [show (((j : Int), (((qt u s (l.getD j 0) : Nat) : Int), W ((rt u s (l.getD j 0) : Nat) : Int))) : Sh).1.toNat = j from Int.toNat_natCast j] at h1
      rw [List.getD_eq_getElem?_getD, h1]
      simp only [Option.getD_some]
      dsimp only at h2
      split <;> omega
    obtain ⟨r, q1, q2, q3⟩ := ev_rShares_c42 d _ 0 o rfl (by omega) (by omega) hcov
    refine ⟨r, .step (fun k => interchangeref1_Shares_c30_eq k _ _ _ _) (.nk (by omega) q1), by omega, fun p x hx => ?_⟩
    rw [q3, if_pos (by omega), (hst p x hx).1]
    have : (p < p0) = ((p : Int) < left) := by
      apply propext
      constructor <;> intro h <;> omega
    simp only [this, Option.map_some]
  | succ n ih =>
    intro p0 o rest hn ho hr hst
    have hp0 : p0 < m.length := by rw [F.len]; omega
    -- the next one
    obtain ⟨t, ht⟩ : ∃ t, m[p0]? = some t := ⟨_, List.getElem?_eq_getElem hp0⟩
    obtain ⟨jt, hjt, hjt2⟩ := F.mem t (List.mem_of_getElem? ht)
    have htj : t.1.toNat = jt := by rw [hjt2]; exact Int.toNat_natCast jt
    have hgetO : ∀ (p : Nat) (x : Sh), m[p]? = some x → o.getD x.1.toNat (0, 0) = (if p < p0 then x.2.1 + 1 else x.2.1, d.2) := by
      intro p x hx
      rw [List.getD_eq_getElem?_getD, (hst p x hx).1]
      rfl
    have hgetR : ∀ (p : Nat) (x : Sh), m[p]? = some x → rest.getD x.1.toNat 0 = (if p < p0 then -1 else val x) := by
      intro p x hx
      rw [List.getD_eq_getElem?_getD, (hst p x hx).2]
      rfl
    have hcov : ∀ j, j < l.length → ∃ (p : Nat) (x : Sh), m[p]? = some x ∧ x.1.toNat = j := by
      intro j hj
      obtain ⟨p, hp⟩ := F.cov j hj
      exact ⟨p, _, hp, Int.toNat_natCast j⟩
    obtain ⟨b, b1, b2, b3, b4⟩ := ev_pick d o rest (left - p0) (by omega) (by omega) (by omega) (fun j hj => by
      obtain ⟨p, x, hx, hxj⟩ := hcov j (by omega)
      have h2 := hx2 x (List.mem_of_getElem? hx)
      rw [← hxj, hgetO p x hx]
      simp only
      split <;> omega) _ 0 0 rfl (by omega) (by omega) (by omega) (fun j hj => by omega) (fun j hj => by omega)
    have hbt : b = t.1.toNat := by
      obtain ⟨p, x, hx, hxb⟩ := hcov b (by omega)
      have ht2 := (hx2 t (List.mem_of_getElem? ht)).2.2
      have hmax := b2 t.1.toNat (by omega)
      rw [hgetR p0 t ht, if_neg (by omega), ← hxb, hgetR p x hx] at hmax
      by_cases hpp : p < p0
      · rw [if_pos hpp] at hmax
        omega
      · rw [if_neg hpp] at hmax
        by_cases he : p = p0
        · subst he
          rw [ht] at hx
          injection hx with hx
          rw [← hxb, hx]
        · exfalso
          obtain ⟨hpl, hpe⟩ := List.getElem?_eq_some_iff.1 hx
          obtain ⟨hpl0, hpe0⟩ := List.getElem?_eq_some_iff.1 ht
          have hbef := List.pairwise_iff_getElem.1 F.bef p0 p hpl0 hpl (by omega)
          rw [hpe0, hpe] at hbef
          obtain ⟨jx, hjx, hjx2⟩ := F.mem x (List.mem_of_getElem? hx)
          have hx1 : x.1 = (jx : Int) := by rw [hjx2]
          have ht1 : t.1 = (jt : Int) := by rw [hjt2]
          unfold Bef at hbef
          have hlt : t.1.toNat < b := by omega
          have := b3 t.1.toNat hlt
          rw [hgetR p0 t ht, if_neg (by omega), ← hxb, hgetR p x hx, if_neg hpp] at this
          omega
    have hgo : o.getD b (0, 0) = (t.2.1, d.2) := by
      rw [hbt, hgetO p0 t ht, if_neg (by omega)]
    obtain ⟨r, q1, q2, q3⟩ := ih (p0 + 1) (o.set b ((o.getD b (0, 0)).1 + 1, (o.getD b (0, 0)).2)) (rest.set b (-1)) (by omega) (by simpa using ho) (by simpa using hr) (fun p x hx => by
      by_cases he : p = p0
      · subst he
        rw [ht] at hx
        injection hx with hx
        subst hx
        rw [← hbt, List.getElem?_set_self (by omega), List.getElem?_set_self (by omega), hgo, if_pos (by omega), if_pos (by omega)]
        exact ⟨rfl, rfl⟩
      · have hne : b ≠ x.1.toNat := by
          rw [hbt]
          intro z
          exact he (ndAt F.nd hx ht z.symm)
        rw [List.getElem?_set_ne hne, List.getElem?_set_ne hne, (hst p x hx).1, (hst p x hx).2]
        have : (p < p0 + 1) = (p < p0) := by
          apply propext
          constructor <;> intro h <;> omega
        constructor <;> simp only [this])
    refine ⟨r, .step (fun k => interchangeref1_Shares_c30_eq k _ _ _ _) (.ck (by omega) (b4 _ ?_)), q2, q3⟩
    rw [wi64_id (by omega) (by omega)]
    have : left - (p0 : Int) - 1 = left - ((p0 + 1 : Nat) : Int) := by omega
    rw [this]
    exact q1

theorem ev_rShares_c22 (d : Int × Int) (u : Nat) (s : Int) (l : List Int) (hl : l.length ≤ 1000) (hok : ∀ w ∈ l, 0 ≤ w ∧ w ≤ s) (hs0 : 0 < s) (hs : s ≤ 1000000000000) (hu : u ≤ 1000000000000000) {y : List (Int × Int) × Int}
    (hy : ∀ o rest, o.length = l.length → rest.length = l.length → (∀ j, j < l.length → o[j]? = some (((qt u s (l.getD j 0) : Nat) : Int), d.2) ∧ rest[j]? = some ((rt u s (l.getD j 0) : Nat) : Int)) → Ev (fun k => interchangeref1_Shares_c30 k d o rest ((u : Int) - qsum u s l)) y) :
    ∀ (n i : Nat) (o : List (Int × Int)) (rest : List Int) (left : Int), l.length - i = n → i ≤ l.length → o.length = l.length → rest.length = l.length → (∀ j, j < i → o[j]? = some (((qt u s (l.getD j 0) : Nat) : Int), d.2) ∧ rest[j]? = some ((rt u s (l.getD j 0) : Nat) : Int)) →
      left - qsum u s (l.drop i) = (u : Int) - qsum u s l → left ≤ u → (u : Int) - left ≤ (i : Int) * 1000000000000000 →
      Ev (fun k => interchangeref1_Shares_c22 k d s (u : Int) o rest left l (l.length : Int) (i : Int)) y := by
  intro n
  induction n with
  | zero =>
    intro i o rest left hn hi ho hr hst hleft hlu hll
    have hi' : i = l.length := by omega
    subst hi'
    rw [List.drop_of_length_le (by omega)] at hleft
    simp only [qsum, Int.sub_zero] at hleft
    refine .step (fun k => interchangeref1_Shares_c22_eq k _ _ _ _ _ _ _ _ _) (.nk (by omega) ?_)
    rw [hleft]
    exact hy o rest ho hr hst
  | succ n ih =>
    intro i o rest left hn hi ho hr hst hleft hlu hll
    have hil : i < l.length := by omega
    have hw := hok (l.getD i 0) (by
      rw [List.getD_eq_getElem?_getD, List.getElem?_eq_getElem hil]
      exact List.getElem_mem hil)
    rw [drop_consI hil] at hleft
    simp only [qsum] at hleft
    have hq := qt_le (u := u) hw.1 hw.2 hs0
    have hr2 := rt_lt (u := u) (s := s) (w := l.getD i 0) hs0
    have hprod : ((u : Int) * l.getD i 0).natAbs ≤ 10 ^ 30 := by
      rw [Int.natAbs_mul]
      have : (u : Int).natAbs * (l.getD i 0).natAbs ≤ 10 ^ 15 * 10 ^ 12 := Nat.mul_le_mul (by simp; omega) (by omega)
      exact Nat.le_trans this (by decide)
    have sr : ∀ x : Int, x.natAbs ≤ 10 ^ 30 → Sr x := fun x hx => by
      unfold Sr
      have : (10 : Nat) ^ 30 < 1000000 ^ 100 := by decide
      omega
    have c30 : (10 : Nat) ^ 16 ≤ 10 ^ 30 := by decide
    refine .step (fun k => interchangeref1_Shares_c22_eq k _ _ _ _ _ _ _ _ _) (.ck (by omega) (.ck (by omega) (.ck (by omega) (.bind (ev_rOf _ (by omega) (by omega)) ?_))))
    rw [Int.toNat_natCast]
    refine .bind (ev_rOf _ (by omega) (by omega)) (.bind (ev_rTimes _ _ (sr _ (by simp; omega)) (sr _ (by omega))) (.bind (ev_rOf _ (by omega) (by omega)) ?_))
    have e1 : ((((u : Int) * l.getD i 0).natAbs : Nat) : Int) = (u : Int) * l.getD i 0 := Int.natAbs_of_nonneg (Int.mul_nonneg (by omega) hw.1)
    have e2 : ((s.natAbs : Nat) : Int) = s := Int.natAbs_of_nonneg (by omega)
    have hdm := ev_rDivMod ((u : Int) * l.getD i 0).natAbs s.natAbs (by omega) (by
      have : (10 : Nat) ^ 30 < 10 ^ 40 := by decide
      omega) (by
      have : (10 : Nat) ^ 16 < 10 ^ 40 := by decide
      omega)
    rw [e1, e2] at hdm
    refine .bind hdm (.bind (ev_rSmall _ _ (sr _ ?_) (by omega) (by omega)) (.bind (ev_rSmall _ _ (sr _ ?_) (by omega) (by omega)) ?_))
    · show (((qt u s (l.getD i 0) : Nat) : Int)).natAbs ≤ _
      omega
    · show (((rt u s (l.getD i 0) : Nat) : Int)).natAbs ≤ _
      omega
    rw [if_pos (by
      show ((((qt u s (l.getD i 0) : Nat) : Int).natAbs : Nat) : Int) ≤ _
      omega), if_pos (by
      show ((((rt u s (l.getD i 0) : Nat) : Int).natAbs : Nat) : Int) ≤ _
      omega)]
    refine .ck (by omega) (.ck (by omega) (.ck (by omega) (.ck (by omega) ?_)))
    rw [wi_s hil (by omega), wi64_id (by
      show _ ≤ left - ((qt u s (l.getD i 0) : Nat) : Int)
      omega) (by
      show left - ((qt u s (l.getD i 0) : Nat) : Int) < _
      omega)]
    refine ih (i + 1) _ _ (left - ((qt u s (l.getD i 0) : Nat) : Int)) (by omega) (by omega) (by simpa using ho) (by simpa using hr) (fun j hj => ?_) (by omega) (by omega) (by
      push_cast
      omega)
    by_cases he : j = i
    · subst he
      rw [List.getElem?_set_self (by omega), List.getElem?_set_self (by omega)]
      exact ⟨rfl, rfl⟩
    · rw [List.getElem?_set_ne (fun z => he z.symm), List.getElem?_set_ne (fun z => he z.symm)]
      exact hst j (by omega)

theorem ev_rShares (d : Int × Int) (l : List Int) : Ev (fun k => interchangeref1_Shares k d l) (shaR d l) := by
  refine .step (fun k => interchangeref1_Shares_eq k _ _) (.bind (ev_rCheck d) ?_)
  unfold shaR
  by_cases hd : okD d
  · rw [if_pos hd, if_pos hd]
    refine .ff (by simp) ?_
    unfold wfR
    by_cases h0 : l.length = 0
    · rw [if_pos h0]
      exact .tt (by simp [h0]) (.to (.pure _) (by simp))
    · rw [if_neg h0]
      refine .ff (by simp; intro z; exact h0 (by simp [z])) ?_
      by_cases h1 : l.length > 1000
      · rw [if_pos h1]
        exact .ck (by omega) (.to (.pure _) (by simp))
      · rw [if_neg h1]
        refine .nk (by omega) ?_
        have key : ∀ (m i : Nat) (s : Int), l.length - i = m → i ≤ l.length → 0 ≤ s → s ≤ 1000000000 * i → s + sumI (l.drop i) = sumI l → (∀ w ∈ l, w ∈ l.drop i ∨ okW w) →
            Ev (fun k => interchangeref1_Shares_c9 k l d s l (l.length : Int) (i : Int)) (if (if ∀ w ∈ l.drop i, okW w then (if sumI l = 0 then (13 : Int) else 0) else 1) = 0 then (prts d l, 0) else ([], (if ∀ w ∈ l.drop i, okW w then (if sumI l = 0 then (13 : Int) else 0) else 1))) := by
          intro m
          induction m with
          | zero =>
            intro i s hm hi hs hs2 hsum hmem
            rw [List.drop_of_length_le (by omega)] at hsum
            have hall : ∀ w ∈ l, okW w := fun w hw => by
              rcases hmem w hw with q | q
              · rw [List.drop_of_length_le (by omega)] at q; simp at q
              · exact q
            simp only [sumI, Int.add_zero] at hsum
            subst hsum
            refine .step (fun k => interchangeref1_Shares_c9_eq k _ _ _ _ _ _) (.nk (by omega) ?_)
            rw [List.drop_of_length_le (by omega)]
            simp only [List.not_mem_nil, false_implies, implies_true, if_true]
            by_cases hz : sumI l = 0
            · rw [if_pos hz, if_neg (by decide)]
              exact .tt (by simp [hz]) (.pure _)
            · rw [if_neg hz, if_pos rfl]
              refine .ff (by simp [hz]) (.ck (by omega) (.ck (by omega) (.ck (by omega) (.ck (by omega) ?_))))
              have h3 : 0 < sumI l := by have := (sumI_nonneg hall).1; omega
              have hsb := (sumI_nonneg hall).2
              have hd' := hd
              unfold okD at hd'
              have hu : maxI d.1 (wi64 (0 - d.1)) = (d.1.natAbs : Int) := by
                rw [wi64_id (by omega) (by omega)]
                unfold maxI
                split <;> omega
              rw [hu, Int.toNat_natCast]
              have hok : ∀ w ∈ l, 0 ≤ w ∧ w ≤ sumI l := fun w hw => ⟨(hall w hw).1, sumI_le hall w hw⟩
              have F := sf_ok d.1.natAbs (sumI l) l hall rfl h3
              refine ev_rShares_c22 d d.1.natAbs (sumI l) l (by omega) hok h3 (by omega) (by omega) (fun o rest ho hr hst => ?_) _ 0 _ _ _ rfl (by omega) (by simp) (by simp) (fun j hj => by omega) (by simp) (by omega) (by omega)
              obtain ⟨r, q1, q2, q3⟩ := ev_rShares_c30 d d.1.natAbs (sumI l) l _ F (by omega) (by omega) (by omega) h3 hok _ F.left0 F.left1 ((d.1.natAbs : Int) - qsum d.1.natAbs (sumI l) l).toNat 0 o rest (by
                have := F.left0
                omega) ho hr (fun p x hx => by
                obtain ⟨j, hj, rfl⟩ := F.mem x (List.mem_of_getElem? hx)
                rw [val_W (n := rt d.1.natAbs (sumI l) (l.getD j 0)) rfl]
                simp only [Nat.not_lt_zero, if_false, Int.toNat_natCast]
                exact hst j hj)
              have hr2 : r = prts d l := by
                apply List.ext_getElem?
                intro j
                by_cases hj : j < l.length
                · obtain ⟨p, hp⟩ := F.cov j hj
                  have h1 := q3 p _ hp
                  have h2 := lay_at (decide (d.1 < 0)) d.2 ((d.1.natAbs : Int) - qsum d.1.natAbs (sumI l) l) _ 0 p _ (List.replicate l.length (0, 0)) F.nd hp (by simpa using hj)
                  rw [Nat.zero_add p] at h2
                  simp only [Int.toNat_natCast] at h1 h2
                  rw [h1]
                  unfold prts
                  rw [h2]
                  simp only [sgn, prt]
                  by_cases hn : d.1 < 0 <;> simp [hn]
                · rw [List.getElem?_eq_none (by omega), List.getElem?_eq_none (by
                    unfold prts
                    rw [lay_len]
                    simp
                    omega)]
              rw [hr2] at q1
              rw [show ((d.1.natAbs : Int) - qsum d.1.natAbs (sumI l) l) - ((0 : Nat) : Int) = (d.1.natAbs : Int) - qsum d.1.natAbs (sumI l) l by omega] at q1
              exact q1
          | succ m ih =>
            intro i s hm hi hs hs2 hsum hmem
            have hil : i < l.length := by omega
            refine .step (fun k => interchangeref1_Shares_c9_eq k _ _ _ _ _ _) (.ck (by omega) (.ck (by omega) (.ck (by omega) (.bind (ev_within _ _ _) ?_))))
            rw [Int.toNat_natCast]
            rw [drop_consI hil] at hsum hmem ⊢
            simp only [sumI] at hsum
            by_cases hw : okW (l.getD i 0)
            · have hw' := hw
              unfold okW at hw'
              refine .ff (by rw [decide_eq_true hw']; rfl) ?_
              rw [wi_s hil (by omega), wi64_id (by omega) (by omega)]
              refine .to (ih (i + 1) _ (by omega) (by omega) (by omega) (by omega) (by omega) (fun w hw2 => ?_)) ?_
              · rcases hmem w hw2 with q | q
                · rcases List.mem_cons.1 q with q | q
                  · exact .inr (q ▸ hw)
                  · exact .inl q
                · exact .inr q
              · have : (∀ w ∈ l.getD i 0 :: l.drop (i + 1), okW w) = (∀ w ∈ l.drop (i + 1), okW w) := by
                  simp only [List.forall_mem_cons, hw, true_and]
                by_cases hall : ∀ w ∈ l.drop (i + 1), okW w
                · have hc : ∀ w ∈ l.getD i 0 :: l.drop (i + 1), okW w := this.symm ▸ hall
                  rw [if_pos hall, if_pos hc]
                · have hc : ¬ ∀ w ∈ l.getD i 0 :: l.drop (i + 1), okW w := this.symm ▸ hall
                  rw [if_neg hall, if_neg hc]
            · have hw' := hw
              unfold okW at hw'
              have hno : ¬ ∀ w ∈ l.getD i 0 :: l.drop (i + 1), okW w := fun z => hw (z _ (by simp))
              rw [if_neg hno, if_neg (by decide)]
              exact .tt (by rw [decide_eq_false hw']; rfl) (.pure _)
        have := key _ 0 0 rfl (by omega) (by omega) (by omega) (by simp) (fun w hw => .inl (by simpa using hw))
        rw [List.drop_zero] at this
        exact this
  · rw [if_neg hd, if_neg hd]
    exact .tt (by simp) (.pure _)

theorem ev_Equal (l : List (Int × Int)) (hl : l.length < 1125899906842624) : Ev (fun k => slices_Equal k l l) true := by
  refine .step (fun k => slices_Equal_eq k _ _) (.ff (by simp) ?_)
  have key : ∀ (m i : Nat), l.length - i = m → i ≤ l.length → Ev (fun k => slices_Equal_c4 k l l (l.length : Int) (i : Int)) true := by
    intro m
    induction m with
    | zero =>
      intro i hm hi
      exact .step (fun k => slices_Equal_c4_eq k _ _ _ _) (.nk (by omega) (.pure _))
    | succ m ih =>
      intro i hm hi
      refine .step (fun k => slices_Equal_c4_eq k _ _ _ _) (.ck (by omega) (.ck (by omega) (.ck (by omega) (.ck (by omega) (.ck (by omega) (.ff (by simp) ?_))))))
      rw [wi_s (show i < l.length by omega) hl]
      exact ih (i + 1) (by omega) (by omega)
  exact key _ 0 rfl (by omega)

theorem ev_law10 (d : Int × Int) (l : List Int) : Ev (fun k => interchangelaw1_AmountSharesMatchSpec k d l) true := by
  refine .step (fun k => interchangelaw1_AmountSharesMatchSpec_eq k _ _) (.bind (ev_rShares d l) (.bind (ev_Shares d l) ?_))
  have hlen : (shaR d l).1.length < 1125899906842624 := by
    unfold shaR
    split
    · split
      · rename_i hw
        have := (wfR_ok hw).1
        simp only
        unfold prts
        rw [lay_len]
        simp
        omega
      · simp
    · simp
  refine .bind (x := true) (.tt (by simp) (ev_Equal _ hlen)) (.bind (x := true) (.tt (by simp) ev_awake) (.to (.pure _) (by simp)))
end Go.Proofs.Ytoiahmmockgcbaa.Eq
