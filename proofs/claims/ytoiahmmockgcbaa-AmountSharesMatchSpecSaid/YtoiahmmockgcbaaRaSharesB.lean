import Derived.Test.YtoiahmmockgcbaaRaShares
import Derived.Test.YtoiahmmockgcbaaRaRounds
import Derived.Test.YtoiahmmockgcbaaRaAwake
/- Shares add up. -/
namespace Go.Proofs.Ytoiahmmockgcbaa.Eq
open Go Go.Ra
set_option linter.unusedVariables false

theorem lay_len (neg : Bool) (pl left : Int) : ∀ (m : List Sh) (k : Nat) (out : List (Int × Int)), (lay neg pl left m k out).length = out.length
  | [], _, _ => rfl
  | x :: m, k, out => by simp [lay, lay_len neg pl left m]
theorem lay_ne (neg : Bool) (pl left : Int) (j : Nat) : ∀ (m : List Sh) (k : Nat) (out : List (Int × Int)), (∀ x ∈ m, x.1.toNat ≠ j) → (lay neg pl left m k out)[j]? = out[j]?
  | [], _, _, _ => rfl
  | x :: m, k, out, h => by
    simp only [lay]
    rw [lay_ne neg pl left j m _ _ fun y hy => h y (by simp [hy]), List.getElem?_set_ne (h x (by simp))]
theorem lay_at (neg : Bool) (pl left : Int) : ∀ (m : List Sh) (k p : Nat) (x : Sh) (out : List (Int × Int)), m.Pairwise (fun x y => x.1.toNat ≠ y.1.toNat) → m[p]? = some x → x.1.toNat < out.length →
    (lay neg pl left m k out)[x.1.toNat]? = some (prt neg left (k + p) x, pl)
  | y :: m, k, 0, x, out, hp, hx, hl => by
    simp at hx
    subst hx
    simp only [lay]
    rw [lay_ne neg pl left _ m _ _ fun z hz => fun h => (List.pairwise_cons.1 hp).1 z hz h.symm, List.getElem?_set_self hl]
    rfl
  | y :: m, k, p + 1, x, out, hp, hx, hl => by
    simp only [lay]
    rw [lay_at neg pl left m (k + 1) p x _ (List.pairwise_cons.1 hp).2 (by simpa using hx) (by simpa using hl)]
    rw [show k + 1 + p = k + (p + 1) by omega]

def sumU : List (Int × Int) → Int
  | [] => 0
  | x :: l => x.1 + sumU l
theorem sumU_set : ∀ (l : List (Int × Int)) (i : Nat) (v : Int × Int), i < l.length → sumU (l.set i v) = sumU l - (l.getD i (0, 0)).1 + v.1
  | x :: l, 0, v, _ => by simp [sumU]; omega
  | x :: l, i + 1, v, h => by
    have := sumU_set l i v (by simpa using h)
    simp only [List.set_cons_succ, sumU, List.getD_cons_succ]
    omega
def psum (neg : Bool) (left : Int) : List Sh → Nat → Int
  | [], _ => 0
  | x :: m, k => prt neg left k x + psum neg left m (k + 1)
theorem lay_sum (neg : Bool) (pl left : Int) : ∀ (m : List Sh) (k : Nat) (out : List (Int × Int)), m.Pairwise (fun x y => x.1.toNat ≠ y.1.toNat) → (∀ x ∈ m, x.1.toNat < out.length ∧ (out.getD x.1.toNat (0, 0)).1 = 0) →
    sumU (lay neg pl left m k out) = sumU out + psum neg left m k
  | [], _, _, _, _ => by simp [lay, psum]
  | x :: m, k, out, hp, h => by
    simp only [lay, psum]
    rw [lay_sum neg pl left m (k + 1) _ (List.pairwise_cons.1 hp).2 fun y hy => by
      have h1 := h y (by simp [hy])
      refine ⟨by simpa using h1.1, ?_⟩
      rw [List.getD_eq_getElem?_getD, List.getElem?_set_ne ((List.pairwise_cons.1 hp).1 y hy), ← List.getD_eq_getElem?_getD]
      exact h1.2]
    have h1 := h x (by simp)
    rw [sumU_set _ _ _ h1.1, h1.2]
    simp only [Int.sub_zero]
    omega

def usum : List Sh → Int
  | [] => 0
  | x :: m => x.2.1 + usum m
def vsum : List Sh → Int
  | [] => 0
  | x :: m => val x + vsum m
theorem usum_perm {l m : List Sh} (h : l.Perm m) : usum l = usum m := by
  induction h with
  | nil => rfl
  | cons x _ ih => simp only [usum, ih]
  | swap x y l => simp only [usum]; omega
  | trans _ _ i1 i2 => exact i1.trans i2
theorem vsum_perm {l m : List Sh} (h : l.Perm m) : vsum l = vsum m := by
  induction h with
  | nil => rfl
  | cons x _ ih => simp only [vsum, ih]
  | swap x y l => simp only [vsum]; omega
  | trans _ _ i1 i2 => exact i1.trans i2
/-- How many of the places from k on are ahead of left. -/
def ahead (left : Int) : Nat → Nat → Int
  | 0, _ => 0
  | n + 1, k => (if (k : Int) < left then 1 else 0) + ahead left n (k + 1)
theorem ahead_eq (left : Int) (n k : Nat) (h1 : (k : Int) ≤ left) (h2 : left ≤ k + n) : ahead left n k = left - k := by
  induction n generalizing k with
  | zero => simp [ahead]; omega
  | succ n ih =>
    by_cases h : (k : Int) < left
    · simp only [ahead, if_pos h]
      rw [ih (k + 1) (by omega) (by omega)]
      omega
    · have h0 : ∀ (n k : Nat), ¬ (k : Int) < left → ahead left n k = 0 := by
        intro n
        induction n with
        | zero => intro k _; rfl
        | succ n ih => intro k hk; simp only [ahead, if_neg hk]; rw [ih (k + 1) (by omega)]; rfl
      rw [h0 _ _ h]
      omega
theorem psum_eq (neg : Bool) (left : Int) : ∀ (m : List Sh) (k : Nat), psum neg left m k = if neg then -(usum m + ahead left m.length k) else usum m + ahead left m.length k
  | [], k => by cases neg <;> simp [psum, usum, ahead]
  | x :: m, k => by
    rw [psum, psum_eq neg left m (k + 1)]
    simp only [prt, usum, List.length_cons, ahead]
    cases neg <;> by_cases h : (k : Int) < left <;> simp [h] <;> omega

theorem shs_get (u : Nat) (s : Int) : ∀ (l : List Int) (i j : Nat), j < l.length → (shs u s l i)[j]? = some (((i + j : Nat) : Int), (((qt u s (l.getD j 0) : Nat) : Int), W ((rt u s (l.getD j 0) : Nat) : Int)))
  | w :: l, i, 0, _ => by simp [shs]
  | w :: l, i, j + 1, h => by
    simp only [shs, List.getElem?_cons_succ, List.getD_cons_succ]
    rw [shs_get u s l (i + 1) j (by simpa using h), show i + 1 + j = i + (j + 1) by omega]
theorem shs_nd (u : Nat) (s : Int) : ∀ (l : List Int) (i : Nat), (shs u s l i).Pairwise (fun x y => x.1.toNat ≠ y.1.toNat) ∧ ∀ x ∈ shs u s l i, i ≤ x.1.toNat
  | [], i => ⟨List.Pairwise.nil, by simp [shs]⟩
  | w :: l, i => by
    obtain ⟨h1, h2⟩ := shs_nd u s l (i + 1)
    refine ⟨List.pairwise_cons.2 ⟨fun y hy => ?_, h1⟩, fun x hx => ?_⟩
    · have := h2 y hy
      simp
      omega
    · simp only [shs, List.mem_cons] at hx
      rcases hx with rfl | hx
      · simp
      · have := h2 x hx
        omega
theorem usum_shs (u : Nat) (s : Int) : ∀ (l : List Int) (i : Nat), usum (shs u s l i) = qsum u s l
  | [], _ => rfl
  | w :: l, i => by simp only [shs, usum, qsum, usum_shs u s l]
theorem vsum_shs (u : Nat) (s : Int) (h0 : 0 < s) : ∀ (l : List Int) (i : Nat), (∀ w ∈ l, 0 ≤ w) → s * qsum u s l + vsum (shs u s l i) = (u : Int) * sumI l
  | [], _, _ => by simp [qsum, vsum, shs, sumI]
  | w :: l, i, h => by
    have ih := vsum_shs u s h0 l (i + 1) fun w hw => h w (by simp [hw])
    have h1 := qt_rt (u := u) (h w (by simp)) h0
    simp only [shs, vsum, qsum, sumI]
    rw [val_W (n := rt u s w) rfl, Int.mul_add, Int.mul_add, ← h1, ← ih]
    omega

theorem vsum_le (s : Int) : ∀ (m : List Sh), (∀ x ∈ m, val x < s) → vsum m ≤ (m.length : Int) * (s - 1)
  | [], _ => by simp [vsum]
  | x :: m, h => by
    have h1 := h x (by simp)
    have h2 := vsum_le s m fun y hy => h y (by simp [hy])
    simp only [vsum, List.length_cons]
    push_cast
    rw [Int.add_mul]
    omega
theorem vsum_zero : ∀ (m : List Sh), (∀ x ∈ m, val x = 0) → vsum m = 0
  | [], _ => rfl
  | x :: m, h => by
    simp only [vsum]
    rw [h x (by simp), vsum_zero m fun y hy => h y (by simp [hy])]
    rfl
theorem vsum_app : ∀ (l m : List Sh), vsum (l ++ m) = vsum l + vsum m
  | [], m => by simp [vsum]
  | x :: l, m => by
    simp only [List.cons_append, vsum, vsum_app l m]
    omega

/-- What is left over is spread among those with a rest. -/
theorem rest_pos {m : List Sh} {s left : Int} (hs : 0 < s) (hsr : Srt leS m) (hv : ∀ x ∈ m, 0 ≤ val x ∧ val x < s) (hsum : vsum m = left * s) {p : Nat} {x : Sh} (hx : m[p]? = some x) (hp : (p : Int) < left) : 0 < val x := by
  rcases Int.lt_or_le 0 (val x) with h | h
  · exact h
  exfalso
  have hpl : p < m.length := by
    rcases Nat.lt_or_ge p m.length with q | q
    · exact q
    · rw [List.getElem?_eq_none q] at hx; simp at hx
  have e : m = m.take p ++ m.drop p := (List.take_append_drop p m).symm
  have h1 : vsum (m.drop p) = 0 := by
    refine vsum_zero _ fun y hy => ?_
    obtain ⟨q, hq⟩ := List.mem_iff_getElem?.1 hy
    rw [List.getElem?_drop] at hq
    have hy0 := (hv y (List.mem_of_getElem? hq)).1
    by_cases hq0 : q = 0
    · subst hq0
      rw [Nat.add_zero, hx] at hq
      injection hq with hq
      rw [← hq] at hy0 ⊢
      omega
    · have := hsr.at (i := p) (j := p + q) (by omega) hx hq
      simp only [leS, decide_eq_true_eq] at this
      omega
  have h2 := vsum_le s (m.take p) fun y hy => (hv y (List.mem_of_mem_take hy)).2
  have h3 : vsum m = vsum (m.take p) := by
    conv => lhs; rw [e]
    rw [vsum_app, h1, Int.add_zero]
  rw [List.length_take, Nat.min_eq_left (by omega)] at h2
  rw [h3] at hsum
  rw [hsum] at h2
  -- left * s <= p * (s - 1)
  have h4 : (p : Int) * (s - 1) ≤ (left - 1) * (s - 1) := Int.mul_le_mul_of_nonneg_right (by omega) (by omega)
  have h5 : (left - 1) * (s - 1) = left * s - left - s + 1 := by
    rw [Int.sub_mul, Int.mul_sub]
    omega
  omega

/-- Each part, and their sum. -/
theorem prts_ok (d : Int × Int) (l : List Int) (hl : l.length ≤ 1000) (hok : ∀ w ∈ l, okW w) (h0 : 0 < sumI l) :
    (prts d l).length = l.length ∧ sumU (prts d l) = d.1 ∧
    ∀ i, i < l.length → ∃ e : Int, (e = 0 ∨ (e = 1 ∧ 0 < rt d.1.natAbs (sumI l) (l.getD i 0))) ∧ (prts d l).getD i (0, 0) = (if d.1 < 0 then -((qt d.1.natAbs (sumI l) (l.getD i 0) : Int) + e) else (qt d.1.natAbs (sumI l) (l.getD i 0) : Int) + e, d.2) := by
  generalize hu : d.1.natAbs = u
  generalize hs : sumI l = s at *
  have hpm := isort_perm leS_tp (shs u s l 0)
  have hlen : (isort leS (shs u s l 0)).length = l.length := by rw [hpm.length_eq, shs_len]
  have hnd : (isort leS (shs u s l 0)).Pairwise (fun x y => x.1.toNat ≠ y.1.toNat) := hpm.symm.pairwise (shs_nd u s l 0).1 fun {x y} h => h.symm
  have hvs : vsum (isort leS (shs u s l 0)) = ((u : Int) - qsum u s l) * s := by
    rw [vsum_perm hpm]
    have := vsum_shs u s h0 l 0 fun w hw => (hok w hw).1
    rw [hs] at this
    rw [Int.sub_mul, Int.mul_comm (qsum u s l)]
    omega
  have hvv : ∀ x ∈ isort leS (shs u s l 0), 0 ≤ val x ∧ val x < s := by
    intro x hx
    have hx' := hpm.mem_iff.1 hx
    obtain ⟨j, hj⟩ := List.mem_iff_getElem?.1 hx'
    have hjl : j < l.length := by
      rcases Nat.lt_or_ge j l.length with q | q
      · exact q
      · rw [List.getElem?_eq_none (by rw [shs_len]; exact q)] at hj; simp at hj
    rw [shs_get u s l 0 j hjl] at hj
    injection hj with hj
    rw [← hj, val_W (n := rt u s (l.getD j 0)) rfl]
    have := rt_lt (u := u) (s := s) (w := l.getD j 0) h0
    omega
  have hleft0 : 0 ≤ (u : Int) - qsum u s l := by
    have h1 : 0 ≤ vsum (isort leS (shs u s l 0)) := by
      have : ∀ m : List Sh, (∀ x ∈ m, 0 ≤ val x) → 0 ≤ vsum m := by
        intro m
        induction m with
        | nil => intro _; simp [vsum]
        | cons x m ih =>
          intro h
          have := h x (by simp)
          have := ih fun y hy => h y (by simp [hy])
          simp only [vsum]
          omega
      exact this _ fun x hx => (hvv x hx).1
    rw [hvs] at h1
    rcases Int.lt_or_le ((u : Int) - qsum u s l) 0 with q | q
    · have := Int.mul_neg_of_neg_of_pos q h0
      omega
    · exact q
  have hleft1 : (u : Int) - qsum u s l ≤ l.length := by
    have h1 := vsum_le s _ fun x hx => (hvv x hx).2
    rw [hvs, hlen] at h1
    rcases Int.lt_or_le (l.length : Int) ((u : Int) - qsum u s l) with q | q
    · have h2 : ((l.length : Int) + 1) * s ≤ ((u : Int) - qsum u s l) * s := Int.mul_le_mul_of_nonneg_right (by omega) (by omega)
      have h3 : (l.length : Int) * (s - 1) = l.length * s - l.length := by rw [Int.mul_sub]; omega
      have h4 : ((l.length : Int) + 1) * s = l.length * s + s := by rw [Int.add_mul]; omega
      omega
    · exact q
  have hpr : prts d l = lay (decide (d.1 < 0)) d.2 ((u : Int) - qsum u s l) (isort leS (shs u s l 0)) 0 (List.replicate l.length (0, 0)) := by
    unfold prts
    rw [hu, hs]
  have hrange : ∀ x ∈ isort leS (shs u s l 0), x.1.toNat < l.length := by
    intro x hx
    obtain ⟨j, hj⟩ := List.mem_iff_getElem?.1 (hpm.mem_iff.1 hx)
    have hjl : j < l.length := by
      rcases Nat.lt_or_ge j l.length with q | q
      · exact q
      · rw [List.getElem?_eq_none (by rw [shs_len]; exact q)] at hj; simp at hj
    rw [shs_get u s l 0 j hjl] at hj
    injection hj with hj
    rw [← hj]
    simp
    omega
  refine ⟨by rw [hpr, lay_len]; simp, ?_, fun i hi => ?_⟩
  · rw [hpr, lay_sum _ _ _ _ _ _ hnd fun x hx => ⟨by simpa using hrange x hx, by
      rw [List.getD_eq_getElem?_getD, List.getElem?_replicate]
      split <;> rfl⟩, psum_eq, hlen, ahead_eq _ _ _ (by simpa using hleft0) (by simpa using hleft1), usum_perm hpm, usum_shs]
    have hz : ∀ n : Nat, sumU (List.replicate n (0, 0)) = 0 := by
      intro n
      induction n with
      | zero => rfl
      | succ n ih => simp [List.replicate_succ, sumU, ih]
    rw [hz]
    by_cases hn : d.1 < 0
    · simp only [hn, decide_true, if_true]
      omega
    · simp only [hn, decide_false, Bool.false_eq_true, if_false]
      omega
  · have hx := shs_get u s l 0 i hi
    have hm := hpm.mem_iff.2 (List.mem_of_getElem? hx)
    obtain ⟨p, hp⟩ := List.mem_iff_getElem?.1 hm
    have hat := lay_at (decide (d.1 < 0)) d.2 ((u : Int) - qsum u s l) _ 0 p _ (List.replicate l.length (0, 0)) hnd hp (by simpa using hi)
    rw [← hpr] at hat
    have e1 : (((0 + i : Nat) : Int)).toNat = i := by simp
    simp only [e1] at hat
    rw [Nat.zero_add p] at hat
    by_cases hpl : (p : Int) < (u : Int) - qsum u s l
    · refine ⟨1, .inr ⟨rfl, ?_⟩, ?_⟩
      · have := rest_pos h0 (isort_srt leS_tp _) hvv hvs hp hpl
        rw [val_W (n := rt u s (l.getD i 0)) rfl] at this
        omega
      · rw [List.getD_eq_getElem?_getD, hat]
        simp only [prt, hpl, if_true, Option.getD_some]
        by_cases hn : d.1 < 0 <;> simp [hn]
    · refine ⟨0, .inl rfl, ?_⟩
      rw [List.getD_eq_getElem?_getD, hat]
      simp only [prt, hpl, if_false, Option.getD_some, Int.add_zero]
      by_cases hn : d.1 < 0 <;> simp [hn]

theorem ev_law9 (d : Int × Int) (l : List Int) : Ev (fun k => interchangelaw1_AmountSharesAddUp k d l) true := by
  refine .step (fun k => interchangelaw1_AmountSharesAddUp_eq k _ _) (.bind (ev_Shares d l) ?_)
  have bad : ∀ f : Int, f ≠ 0 → Ev (fun k => cond (f != 0) ((cond ((([] : List (Int × Int)).length : Int) == 0) (interchangelaw1_awake k) (some false)).bind fun y1 => some (cond ((([] : List (Int × Int)).length : Int) == 0) y1 false)) ((cond (!((([] : List (Int × Int)).length : Int) != (l.length : Int))) (interchangelaw1_awake k) (some false)).bind fun y2 =>
    cond (cond ((([] : List (Int × Int)).length : Int) != (l.length : Int)) true (!y2)) (some false) (interchangelaw1_AmountSharesAddUp_c8 k l d [] 0 0 l (l.length : Int) 0))) true := by
    intro f hf
    refine .tt (by simpa using hf) (.bind (x := true) (.tt rfl ev_awake) (.pure _))
  unfold shaR
  by_cases hd : okD d
  · rw [if_pos hd]
    by_cases hw : wfR l = 0
    · rw [if_pos hw]
      obtain ⟨h1, h2, h3⟩ := wfR_ok hw
      obtain ⟨p1, p2, p3⟩ := prts_ok d l h1 h2 h3
      have hd' := hd
      unfold okD at hd'
      have hS := (sumI_nonneg h2).2
      refine .ff rfl ?_
      refine .bind (x := true) (.tt (by simp [p1]) ev_awake) (.ff (by simp [p1]) ?_)
      -- each part once more
      have part : ∀ i, i < l.length → ∃ e : Int, (e = 0 ∨ (e = 1 ∧ 0 < rt d.1.natAbs (sumI l) (l.getD i 0))) ∧ ((prts d l).getD i (0, 0)).1 = (if d.1 < 0 then -((qt d.1.natAbs (sumI l) (l.getD i 0) : Int) + e) else (qt d.1.natAbs (sumI l) (l.getD i 0) : Int) + e) ∧ ((prts d l).getD i (0, 0)).2 = d.2 := by
        intro i hi
        obtain ⟨e, e1, e2⟩ := p3 i hi
        exact ⟨e, e1, by rw [e2], by rw [e2]⟩
      have hwi : ∀ i, i < l.length → okW (l.getD i 0) ∧ l.getD i 0 ≤ sumI l := by
        intro i hi
        have : l.getD i 0 ∈ l := by
          rw [List.getD_eq_getElem?_getD, List.getElem?_eq_getElem hi]
          exact List.getElem_mem hi
        exact ⟨h2 _ this, sumI_le h2 _ this⟩
      have hdropU : ∀ i, i < l.length → sumU ((prts d l).drop i) = ((prts d l).getD i (0, 0)).1 + sumU ((prts d l).drop (i + 1)) := by
        intro i hi
        rw [List.drop_eq_getElem_cons (by rw [p1]; exact hi), List.getD_eq_getElem?_getD, List.getElem?_eq_getElem (by rw [p1]; exact hi)]
        rfl
      -- the second loop
      have second : ∀ (m i : Nat), l.length - i = m → i ≤ l.length → Ev (fun k => interchangelaw1_AmountSharesAddUp_c15 k d (prts d l) d.1 (sumI l) l (l.length : Int) (i : Int)) true := by
        intro m
        induction m with
        | zero =>
          intro i hm hi
          refine .step (fun k => interchangelaw1_AmountSharesAddUp_c15_eq k _ _ _ _ _ _ _) (.nk (by omega) (.to (.pure _) (by simp)))
        | succ m ih =>
          intro i hm hi
          have hil : i < l.length := by omega
          obtain ⟨e, e1, e2, e3⟩ := part i hil
          obtain ⟨hw1, hw2⟩ := hwi i hil
          unfold okW at hw1
          have hq := qt_le (u := d.1.natAbs) (s := sumI l) hw1.1 hw2 h3
          have hqr := qt_rt (u := d.1.natAbs) (s := sumI l) hw1.1 h3
          have hr := rt_lt (u := d.1.natAbs) (s := sumI l) (w := l.getD i 0) h3
          refine .step (fun k => interchangelaw1_AmountSharesAddUp_c15_eq k _ _ _ _ _ _ _) (.ck (by omega) (.ck (by omega) (.ck (by omega) (.ck (by omega) (.ck (by rw [p1]; omega) ?_)))))
          rw [Int.toNat_natCast]
          generalize hU : ((prts d l).getD i (0, 0)).1 = U at *
          generalize hW : l.getD i 0 = w at *
          generalize hSS : sumI l = S at *
          have hUb : -1000000000000001 ≤ U ∧ U ≤ 1000000000000001 := by
            rw [e2]
            split <;> omega
          have hv : (U * S + -(d.1 * w)).natAbs < S.natAbs := by
            have key : U * S + -(d.1 * w) = (if d.1 < 0 then -(e * S - (rt d.1.natAbs S w : Int)) else e * S - (rt d.1.natAbs S w : Int)) := by
              rw [e2]
              by_cases hn : d.1 < 0
              · rw [if_pos hn, if_pos hn]
                have hdu : d.1 = -((d.1.natAbs : Nat) : Int) := by omega
                have h5 : d.1 * w = -((d.1.natAbs : Int) * w) := by
                  conv => lhs; rw [hdu]
                  rw [Int.neg_mul]
                rw [h5, ← hqr, Int.neg_mul, Int.add_mul, Int.mul_comm S]
                omega
              · rw [if_neg hn, if_neg hn]
                have hdu : d.1 = ((d.1.natAbs : Nat) : Int) := by omega
                have h5 : d.1 * w = (d.1.natAbs : Int) * w := by
                  conv => lhs; rw [hdu]
                rw [h5, ← hqr, Int.add_mul, Int.mul_comm S]
                omega
            rw [key]
            rcases e1 with rfl | ⟨rfl, hpos⟩
            · split <;> omega
            · split <;> omega
          have sr : ∀ x : Int, x.natAbs ≤ 10 ^ 60 → Sr x := fun x hx => by
            unfold Sr
            have : (10 : Nat) ^ 60 < 1000000 ^ 100 := by decide
            omega
          have b0 : (10 : Nat) ^ 20 ≤ 10 ^ 60 := by decide
          have b1 : (U * S).natAbs ≤ 10 ^ 60 := by
            rw [Int.natAbs_mul]
            exact Nat.le_trans (Nat.mul_le_mul (show U.natAbs ≤ 10 ^ 20 by omega) (show S.natAbs ≤ 10 ^ 20 by omega)) (by decide)
          have b2 : (d.1 * w).natAbs ≤ 10 ^ 60 := by
            rw [Int.natAbs_mul]
            exact Nat.le_trans (Nat.mul_le_mul (show d.1.natAbs ≤ 10 ^ 20 by omega) (show w.natAbs ≤ 10 ^ 20 by omega)) (by decide)
          refine .bind (ev_rOf _ (by omega) (by omega)) (.bind (ev_rOf _ (by omega) (by omega)) (.bind (ev_rTimes _ _ (sr _ (by omega)) (sr _ (by omega))) (.bind (ev_rOf _ (by omega) (by omega)) (.bind (ev_rOf _ (by omega) (by omega)) (.bind (ev_rTimes _ _ (sr _ (by omega)) (sr _ (by omega))) (.bind (ev_rMinus _) (.bind (ev_rPlus _ _ (sr _ b1) (sr _ (by rw [Int.natAbs_neg]; exact b2))) (.bind (ev_rOf _ (by omega) (by omega)) ?_))))))))
          have habs : ((false, (N (U * S + -(d.1 * w))).2) : Bool × List Int) = N (((U * S + -(d.1 * w)).natAbs : Nat) : Int) := by
            unfold N
            simp
          rw [habs]
          refine .bind (ev_rCmp _ _ (sr _ (by simp; omega)) (sr _ (by omega))) (.nk ?_ ?_)
          · have : ((((U * S + -(d.1 * w)).natAbs : Nat) : Int) - S).sign < 0 := Int.sign_neg_iff.2 (by omega)
            omega
          · rw [wi_s hil (by omega)]
            exact ih (i + 1) (by omega) (by omega)
      -- the first loop
      have first : ∀ (m i : Nat) (su al : Int), l.length - i = m → i ≤ l.length → su + sumU ((prts d l).drop i) = d.1 → al + sumI (l.drop i) = sumI l → -1000000000000001 * (i : Int) ≤ su → su ≤ 1000000000000001 * i → 0 ≤ al → al ≤ 1000000000 * i →
          Ev (fun k => interchangelaw1_AmountSharesAddUp_c8 k l d (prts d l) su al l (l.length : Int) (i : Int)) true := by
        intro m
        induction m with
        | zero =>
          intro i su al hm hi hsu hal _ _ _ _
          rw [List.drop_of_length_le (by rw [p1]; omega)] at hsu
          rw [List.drop_of_length_le (by omega)] at hal
          simp only [sumU, sumI, Int.add_zero] at hsu hal
          refine .step (fun k => interchangelaw1_AmountSharesAddUp_c8_eq k _ _ _ _ _ _ _ _) (.nk (by omega) ?_)
          rw [hsu, hal]
          exact second _ 0 rfl (by omega)
        | succ m ih =>
          intro i su al hm hi hsu hal b1 b2 b3 b4
          have hil : i < l.length := by omega
          obtain ⟨e, e1, e2, e3⟩ := part i hil
          obtain ⟨hw1, hw2⟩ := hwi i hil
          unfold okW at hw1
          have hq := qt_le (u := d.1.natAbs) (s := sumI l) hw1.1 hw2 h3
          rw [hdropU i hil] at hsu
          rw [drop_consI hil] at hal
          simp only [sumI] at hal
          have hz : l.getD i 0 = 0 → ((prts d l).getD i (0, 0)).1 = 0 := by
            intro hz
            rw [e2, hz]
            have q0 : qt d.1.natAbs (sumI l) 0 = 0 := by unfold qt; simp
            have r0 : rt d.1.natAbs (sumI l) 0 = 0 := by unfold rt; simp
            rw [hz, r0] at e1
            rw [q0]
            split <;> omega
          have hUb : -1000000000000001 ≤ ((prts d l).getD i (0, 0)).1 ∧ ((prts d l).getD i (0, 0)).1 ≤ 1000000000000001 := by
            rw [e2]
            split <;> omega
          refine .step (fun k => interchangelaw1_AmountSharesAddUp_c8_eq k _ _ _ _ _ _ _ _) (.ck (by omega) (.ck (by omega) (.ck (by omega) (.ck (by omega) (.ck (by rw [p1]; omega) ?_)))))
          have hi0 : (0 : Int) ≤ (i : Int) := by omega
          have hi1 : (i : Int) < ((prts d l).length : Int) := by rw [p1]; omega
          refine .tt (by simp [hi0]) (.tt (by simp [hi1]) ?_)
          rw [Int.toNat_natCast]
          refine .ff ?_ (.ck hi0 (.ck hi1 ?_))
          · rw [e3]
            by_cases hz0 : l.getD i 0 = 0
            · rw [hz hz0]
              simp
            · have hz1 : (l.getD i 0 == 0) = false := by simpa using hz0
              rw [hz1]
              simp
          · rw [wi_s hil (by omega), wi64_id (by omega) (by omega), wi64_id (by omega) (by omega)]
            refine ih (i + 1) _ _ (by omega) (by omega) (by omega) (by omega) ?_ ?_ (by omega) ?_
            · push_cast; omega
            · push_cast; omega
            · push_cast; omega
      exact first _ 0 0 0 rfl (by omega) (by simpa using p2) (by simp) (by omega) (by omega) (by omega) (by omega)
    · rw [if_neg hw]
      exact bad _ hw
  · rw [if_neg hd]
    exact bad 1 (by decide)
end Go.Proofs.Ytoiahmmockgcbaa.Eq
