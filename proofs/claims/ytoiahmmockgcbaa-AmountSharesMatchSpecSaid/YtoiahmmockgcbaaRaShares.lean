import Derived.Test.YtoiahmmockgcbaaRaSortD
import Derived.Test.YtoiahmmockgcbaaRaWholeB
import Derived.Test.YtoiahmmockgcbaaRaAmount
/- Shares: what the program's function computes. -/
namespace Go.Proofs.Ytoiahmmockgcbaa.Eq
open Go Go.Ra
set_option linter.unusedVariables false

def okW (w : Int) : Prop := 0 ≤ w ∧ w ≤ 1000000000
instance (w : Int) : Decidable (okW w) := by unfold okW; infer_instance
def sumI : List Int → Int
  | [] => 0
  | x :: l => x + sumI l
theorem sumI_nonneg : ∀ {l : List Int}, (∀ w ∈ l, okW w) → 0 ≤ sumI l ∧ sumI l ≤ 1000000000 * l.length
  | [], _ => by simp [sumI]
  | x :: l, h => by
    have h1 := h x (by simp)
    have h2 := sumI_nonneg (l := l) fun w hw => h w (by simp [hw])
    simp only [sumI, List.length_cons]
    unfold okW at h1
    omega
theorem sumI_le : ∀ {l : List Int}, (∀ w ∈ l, okW w) → ∀ w ∈ l, w ≤ sumI l
  | x :: l, h, w, hw => by
    have h2 := sumI_nonneg (l := l) fun w hw => h w (by simp [hw])
    have h1 := h x (by simp)
    unfold okW at h1
    simp only [sumI]
    rcases List.mem_cons.1 hw with rfl | hw
    · omega
    · have := sumI_le (l := l) (fun w hw => h w (by simp [hw])) w hw
      omega
theorem wi_s {i n : Nat} (h : i < n) (hn : n < 1125899906842624) : wi64 ((i : Int) + 1) = ((i + 1 : Nat) : Int) := by
  rw [wi64_id (by omega) (by omega)]; rfl

/-- What is told of weights. -/
def wfR (l : List Int) : Int := if l.length = 0 then 9 else if l.length > 1000 then 2 else if ∀ w ∈ l, okW w then (if sumI l = 0 then 13 else 0) else 1

theorem ev_weightsFault (l : List Int) : Ev (fun k => amount_weightsFault k l) (wfR l) := by
  refine .step (fun k => amount_weightsFault_eq k _) ?_
  unfold wfR
  by_cases h0 : l.length = 0
  · rw [if_pos h0]
    exact .tt (by simp [h0]) (.pure _)
  · rw [if_neg h0]
    refine .ff (by simp; intro z; exact h0 (by simp [z])) ?_
    by_cases h1 : l.length > 1000
    · rw [if_pos h1]
      exact .ck (by omega) (.pure _)
    · rw [if_neg h1]
      refine .nk (by omega) ?_
      have key : ∀ (m i : Nat) (s : Int), l.length - i = m → i ≤ l.length → 0 ≤ s → s ≤ 1000000000 * i → Ev (fun k => amount_weightsFault_c7 k s l (l.length : Int) (i : Int)) (if ∀ w ∈ l.drop i, okW w then (if s + sumI (l.drop i) = 0 then 13 else 0) else 1) := by
        intro m
        induction m with
        | zero =>
          intro i s hm hi hs hs2
          refine .step (fun k => amount_weightsFault_c7_eq k _ _ _ _) (.nk (by omega) ?_)
          rw [List.drop_of_length_le (by omega)]
          simp only [sumI, List.not_mem_nil, false_implies, implies_true, if_true, Int.add_zero]
          by_cases hz : s = 0
          · rw [if_pos hz]; exact .tt (by simp [hz]) (.pure _)
          · rw [if_neg hz]; exact .ff (by simp [hz]) (.pure _)
        | succ m ih =>
          intro i s hm hi hs hs2
          have hil : i < l.length := by omega
          refine .step (fun k => amount_weightsFault_c7_eq k _ _ _ _) (.ck (by omega) (.ck (by omega) (.ck (by omega) (.bind (ev_Outside _ _ _) ?_))))
          rw [Int.toNat_natCast, drop_consI hil]
          by_cases hw : okW (l.getD i 0)
          · have hw' := hw
            unfold okW at hw'
            refine .nk (by omega) ?_
            rw [wi_s hil (by omega), wi64_id (by omega) (by omega)]
            refine .to (ih (i + 1) _ (by omega) (by omega) (by omega) (by omega)) ?_
            simp only [List.forall_mem_cons, hw, true_and, sumI, Int.add_assoc]
            exact ite_congr rfl (fun _ => rfl) (fun _ => rfl)
          · have hw' := hw
            unfold okW at hw'
            refine .ck (by omega) (.to (.pure _) ?_)
            simp only [List.forall_mem_cons, hw, false_and, if_false]
      have := key _ 0 0 rfl (by omega) (by omega) (by omega)
      simpa using this

theorem ev_Shares_c9 (l : List Int) (d : Int × Int) (hl : l.length ≤ 1000) (hok : ∀ w ∈ l, okW w) {y : List (Int × Int) × Int}
    (hy : Ev (fun k => amount_Shares_c17 k d (sumI l) (maxI d.1 (wi64 (0 - d.1))) (maxI d.1 (wi64 (0 - d.1))) [] l (l.length : Int) 0) y) :
    Ev (fun k => amount_Shares_c9 k l d 0 l (l.length : Int) 0) y := by
  have key : ∀ (m i : Nat) (s : Int), l.length - i = m → i ≤ l.length → 0 ≤ s → s ≤ 1000000000 * i → s + sumI (l.drop i) = sumI l → Ev (fun k => amount_Shares_c9 k l d s l (l.length : Int) (i : Int)) y := by
    intro m
    induction m with
    | zero =>
      intro i s hm hi hs hs2 hsum
      rw [List.drop_of_length_le (by omega)] at hsum
      simp only [sumI, Int.add_zero] at hsum
      refine .step (fun k => amount_Shares_c9_eq k _ _ _ _ _ _) (.nk (by omega) ?_)
      rw [hsum]
      exact hy
    | succ m ih =>
      intro i s hm hi hs hs2 hsum
      have hil : i < l.length := by omega
      have hw := hok (l.getD i 0) (by
        rw [List.getD_eq_getElem?_getD, List.getElem?_eq_getElem hil]
        exact List.getElem_mem hil)
      unfold okW at hw
      rw [drop_consI hil] at hsum
      simp only [sumI] at hsum
      refine .step (fun k => amount_Shares_c9_eq k _ _ _ _ _ _) (.ck (by omega) (.ck (by omega) (.ck (by omega) ?_)))
      rw [Int.toNat_natCast, wi_s hil (by omega), wi64_id (by omega) (by omega)]
      exact ih (i + 1) _ (by omega) (by omega) (by omega) (by omega) (by omega)
  exact key _ 0 0 rfl (by omega) (by omega) (by omega) (by simp)

/-- A weight's part, and what is left of it. -/
def qt (u : Nat) (s w : Int) : Nat := ((u : Int) * w).natAbs / s.natAbs
def rt (u : Nat) (s w : Int) : Nat := ((u : Int) * w).natAbs % s.natAbs
def shs (u : Nat) (s : Int) : List Int → Nat → List Sh
  | [], _ => []
  | w :: l, i => ((i : Int), (((qt u s w : Nat) : Int), W ((rt u s w : Nat) : Int))) :: shs u s l (i + 1)
def qsum (u : Nat) (s : Int) : List Int → Int
  | [] => 0
  | w :: l => (qt u s w : Int) + qsum u s l

theorem qt_le {u : Nat} {s w : Int} (h1 : 0 ≤ w) (h2 : w ≤ s) (h0 : 0 < s) : qt u s w ≤ u := by
  unfold qt
  rw [Int.natAbs_mul]
  refine Nat.div_le_of_le_mul ?_
  rw [Nat.mul_comm s.natAbs]
  exact Nat.mul_le_mul (by simp) (by omega)
theorem qt_rt {u : Nat} {s w : Int} (h1 : 0 ≤ w) (h0 : 0 < s) : s * (qt u s w : Int) + (rt u s w : Int) = (u : Int) * w := by
  have h := Nat.div_add_mod ((u : Int) * w).natAbs s.natAbs
  have h3 : (((u : Int) * w).natAbs : Int) = (u : Int) * w := Int.natAbs_of_nonneg (Int.mul_nonneg (by omega) h1)
  have h4 : ((s.natAbs : Nat) : Int) = s := Int.natAbs_of_nonneg (by omega)
  unfold qt rt
  generalize ((u : Int) * w).natAbs = X at *
  have h5 : ((s.natAbs * (X / s.natAbs) + X % s.natAbs : Nat) : Int) = X := by rw [h]
  rw [Int.natCast_add, Int.natCast_mul, h4] at h5
  rw [← h3]
  exact h5
theorem rt_lt {u : Nat} {s w : Int} (h0 : 0 < s) : (rt u s w : Int) < s := by
  unfold rt
  have := Nat.mod_lt ((u : Int) * w).natAbs (show 0 < s.natAbs by omega)
  omega

theorem Sm.small {x : Int} (h : x.natAbs ≤ 10 ^ 60) : Sm x := .of h

/-- The parts are listed. -/
theorem ev_Shares_c17 (l : List Int) (d : Int × Int) (u : Nat) (s : Int) (hl : l.length ≤ 1000) (hok : ∀ w ∈ l, 0 ≤ w ∧ w ≤ s) (hs0 : 0 < s) (hs : s ≤ 1000000000000) (hu : u ≤ 1000000000000000) {y : List (Int × Int) × Int}
    (hy : Ev (fun k => (slices_SortStableFunc_1 k (shs u s l 0) ()).bind fun y8 =>
      cond (decide (0 ≤ (y8.length : Int))) (cond (decide ((y8.length : Int).toNat ≤ 8796093022208)) (amount_Shares_c27 k d ((u : Int) - qsum u s l) (List.replicate (y8.length : Int).toNat (0, 0)) y8 (y8.length : Int) 0) none) none) y) :
    Ev (fun k => amount_Shares_c17 k d s (u : Int) (u : Int) [] l (l.length : Int) 0) y := by
  have key : ∀ (m i : Nat) (left : Int) (acc : List Sh), l.length - i = m → i ≤ l.length → acc.length = i → acc ++ shs u s (l.drop i) i = shs u s l 0 → left - qsum u s (l.drop i) = (u : Int) - qsum u s l → left ≤ u → (u : Int) - left ≤ (i : Int) * 1000000000000000 →
      Ev (fun k => amount_Shares_c17 k d s (u : Int) left acc l (l.length : Int) (i : Int)) y := by
    intro m
    induction m with
    | zero =>
      intro i left acc hm hi hacc hlist hleft hlu hll
      rw [List.drop_of_length_le (by omega)] at hlist hleft
      simp only [shs, List.append_nil, qsum, Int.sub_zero] at hlist hleft
      refine .step (fun k => amount_Shares_c17_eq k _ _ _ _ _ _ _ _) (.nk (by omega) ?_)
      rw [hlist, hleft]
      exact hy
    | succ m ih =>
      intro i left acc hm hi hacc hlist hleft hlu hll
      have hil : i < l.length := by omega
      have hw := hok (l.getD i 0) (by
        rw [List.getD_eq_getElem?_getD, List.getElem?_eq_getElem hil]
        exact List.getElem_mem hil)
      rw [drop_consI hil] at hlist hleft
      simp only [shs, qsum] at hlist hleft
      generalize hwd : l.getD i 0 = w at *
      have hprod : ((u : Int) * w).natAbs ≤ 10 ^ 60 := by
        rw [Int.natAbs_mul]
        have : (u : Int).natAbs * w.natAbs ≤ 10 ^ 15 * 10 ^ 12 := Nat.mul_le_mul (by simp; omega) (by omega)
        exact Nat.le_trans this (by decide)
      have hq := qt_le (u := u) hw.1 hw.2 hs0
      refine .step (fun k => amount_Shares_c17_eq k _ _ _ _ _ _ _ _) (.ck (by omega) (.ck (by omega) (.ck (by omega) (.bind (ev_Of _ (by omega) (by omega)) ?_))))
      rw [Int.toNat_natCast, hwd]
      refine .bind (ev_Of _ (by omega) (by omega)) (.bind (ev_Times _ _ (.small (by simp; omega)) (.small (by omega))) (.bind (ev_Of _ (by omega) (by omega)) (.bind (ev_By _ _ (.small hprod) (.small (by omega)) (by omega)) (.bind (ev_Int _ _ (by omega) (by omega)) ?_))))
      rw [if_pos (by
        show ((((qt u s w : Nat) : Int).natAbs : Nat) : Int) ≤ _
        omega)]
      refine .ck (by omega) ?_
      rw [wi_s hil (by omega), wi64_id (by
        show _ ≤ left - ((qt u s w : Nat) : Int)
        omega) (by
        show left - ((qt u s w : Nat) : Int) < _
        omega)]
      refine ih (i + 1) (left - ((qt u s w : Nat) : Int)) _ (by omega) (by omega) (by simp [hacc]) ?_ (by omega) (by omega) (by
        push_cast
        omega)
      rw [List.append_assoc, ← hlist]
      rfl
  exact key _ 0 u [] rfl (by omega) rfl (by simp) (by simp) (by omega) (by omega)

def val (x : Sh) : Int := Vb 4294967296 x.2.2.2
def leS (x y : Sh) : Bool := decide (val y ≤ val x)
def DmS (x : Sh) : Prop := ∃ n : Nat, n ≤ 10 ^ 30 ∧ x.2.2 = W (n : Int)
theorem leS_tp : TP leS := ⟨fun x y z h1 h2 => by
  simp only [leS, decide_eq_true_eq] at *
  omega, fun x y => by
  simp only [leS, decide_eq_true_eq]
  omega⟩
theorem val_W {x : Sh} {n : Nat} (h : x.2.2 = W (n : Int)) : val x = n := by
  unfold val
  rw [h]
  show Vb 4294967296 (digs 4294967296 ((n : Int)).natAbs) = _
  rw [Int.natAbs_natCast, dV]
theorem leS_cmp : CmpOk leS DmS := by
  rintro x y ⟨n, hn, hx⟩ ⟨m, hm, hy⟩
  refine ⟨((m : Int) - n).sign, .step (fun k => amount_Shares_1_eq k _ _) ?_, ?_⟩
  · rw [hx, hy]
    refine .ret (ev_Compare _ _ (.small ?_) (.small ?_)) rfl
    · have : (10 : Nat) ^ 30 ≤ 10 ^ 60 := by decide
      simp
      omega
    · have : (10 : Nat) ^ 30 ≤ 10 ^ 60 := by decide
      simp
      omega
  · unfold leS
    rw [val_W hx, val_W hy]
    by_cases h : (n : Int) ≤ m
    · have h1 : ¬ ((m : Int) - n).sign < 0 := by
        intro z
        have := Int.sign_neg_iff.1 z
        omega
      simp [h, h1]
    · have h1 : ((m : Int) - n).sign < 0 := Int.sign_neg_iff.2 (by omega)
      simp [h, h1]

theorem shs_dm {u : Nat} {s : Int} (hs0 : 0 < s) (hs : s ≤ 1000000000000) : ∀ (l : List Int) (i : Nat), ∀ x ∈ shs u s l i, DmS x
  | w :: l, i, x, hx => by
    simp only [shs, List.mem_cons] at hx
    rcases hx with rfl | hx
    · refine ⟨rt u s w, ?_, rfl⟩
      have := rt_lt (u := u) (s := s) (w := w) hs0
      have h2 : (10 : Nat) ^ 12 ≤ 10 ^ 30 := by decide
      omega
    · exact shs_dm hs0 hs l (i + 1) x hx
theorem shs_len {u : Nat} {s : Int} : ∀ (l : List Int) (i : Nat), (shs u s l i).length = l.length
  | [], _ => rfl
  | w :: l, i => by simp [shs, shs_len l (i + 1)]

/-- A part is laid where it belongs. -/
def prt (neg : Bool) (left : Int) (k : Nat) (x : Sh) : Int := let v := if (k : Int) < left then x.2.1 + 1 else x.2.1; if neg then -v else v
def lay (neg : Bool) (places left : Int) : List Sh → Nat → List (Int × Int) → List (Int × Int)
  | [], _, out => out
  | x :: m, k, out => lay neg places left m (k + 1) (out.set x.1.toNat (prt neg left k x, places))

theorem ev_Shares_c27 (d : Int × Int) (left : Int) (m : List Sh) (hm : m.length ≤ 1000) (hin : ∀ x ∈ m, 0 ≤ x.1 ∧ x.1 < m.length ∧ 0 ≤ x.2.1 ∧ x.2.1 ≤ 1000000000000000) : ∀ (n k0 : Nat) (out : List (Int × Int)), m.length - k0 = n → k0 ≤ m.length → out.length = m.length →
    Ev (fun k => amount_Shares_c27 k d left out m (m.length : Int) (k0 : Int)) (lay (decide (d.1 < 0)) d.2 left (m.drop k0) k0 out, 0) := by
  intro n
  induction n with
  | zero =>
    intro k0 out hn hk ho
    refine .step (fun k => amount_Shares_c27_eq k _ _ _ _ _ _) (.nk (by omega) (.to (.pure _) ?_))
    rw [List.drop_of_length_le (by omega)]
    rfl
  | succ n ih =>
    intro k0 out hn hk ho
    have hk0 : k0 < m.length := by omega
    have hdrop : m.drop k0 = m.getD k0 sh0 :: m.drop (k0 + 1) := by
      rw [List.drop_eq_getElem_cons hk0, List.getD_eq_getElem?_getD, List.getElem?_eq_getElem hk0]
      rfl
    have hx := hin (m.getD k0 sh0) (by
      rw [List.getD_eq_getElem?_getD, List.getElem?_eq_getElem hk0]
      exact List.getElem_mem hk0)
    rw [hdrop]
    refine .step (fun k => amount_Shares_c27_eq k _ _ _ _ _ _) (.ck (by omega) (.ck (by omega) (.ck (by omega) ?_)))
    rw [Int.toNat_natCast]
    show Ev _ (lay _ _ _ (m.drop (k0 + 1)) (k0 + 1) _, 0)
    have hrec := fun v => ih (k0 + 1) (out.set (m.getD k0 sh0).1.toNat v) (by omega) (by omega) (by simpa using ho)
    refine .dec (fun h1 => ?_) (fun h1 => ?_)
    · refine .dec (fun h2 => ?_) (fun h2 => ?_)
      · refine .ck hx.1 (.ck (by rw [ho]; exact hx.2.1) ?_)
        rw [wi_s hk0 (by omega)]
        refine .to (hrec _) ?_
        rw [wi64_id (by
          show _ ≤ 0 - wi64 ((m.getD k0 sh0).2.1 + 1)
          rw [wi64_id (by omega) (by omega)]; omega) (by
          show 0 - wi64 ((m.getD k0 sh0).2.1 + 1) < _
          rw [wi64_id (by omega) (by omega)]; omega)]
        have e : wi64 ((m.getD k0 sh0).2.1 + 1) = (m.getD k0 sh0).2.1 + 1 := wi64_id (by omega) (by omega)
        have e2 : (0 - wi64 ((m.getD k0 sh0).2.1 + 1), d.2) = (prt (decide (d.1 < 0)) left k0 (m.getD k0 sh0), d.2) := by
          rw [e]
          simp only [prt, h1, h2, if_true, decide_true]
          congr 1
          omega
        exact congrArg (fun z => (lay (decide (d.1 < 0)) d.2 left (m.drop (k0 + 1)) (k0 + 1) (out.set (m.getD k0 sh0).1.toNat z), (0 : Int))) e2
      · refine .ck hx.1 (.ck (by rw [ho]; exact hx.2.1) ?_)
        rw [wi_s hk0 (by omega)]
        refine .to (hrec _) ?_
        have e : wi64 ((m.getD k0 sh0).2.1 + 1) = (m.getD k0 sh0).2.1 + 1 := wi64_id (by omega) (by omega)
        have e2 : (wi64 ((m.getD k0 sh0).2.1 + 1), d.2) = (prt (decide (d.1 < 0)) left k0 (m.getD k0 sh0), d.2) := by
          rw [e]
          simp only [prt, h1, h2, if_true, decide_false, Bool.false_eq_true, if_false]
        exact congrArg (fun z => (lay (decide (d.1 < 0)) d.2 left (m.drop (k0 + 1)) (k0 + 1) (out.set (m.getD k0 sh0).1.toNat z), (0 : Int))) e2
    · refine .dec (fun h2 => ?_) (fun h2 => ?_)
      · refine .ck hx.1 (.ck (by rw [ho]; exact hx.2.1) ?_)
        rw [wi_s hk0 (by omega)]
        refine .to (hrec _) ?_
        have e : wi64 (0 - (m.getD k0 sh0).2.1) = 0 - (m.getD k0 sh0).2.1 := wi64_id (by omega) (by omega)
        have e2 : (wi64 (0 - (m.getD k0 sh0).2.1), d.2) = (prt (decide (d.1 < 0)) left k0 (m.getD k0 sh0), d.2) := by
          rw [e]
          simp only [prt, h1, h2, if_true, decide_true, if_false]
          congr 1
          omega
        exact congrArg (fun z => (lay (decide (d.1 < 0)) d.2 left (m.drop (k0 + 1)) (k0 + 1) (out.set (m.getD k0 sh0).1.toNat z), (0 : Int))) e2
      · refine .ck hx.1 (.ck (by rw [ho]; exact hx.2.1) ?_)
        rw [wi_s hk0 (by omega)]
        refine .to (hrec _) ?_
        have e2 : ((m.getD k0 sh0).2.1, d.2) = (prt (decide (d.1 < 0)) left k0 (m.getD k0 sh0), d.2) := by
          simp only [prt, h1, h2, decide_false, Bool.false_eq_true, if_false]
        exact congrArg (fun z => (lay (decide (d.1 < 0)) d.2 left (m.drop (k0 + 1)) (k0 + 1) (out.set (m.getD k0 sh0).1.toNat z), (0 : Int))) e2

/-- The parts of d by the weights. -/
def prts (d : Int × Int) (l : List Int) : List (Int × Int) :=
  lay (decide (d.1 < 0)) d.2 ((d.1.natAbs : Int) - qsum d.1.natAbs (sumI l) l) (isort leS (shs d.1.natAbs (sumI l) l 0)) 0 (List.replicate l.length (0, 0))
def shaR (d : Int × Int) (l : List Int) : List (Int × Int) × Int := if okD d then (if wfR l = 0 then (prts d l, 0) else ([], wfR l)) else ([], 1)

theorem shs_in {u : Nat} {s : Int} (hs0 : 0 < s) (hu : u ≤ 1000000000000000) : ∀ (l : List Int) (i : Nat), (∀ w ∈ l, 0 ≤ w ∧ w ≤ s) → ∀ x ∈ shs u s l i, (i : Int) ≤ x.1 ∧ x.1 < i + l.length ∧ 0 ≤ x.2.1 ∧ x.2.1 ≤ 1000000000000000
  | w :: l, i, hok, x, hx => by
    simp only [shs, List.mem_cons] at hx
    rcases hx with rfl | hx
    · have := hok w (by simp)
      have := qt_le (u := u) this.1 this.2 hs0
      simp
      omega
    · have := shs_in hs0 hu l (i + 1) (fun w hw => hok w (by simp [hw])) x hx
      simp only [List.length_cons]
      push_cast at this ⊢
      omega

theorem wfR_ok {l : List Int} (h : wfR l = 0) : l.length ≤ 1000 ∧ (∀ w ∈ l, okW w) ∧ 0 < sumI l := by
  unfold wfR at h
  split at h
  · simp at h
  · split at h
    · simp at h
    · split at h
      · rename_i h3
        split at h
        · simp at h
        · have := sumI_nonneg h3
          exact ⟨by omega, h3, by omega⟩
      · simp at h

theorem ev_Shares (d : Int × Int) (l : List Int) : Ev (fun k => amount_Shares k d l) (shaR d l) := by
  refine .step (fun k => amount_Shares_eq k _ _) (.bind (ev_CheckDecimal d) ?_)
  unfold shaR
  by_cases hd : okD d
  · rw [if_pos hd, if_pos hd]
    refine .ff (by simp) (.bind (ev_weightsFault l) ?_)
    by_cases hw : wfR l = 0
    · obtain ⟨h1, h2, h3⟩ := wfR_ok hw
      rw [if_pos hw]
      refine .ff (by simp [hw]) (ev_Shares_c9 l d h1 h2 ?_)
      have hsum := (sumI_nonneg h2).2
      have hd' := hd
      unfold okD at hd'
      have hu : maxI d.1 (wi64 (0 - d.1)) = (d.1.natAbs : Int) := by
        rw [wi64_id (by omega) (by omega)]
        unfold maxI
        split <;> omega
      rw [hu]
      have hok : ∀ w ∈ l, 0 ≤ w ∧ w ≤ sumI l := fun w hw => ⟨(h2 w hw).1, sumI_le h2 w hw⟩
      have hlen : (isort leS (shs d.1.natAbs (sumI l) l 0)).length = l.length := by
        rw [(isort_perm leS_tp _).length_eq, shs_len]
      refine ev_Shares_c17 l d d.1.natAbs (sumI l) h1 hok h3 (by omega) (by omega) (.bind (ev_sort leS_tp leS_cmp _ (by rw [shs_len]; omega) (shs_dm h3 (by omega) l 0)) ?_)
      refine .ck (by omega) (.ck (by rw [hlen]; omega) ?_)
      have := ev_Shares_c27 d ((d.1.natAbs : Int) - qsum d.1.natAbs (sumI l) l) (isort leS (shs d.1.natAbs (sumI l) l 0)) (by omega) (fun x hx => by
        have := shs_in h3 (by omega) l 0 hok x ((isort_perm leS_tp _).mem_iff.1 hx)
        rw [hlen]
        omega) _ 0 (List.replicate l.length (0, 0)) rfl (by omega) (by simp [hlen])
      rw [List.drop_zero] at this
      rw [Int.toNat_natCast]
      rw [hlen] at this ⊢
      exact this
    · rw [if_neg hw]
      exact .tt (by simpa using hw) (.pure _)
  · rw [if_neg hd, if_neg hd]
    exact .tt (by simp) (.pure _)
end Go.Proofs.Ytoiahmmockgcbaa.Eq
