/- What the functions of this law compute, part 1. -/
import Derived.Test.YtegiadfbniamkaaDoorRaEq
import Derived.Lib.Strings
import Derived.Lib.ItoaNum
import Derived.Lib.Repeat
namespace Go.Ra
open Go Go.Ra

theorem eqS_iff (a b : ByteArray) : eqS a b = true ↔ a = b := by
  unfold eqS
  rw [beq_iff_eq, Lib.toList_data, Lib.toList_data]
  constructor
  · intro h
    rw [← Lib.mk_data a, ← Lib.mk_data b, h]
  · intro h
    rw [h]
theorem eqS_self (a : ByteArray) : eqS a a = true := (eqS_iff a a).2 rfl
/-! ### strings and lists of bytes -/
abbrev L (s : ByteArray) : List UInt8 := s.data.toList
def B (l : List UInt8) : ByteArray := ⟨l.toArray⟩
theorem L_B (l : List UInt8) : L (B l) = l := rfl
theorem B_L (s : ByteArray) : B (L s) = s := Lib.mk_data s
theorem L_app (a b : ByteArray) : L (a ++ b) = L a ++ L b := by
  simp [L, ByteArray.data_append]
theorem B_app (a b : List UInt8) : B a ++ B b = B (a ++ b) := by rw [← B_L (B a ++ B b), L_app, L_B, L_B]
theorem size_L (s : ByteArray) : s.size = (L s).length := Lib.size_eq s
theorem size_B (l : List UInt8) : (B l).size = l.length := by rw [size_L, L_B]
end Go.Ra
namespace Go.Proofs.YtegiadfbniamkaaDoor.Eq
open Go Go.Ra
theorem awake_at (k : Nat) : interchangelaw1_awake (k + 40) = some true := by kernel_rfl
theorem ev_awake : Ev (fun k => interchangelaw1_awake k) true := .off (n := 40) awake_at
end Go.Proofs.YtegiadfbniamkaaDoor.Eq
namespace Go.Ra
open Go Go.Ra
/-- 1 in a year with a 29th of February. -/
def lp (y : Int) : Int := if y % 4 = 0 ∧ (y % 100 ≠ 0 ∨ y % 400 = 0) then 1 else 0
/-- The days of a month. -/
def dom (y : Int) (m : Nat) : Int := if m = 2 then 28 + lp y else if m = 4 ∨ m = 6 ∨ m = 9 ∨ m = 11 then 30 else 31
/-- The days before a year. -/
def bef (y : Int) : Int := 365 * (y - 1) + (y - 1) / 4 - (y - 1) / 100 + (y - 1) / 400
/-- The days of the first months. -/
def cum (y : Int) : Nat → Int
  | 0 => 0
  | j + 1 => cum y j + dom y (j + 1)
theorem lp_01 (y : Int) : lp y = 0 ∨ lp y = 1 := by unfold lp; split <;> simp
theorem bef_succ (y : Int) : bef (y + 1) = bef y + 365 + lp y := by
  unfold bef lp
  split <;> omega
theorem dom_pos (y : Int) (m : Nat) : 28 ≤ dom y m ∧ dom y m ≤ 31 := by
  have := lp_01 y
  unfold dom
  split
  · omega
  · split <;> omega
theorem cum_year (y : Int) : cum y 12 = 365 + lp y := by
  simp [cum, dom]
  omega
theorem cum_le {y : Int} {i j : Nat} (h : i ≤ j) : cum y i ≤ cum y j := by
  induction j with
  | zero =>
    have : i = 0 := by omega
    subst this
    exact Int.le_refl _
  | succ j ih =>
    by_cases e : i = j + 1
    · rw [e]; exact Int.le_refl _
    · have := ih (by omega)
      have := dom_pos y (j + 1)
      simp only [cum]
      omega
theorem cum_nonneg (y : Int) (j : Nat) : 0 ≤ cum y j := cum_le (y := y) (Nat.zero_le j)
/-- A date. -/
structure Dt where
  y : Int
  m : Nat
  d : Int
structure Dt.Ok (t : Dt) : Prop where
  y1 : 1 ≤ t.y
  y2 : t.y ≤ 9999
  m1 : 1 ≤ t.m
  m2 : t.m ≤ 12
  d1 : 1 ≤ t.d
  d2 : t.d ≤ dom t.y t.m
def Dt.n (t : Dt) : Int := bef t.y + cum t.y (t.m - 1) + t.d
theorem Dt.Ok.in_year {t : Dt} (h : t.Ok) : bef t.y < t.n ∧ t.n ≤ bef (t.y + 1) := by
  have h1 := cum_nonneg t.y (t.m - 1)
  have h2 : cum t.y (t.m - 1) + dom t.y t.m ≤ cum t.y 12 := by
    have e : cum t.y (t.m - 1) + dom t.y t.m = cum t.y (t.m - 1 + 1) := by
      simp only [cum]
      rw [Nat.sub_add_cancel h.m1]
    rw [e]
    exact cum_le (by have := h.m1; have := h.m2; omega)
  have := cum_year t.y
  have := bef_succ t.y
  have := h.d1
  have := h.d2
  unfold Dt.n
  omega
theorem bef_mono {a b : Int} (h : a ≤ b) : bef a ≤ bef b := by
  unfold bef
  omega
theorem Dt.Ok.bound {t : Dt} (h : t.Ok) : 1 ≤ t.n ∧ t.n ≤ 3652059 := by
  have := h.in_year
  have h1 := bef_mono (a := 1) (b := t.y) h.y1
  have h2 := bef_mono (a := t.y + 1) (b := 10000) (by have := h.y2; omega)
  have e1 : bef 1 = 0 := by decide
  have e2 : bef 10000 = 3652059 := by decide
  omega
theorem Dt.inj {t u : Dt} (h : t.Ok) (k : u.Ok) (e : t.n = u.n) : t = u := by
  have h1 := h.in_year
  have k1 := k.in_year
  have ey : t.y = u.y := by
    rcases Int.lt_trichotomy t.y u.y with z | z | z
    · have := bef_mono (a := t.y + 1) (b := u.y) (by omega)
      omega
    · exact z
    · have := bef_mono (a := u.y + 1) (b := t.y) (by omega)
      omega
  have hm : ∀ {a b : Dt}, a.Ok → b.Ok → a.y = b.y → a.n = b.n → ¬ a.m < b.m := by
    intro a b ha hb e1 e2 z
    have q : cum a.y (a.m - 1) + dom a.y a.m = cum a.y (a.m - 1 + 1) := by
      simp only [cum]
      rw [Nat.sub_add_cancel ha.m1]
    have q2 : cum a.y (a.m - 1 + 1) ≤ cum a.y (b.m - 1) := cum_le (by have := ha.m1; omega)
    have := ha.d2
    have := hb.d1
    unfold Dt.n at e2
    rw [← e1] at e2
    omega
  have em : t.m = u.m := by
    have a := hm h k ey e
    have b := hm k h ey.symm e.symm
    omega
  have ed : t.d = u.d := by
    unfold Dt.n at e
    rw [ey, em] at e
    omega
  cases t; cases u
  simp_all
/-- Each number is that of a date. -/
theorem Dt.ex {n : Int} (h1 : 1 ≤ n) (h2 : n ≤ 3652059) : ∃ t : Dt, t.Ok ∧ t.n = n := by
  have year : ∀ (m : Nat) (y : Int), 10000 - y = m → 1 ≤ y → y ≤ 10000 → bef y < n → ∃ z, 1 ≤ z ∧ z ≤ 9999 ∧ bef z < n ∧ n ≤ bef (z + 1) := by
    intro m
    induction m with
    | zero =>
      intro y hm h3 h4 h5
      have : y = 10000 := by omega
      subst this
      have : bef 10000 = 3652059 := by decide
      omega
    | succ m ih =>
      intro y hm h3 h4 h5
      by_cases h : n ≤ bef (y + 1)
      · exact ⟨y, h3, by omega, h5, h⟩
      · exact ih (y + 1) (by omega) (by omega) (by omega) (by omega)
  have hz : bef 1 = 0 := by decide
  obtain ⟨y, y1, y2, y3, y4⟩ := year 9999 1 (by decide) (by decide) (by decide) (by omega)
  have month : ∀ (k j : Nat), 12 - j = k → j ≤ 12 → cum y j < n - bef y → ∃ m, m < 12 ∧ cum y m < n - bef y ∧ n - bef y ≤ cum y (m + 1) := by
    intro k
    induction k with
    | zero =>
      intro j hk hj hc
      have : j = 12 := by omega
      subst this
      have := cum_year y
      have := bef_succ y
      omega
    | succ k ih =>
      intro j hk hj hc
      by_cases h : n - bef y ≤ cum y (j + 1)
      · exact ⟨j, by omega, hc, h⟩
      · exact ih (j + 1) (by omega) (by omega) (by omega)
  obtain ⟨m, m1, m2, m3⟩ := month 12 0 rfl (by decide) (by simp only [cum]; omega)
  simp only [cum] at m3
  refine ⟨⟨y, m + 1, n - bef y - cum y m⟩, ⟨y1, y2, by simp, by simp; omega, by simp; omega, by simp; omega⟩, ?_⟩
  simp only [Dt.n, Nat.add_sub_cancel]
  omega
end Go.Ra
namespace Go.Proofs.YtegiadfbniamkaaDoor.Eq
open Go Go.Ra
set_option linter.unusedVariables false

theorem befW {y : Int} (h1 : 1 ≤ y) (h2 : y ≤ 100000) : wi64 ((wi64 ((wi64 ((wi64 (365 * (wi64 (y - 1)))) + (wi64 ((wi64 (y - 1)).tdiv 4)))) - (wi64 ((wi64 (y - 1)).tdiv 100)))) + (wi64 ((wi64 (y - 1)).tdiv 400))) = bef y := by
  have e0 : wi64 (y - 1) = y - 1 := wi64_id (by omega) (by omega)
  have d1 : (y - 1).tdiv 4 = (y - 1) / 4 := Int.tdiv_eq_ediv_of_nonneg (by omega)
  have d2 : (y - 1).tdiv 100 = (y - 1) / 100 := Int.tdiv_eq_ediv_of_nonneg (by omega)
  have d3 : (y - 1).tdiv 400 = (y - 1) / 400 := Int.tdiv_eq_ediv_of_nonneg (by omega)
  rw [e0, d1, d2, d3]
  rw [wi64_id (x := 365 * (y - 1)) (by omega) (by omega), wi64_id (x := (y - 1) / 4) (by omega) (by omega), wi64_id (x := (y - 1) / 100) (by omega) (by omega), wi64_id (x := (y - 1) / 400) (by omega) (by omega)]
  rw [wi64_id (x := 365 * (y - 1) + (y - 1) / 4) (by omega) (by omega), wi64_id (x := 365 * (y - 1) + (y - 1) / 4 - (y - 1) / 100) (by omega) (by omega)]
  exact wi64_id (by omega) (by omega)
theorem ev_abefore {y : Int} (h1 : 1 ≤ y) (h2 : y ≤ 100000) : Ev (fun k => amount_before k y) (bef y) := .step (fun k => amount_before_eq k _) (.to (.pure _) (befW h1 h2))
theorem ev_rbefore {y : Int} (h1 : 1 ≤ y) (h2 : y ≤ 100000) : Ev (fun k => interchangeref1_before k y) (bef y) := .step (fun k => interchangeref1_before_eq k _) (.to (.pure _) (befW h1 h2))
theorem bef_small {y : Int} (h1 : 1 ≤ y) (h2 : y ≤ 100000) : 0 ≤ bef y ∧ bef y ≤ 36600000 := by
  unfold bef
  omega

theorem tmod4 {y : Int} (h : 0 ≤ y) (b : Int) : y.tmod b = y % b := Int.tmod_eq_emod_of_nonneg h
theorem ev_aLeap {y : Int} (h : 0 ≤ y) : Ev (fun k => amount_isLeap k y) (decide (lp y = 1)) := by
  refine .step (fun k => amount_isLeap_eq k _) (.tt (by simp) (.tt (by simp) (.to (.pure _) ?_)))
  simp only [tmod4 h]
  unfold lp
  by_cases a : y % 4 = 0 <;> by_cases b : y % 100 = 0 <;> by_cases c : y % 400 = 0 <;> simp [a, b, c]
theorem ev_rLong {y : Int} (h : 0 ≤ y) : Ev (fun k => interchangeref1_isLong k y) (decide (lp y = 1)) := by
  refine .step (fun k => interchangeref1_isLong_eq k _) (.tt (by simp) (.tt (by simp) (.to (.pure _) ?_)))
  simp only [tmod4 h]
  unfold lp
  by_cases a : y % 4 = 0 <;> by_cases b : y % 100 = 0 <;> by_cases c : y % 400 = 0 <;> simp [a, b, c] <;> omega
theorem dom_tab (y : Int) {m : Nat} (h1 : 1 ≤ m) (h2 : m ≤ 12) (h : ¬ (m = 2 ∧ lp y = 1)) : [31, 28, 31, 30, 31, 30, 31, 31, 30, 31, 30, (31 : Int)].getD (m - 1) 0 = dom y m := by
  have := lp_01 y
  obtain rfl | rfl | rfl | rfl | rfl | rfl | rfl | rfl | rfl | rfl | rfl | rfl : m = 1 ∨ m = 2 ∨ m = 3 ∨ m = 4 ∨ m = 5 ∨ m = 6 ∨ m = 7 ∨ m = 8 ∨ m = 9 ∨ m = 10 ∨ m = 11 ∨ m = 12 := by omega
  all_goals simp [dom]
  all_goals omega
theorem ev_adom {y : Int} (hy : 0 ≤ y) {m : Nat} (h1 : 1 ≤ m) (h2 : m ≤ 12) : Ev (fun k => amount_daysOf k y (m : Int)) (dom y m) := by
  refine .step (fun k => amount_daysOf_eq k _ _) ?_
  have hw : wi64 ((m : Int) - 1) = ((m - 1 : Nat) : Int) := by rw [wi64_id (by omega) (by omega)]; omega
  have rest : ¬ (m = 2 ∧ lp y = 1) → Ev (fun k => cond (decide (0 ≤ (wi64 ((m : Int) - 1)))) (cond (decide ((wi64 ((m : Int) - 1)) < 12)) (some ([31, 28, 31, 30, 31, 30, 31, 31, 30, 31, 30, (31 : Int)].getD (wi64 ((m : Int) - 1)).toNat 0)) none) none) (dom y m) := fun h => by
    rw [hw]
    refine .ck (by omega) (.ck (by omega) (.to (.pure _) ?_))
    rw [Int.toNat_natCast]
    exact dom_tab y h1 h2 h
  by_cases hm : m = 2
  · subst hm
    refine .bind (.tt rfl (ev_aLeap hy)) ?_
    by_cases hl : lp y = 1
    · refine .tt (by simp [hl]) (.to (.pure _) ?_)
      simp [dom, hl]
    · exact .ff (by simp [hl]) (rest fun z => hl z.2)
  · have hb : ((m : Int) == 2) = false := by simpa using (by omega : ¬ (m : Int) = 2)
    exact .bind (x := false) (.ff hb (.pure _)) (.ff (by simp) (rest fun z => hm z.1))
theorem ev_rdom {y : Int} (hy : 0 ≤ y) {m : Nat} (h1 : 1 ≤ m) (h2 : m ≤ 12) : Ev (fun k => interchangeref1_daysOf k y (m : Int)) (dom y m) := by
  refine .step (fun k => interchangeref1_daysOf_eq k _ _) ?_
  have := lp_01 y
  obtain rfl | rfl | rfl | rfl | rfl | rfl | rfl | rfl | rfl | rfl | rfl | rfl : m = 1 ∨ m = 2 ∨ m = 3 ∨ m = 4 ∨ m = 5 ∨ m = 6 ∨ m = 7 ∨ m = 8 ∨ m = 9 ∨ m = 10 ∨ m = 11 ∨ m = 12 := by omega
  case inr.inl =>
    refine .tt rfl (.bind (ev_rLong hy) ?_)
    by_cases hl : lp y = 1
    · refine .tt (by simp [hl]) (.to (.pure _) ?_)
      simp [dom, hl]
    · refine .ff (by simp [hl]) (.to (.pure _) ?_)
      have : lp y = 0 := by omega
      simp [dom, this]
  all_goals exact .to (.pure _) (by simp [dom])

/-! ### the number of a date -/
theorem ev_aday_c5 {y : Int} (hy : 0 ≤ y) : ∀ (n m : Nat) (M : Nat) (s : Int), M - m = n → 1 ≤ m → m ≤ M → M ≤ 12 → -100000000 ≤ s → s + cum y 12 ≤ 100000000 + cum y (m - 1) → Ev (fun k => amount_dayOf_c5 k y (M : Int) s (m : Int)) (s + cum y (M - 1) - cum y (m - 1), true) := by
  intro n
  induction n with
  | zero =>
    intro m M s hn h1 h2 h3 _ _
    have : m = M := by omega
    subst this
    refine .step (fun k => amount_dayOf_c5_eq k _ _ _ _) (.nk (by omega) (.to (.pure _) ?_))
    congr 1
    omega
  | succ n ih =>
    intro m M s hn h1 h2 h3 hs hs2
    refine .step (fun k => amount_dayOf_c5_eq k _ _ _ _) (.ck (by omega) (.bind (ev_adom hy h1 (by omega)) ?_))
    have hd := dom_pos y m
    have e : cum y (m + 1 - 1) = cum y (m - 1) + dom y m := by
      obtain ⟨j, rfl⟩ : ∃ j, m = j + 1 := ⟨m - 1, by omega⟩
      simp only [cum, Nat.add_sub_cancel]
    have hl : cum y (m + 1 - 1) ≤ cum y 12 := cum_le (by omega)
    rw [wi64_id (x := s + dom y m) (by omega) (by omega), show wi64 ((m : Int) + 1) = ((m + 1 : Nat) : Int) by rw [wi64_id (by omega) (by omega)]; rfl]
    refine (ih (m + 1) M (s + dom y m) (by omega) (by omega) (by omega) h3 (by omega) (by omega)).to ?_
    rw [e]
    congr 1
    omega
theorem ev_rday_c3 {y : Int} (hy : 0 ≤ y) : ∀ (n m : Nat) (M : Nat) (s : Int), M - m = n → 1 ≤ m → m ≤ M → M ≤ 12 → -100000000 ≤ s → s + cum y 12 ≤ 100000000 + cum y (m - 1) → Ev (fun k => interchangeref1_dayOf_c3 k y (M : Int) s (m : Int)) (s + cum y (M - 1) - cum y (m - 1)) := by
  intro n
  induction n with
  | zero =>
    intro m M s hn h1 h2 h3 _ _
    have : m = M := by omega
    subst this
    refine .step (fun k => interchangeref1_dayOf_c3_eq k _ _ _ _) (.nk (by omega) (.to (.pure _) ?_))
    omega
  | succ n ih =>
    intro m M s hn h1 h2 h3 hs hs2
    refine .step (fun k => interchangeref1_dayOf_c3_eq k _ _ _ _) (.ck (by omega) (.bind (ev_rdom hy h1 (by omega)) ?_))
    have hd := dom_pos y m
    have e : cum y (m + 1 - 1) = cum y (m - 1) + dom y m := by
      obtain ⟨j, rfl⟩ : ∃ j, m = j + 1 := ⟨m - 1, by omega⟩
      simp only [cum, Nat.add_sub_cancel]
    have hl : cum y (m + 1 - 1) ≤ cum y 12 := cum_le (by omega)
    rw [wi64_id (x := s + dom y m) (by omega) (by omega), show wi64 ((m : Int) + 1) = ((m + 1 : Nat) : Int) by rw [wi64_id (by omega) (by omega)]; rfl]
    refine (ih (m + 1) M (s + dom y m) (by omega) (by omega) (by omega) h3 (by omega) (by omega)).to ?_
    rw [e]
    omega

theorem ev_rdayOf {t : Dt} (h : t.Ok) : Ev (fun k => interchangeref1_dayOf k t.y (t.m : Int) t.d) t.n := by
  have y1 := h.y1
  have y2 := h.y2
  have hb := bef_small (y := t.y) (by omega) (by omega)
  have hd := dom_pos t.y t.m
  have d1 := h.d1
  have d2 := h.d2
  have hc := cum_year t.y
  have hl := lp_01 t.y
  refine .step (fun k => interchangeref1_dayOf_eq k _ _ _) (.bind (ev_rbefore (by omega) (by omega)) ?_)
  rw [wi64_id (by omega) (by omega)]
  refine (ev_rday_c3 (by omega) _ 1 t.m _ rfl (by omega) h.m1 h.m2 (by omega) (by show _ + cum t.y 12 ≤ 100000000 + cum t.y 0; have c0 : cum t.y 0 = 0 := rfl; omega)).to ?_
  simp only [cum, Dt.n, Nat.sub_self]
  omega

/-- What DayOf computes. -/
def okDt (a b c : Int) : Prop := 1 ≤ a ∧ a ≤ 9999 ∧ 1 ≤ b ∧ b ≤ 12 ∧ 1 ≤ c ∧ c ≤ dom a b.toNat
instance (a b c : Int) : Decidable (okDt a b c) := by unfold okDt; infer_instance
theorem okDt_ok {a b c : Int} (h : okDt a b c) : (⟨a, b.toNat, c⟩ : Dt).Ok := by
  unfold okDt at h
  exact ⟨h.1, h.2.1, by simp; omega, by simp; omega, h.2.2.2.2.1, h.2.2.2.2.2⟩
theorem Dt.Ok.is {t : Dt} (h : t.Ok) : okDt t.y (t.m : Int) t.d := by
  refine ⟨h.y1, h.y2, ?_, ?_, h.d1, ?_⟩
  · have := h.m1; omega
  · have := h.m2; omega
  · rw [Int.toNat_natCast]; exact h.d2
theorem ev_Outside' (a b c : Int) : Ev (fun k => kit_Outside k a b c) (decide (a < b ∨ a > c)) := by
  refine .step (fun k => kit_Outside_eq k a b c) (.to (.pure _) ?_)
  by_cases h : a < b <;> simp [h]
theorem ev_within' (a b c : Int) : Ev (fun k => interchangeref1_within k a b c) (decide (b ≤ a ∧ a ≤ c)) := by
  refine .step (fun k => interchangeref1_within_eq k a b c) (.to (.pure _) ?_)
  by_cases h : b ≤ a <;> simp [h]
theorem ev_adayOf (a b c : Int) : Ev (fun k => amount_dayOf k a b c) (if okDt a b c then ((⟨a, b.toNat, c⟩ : Dt).n, true) else (0, false)) := by
  refine .step (fun k => amount_dayOf_eq k _ _ _) (.bind (ev_Outside' _ _ _) ?_)
  by_cases h1 : a < 1 ∨ a > 9999
  · rw [decide_eq_true h1, if_neg (by unfold okDt; omega)]
    exact .bind (x := false) (.ff rfl (.pure _)) (.bind (x := 0) (.ff rfl (.pure _)) (.bind (x := false) (.ff rfl (.pure _)) (.tt rfl (.pure _))))
  · rw [decide_eq_false h1]
    refine .bind (.tt rfl (ev_Outside' _ _ _)) ?_
    by_cases h2 : b < 1 ∨ b > 12
    · rw [decide_eq_true h2, if_neg (by unfold okDt; omega)]
      exact .bind (x := 0) (.ff rfl (.pure _)) (.bind (x := false) (.ff rfl (.pure _)) (.tt rfl (.pure _)))
    · rw [decide_eq_false h2]
      obtain ⟨m, rfl⟩ : ∃ m : Nat, b = m := ⟨b.toNat, by omega⟩
      refine .bind (.tt rfl (ev_adom (by omega) (by omega) (by omega))) (.bind (.tt rfl (ev_Outside' _ _ _)) ?_)
      by_cases h3 : c < 1 ∨ c > dom a m
      · rw [decide_eq_true h3, if_neg (by unfold okDt; rw [Int.toNat_natCast]; omega)]
        exact .tt rfl (.pure _)
      · rw [decide_eq_false h3, if_pos (by unfold okDt; rw [Int.toNat_natCast]; omega)]
        have hb := bef_small (y := a) (by omega) (by omega)
        have hd := dom_pos a m
        have hc := cum_year a
        have hl := lp_01 a
        refine .ff rfl (.bind (ev_abefore (by omega) (by omega)) ?_)
        rw [wi64_id (x := bef a + c) (by omega) (by omega)]
        refine (ev_aday_c5 (by omega) _ 1 m _ rfl (by omega) (by omega) (by omega) (by omega) (by show _ + cum a 12 ≤ 100000000 + cum a 0; have c0 : cum a 0 = 0 := rfl; omega)).to ?_
        simp only [cum, Dt.n, Nat.sub_self, Int.toNat_natCast]
        congr 1
        omega
theorem ev_aDayOf (a b c : Int) : Ev (fun k => amount_DayOf k a b c) (if okDt a b c then ((⟨a, b.toNat, c⟩ : Dt).n, 0) else (0, 1)) := by
  refine .step (fun k => amount_DayOf_eq k _ _ _) (.bind (ev_adayOf a b c) ?_)
  by_cases h : okDt a b c
  · rw [if_pos h, if_pos h]
    exact .ff rfl (.pure _)
  · rw [if_neg h, if_neg h]
    exact .tt rfl (.pure _)
theorem ev_rDayOf (a b c : Int) : Ev (fun k => interchangeref1_DayOf k a b c) (if okDt a b c then ((⟨a, b.toNat, c⟩ : Dt).n, 0) else (0, 1)) := by
  refine .step (fun k => interchangeref1_DayOf_eq k _ _ _) (.bind (ev_within' _ _ _) ?_)
  by_cases h1 : 1 ≤ a ∧ a ≤ 9999
  · rw [decide_eq_true h1]
    refine .bind (.tt rfl (ev_within' _ _ _)) ?_
    by_cases h2 : 1 ≤ b ∧ b ≤ 12
    · rw [decide_eq_true h2]
      obtain ⟨m, rfl⟩ : ∃ m : Nat, b = m := ⟨b.toNat, by omega⟩
      refine .bind (.tt rfl (ev_rdom (by omega) (by omega) (by omega))) (.bind (.tt rfl (ev_within' _ _ _)) ?_)
      by_cases h3 : 1 ≤ c ∧ c ≤ dom a m
      · have hok : okDt a m c := by unfold okDt; rw [Int.toNat_natCast]; omega
        rw [decide_eq_true h3, if_pos hok]
        have := ev_rdayOf (okDt_ok hok)
        simp only [Int.toNat_natCast] at this ⊢
        exact .ff rfl (.bind this (.pure _))
      · rw [decide_eq_false h3, if_neg (by unfold okDt; rw [Int.toNat_natCast]; omega)]
        exact .tt rfl (.pure _)
    · rw [decide_eq_false h2, if_neg (by unfold okDt; omega)]
      exact .bind (x := 0) (.ff rfl (.pure _)) (.bind (x := false) (.ff rfl (.pure _)) (.tt rfl (.pure _)))
  · rw [decide_eq_false h1, if_neg (by unfold okDt; omega)]
    exact .bind (x := false) (.ff rfl (.pure _)) (.bind (x := 0) (.ff rfl (.pure _)) (.bind (x := false) (.ff rfl (.pure _)) (.tt rfl (.pure _))))

/-! ### the date of a number -/
theorem ev_adate_c5 {t : Dt} (h : t.Ok) : ∀ (k m : Nat), t.m - m = k → 1 ≤ m → m ≤ t.m → Ev (fun q => amount_dateOf_c5 q t.y (m : Int) (t.n - bef t.y - cum t.y (m - 1))) (t.y, ((t.m : Int), t.d)) := by
  have y1 := h.y1
  have y2 := h.y2
  have m2 := h.m2
  have d1 := h.d1
  have d2 := h.d2
  have hb := bef_small (y := t.y) (by omega) (by omega)
  have hn := h.bound
  intro k
  induction k with
  | zero =>
    intro m hk h1 h2
    have : m = t.m := by omega
    subst this
    have e : t.n - bef t.y - cum t.y (t.m - 1) = t.d := by unfold Dt.n; omega
    rw [e]
    exact .step (fun q => amount_dateOf_c5_eq q _ _ _) (.bind (ev_adom (by omega) h1 m2) (.nk (by omega) (.pure _)))
  | succ k ih =>
    intro m hk h1 h2
    have e : cum t.y (m + 1 - 1) = cum t.y (m - 1) + dom t.y m := by
      obtain ⟨j, rfl⟩ : ∃ j, m = j + 1 := ⟨m - 1, by omega⟩
      simp only [cum, Nat.add_sub_cancel]
    have hl : cum t.y (m + 1 - 1) ≤ cum t.y (t.m - 1) := cum_le (by omega)
    have hd := dom_pos t.y m
    have hc0 := cum_nonneg t.y (m - 1)
    have hn' : t.n = bef t.y + cum t.y (t.m - 1) + t.d := rfl
    refine .step (fun q => amount_dateOf_c5_eq q _ _ _) (.bind (ev_adom (by omega) h1 (by omega)) (.ck (by omega) (.bind (ev_adom (by omega) h1 (by omega)) ?_)))
    rw [show wi64 ((m : Int) + 1) = ((m + 1 : Nat) : Int) by rw [wi64_id (by omega) (by omega)]; rfl, wi64_id (by omega) (by omega)]
    have := ih (m + 1) (by omega) (by omega) (by omega)
    rw [e] at this
    rw [show t.n - bef t.y - cum t.y (m - 1) - dom t.y m = t.n - bef t.y - (cum t.y (m - 1) + dom t.y m) by omega]
    exact this
theorem ev_rdate_c6 {t : Dt} (h : t.Ok) : ∀ (k m : Nat), t.m - m = k → 1 ≤ m → m ≤ t.m → Ev (fun q => interchangeref1_dateOf_c6 q t.y (m : Int) (t.n - bef t.y - cum t.y (m - 1))) (t.y, ((t.m : Int), t.d)) := by
  have y1 := h.y1
  have y2 := h.y2
  have m2 := h.m2
  have d1 := h.d1
  have d2 := h.d2
  have hb := bef_small (y := t.y) (by omega) (by omega)
  have hn := h.bound
  intro k
  induction k with
  | zero =>
    intro m hk h1 h2
    have : m = t.m := by omega
    subst this
    have e : t.n - bef t.y - cum t.y (t.m - 1) = t.d := by unfold Dt.n; omega
    rw [e]
    exact .step (fun q => interchangeref1_dateOf_c6_eq q _ _ _) (.bind (ev_rdom (by omega) h1 m2) (.nk (by omega) (.pure _)))
  | succ k ih =>
    intro m hk h1 h2
    have e : cum t.y (m + 1 - 1) = cum t.y (m - 1) + dom t.y m := by
      obtain ⟨j, rfl⟩ : ∃ j, m = j + 1 := ⟨m - 1, by omega⟩
      simp only [cum, Nat.add_sub_cancel]
    have hl : cum t.y (m + 1 - 1) ≤ cum t.y (t.m - 1) := cum_le (by omega)
    have hd := dom_pos t.y m
    have hc0 := cum_nonneg t.y (m - 1)
    have hn' : t.n = bef t.y + cum t.y (t.m - 1) + t.d := rfl
    refine .step (fun q => interchangeref1_dateOf_c6_eq q _ _ _) (.bind (ev_rdom (by omega) h1 (by omega)) (.ck (by omega) (.bind (ev_rdom (by omega) h1 (by omega)) ?_)))
    rw [show wi64 ((m : Int) + 1) = ((m + 1 : Nat) : Int) by rw [wi64_id (by omega) (by omega)]; rfl, wi64_id (by omega) (by omega)]
    have := ih (m + 1) (by omega) (by omega) (by omega)
    rw [e] at this
    rw [show t.n - bef t.y - cum t.y (m - 1) - dom t.y m = t.n - bef t.y - (cum t.y (m - 1) + dom t.y m) by omega]
    exact this
/-- A year from which on is looked. -/
theorem year_start {t : Dt} (h : t.Ok) : 1 ≤ t.n / 366 + 1 ∧ t.n / 366 + 1 ≤ t.y := by
  have hn := h.bound
  have hi := h.in_year
  refine ⟨by omega, ?_⟩
  refine Classical.byContradiction fun z => ?_
  have := bef_mono (a := t.y + 1) (b := t.n / 366 + 1) (by omega)
  have e : bef (t.n / 366 + 1) < t.n := by
    unfold bef
    omega
  omega
theorem ev_adateOf {t : Dt} (h : t.Ok) : Ev (fun q => amount_dateOf q t.n) (t.y, ((t.m : Int), t.d)) := by
  have y1 := h.y1
  have y2 := h.y2
  have hn := h.bound
  have hi := h.in_year
  have hs := year_start h
  have key : ∀ (k : Nat) (y : Int), t.y - y = k → 1 ≤ y → y ≤ t.y → Ev (fun q => amount_dateOf_c2 q t.n y) (t.y, ((t.m : Int), t.d)) := by
    intro k
    induction k with
    | zero =>
      intro y hk h1 h2
      have : y = t.y := by omega
      subst this
      refine .step (fun q => amount_dateOf_c2_eq q _ _) ?_
      have fin : Ev (fun q => (amount_before q t.y).bind fun y1 => amount_dateOf_c5 q t.y 1 (wi64 (t.n - y1))) (t.y, ((t.m : Int), t.d)) := by
        refine .bind (ev_abefore (by omega) (by omega)) ?_
        have hb := bef_small (y := t.y) (by omega) (by omega)
        rw [wi64_id (by omega) (by omega)]
        have := ev_adate_c5 h _ 1 rfl (by omega) h.m1
        simpa [cum] using this
      by_cases hy : t.y < 9999
      · refine .bind (x := bef (t.y + 1)) (.ck hy ?_) ?_
        · rw [wi64_id (by omega) (by omega)]
          exact ev_abefore (by omega) (by omega)
        · rw [decide_eq_true hy]
          exact .ff (by simp; omega) fin
      · exact .bind (x := 0) (.nk hy (.pure _)) (.ff (by rw [decide_eq_false hy]; rfl) fin)
    | succ k ih =>
      intro y hk h1 h2
      have hb : bef (y + 1) < t.n := by
        have := bef_mono (a := y + 1) (b := t.y) (by omega)
        omega
      refine .step (fun q => amount_dateOf_c2_eq q _ _) (.bind (x := bef (y + 1)) (.ck (by omega) ?_) ?_)
      · rw [wi64_id (by omega) (by omega)]
        exact ev_abefore (by omega) (by omega)
      · refine .tt ?_ ?_
        · rw [decide_eq_true (show y < 9999 by omega)]
          simpa using hb
        · rw [wi64_id (by omega) (by omega)]
          exact ih (y + 1) (by omega) (by omega) (by omega)
  refine .step (fun q => amount_dateOf_eq q _) ?_
  rw [Int.tdiv_eq_ediv_of_nonneg (by omega), wi64_id (x := t.n / 366) (by omega) (by omega), wi64_id (by omega) (by omega)]
  obtain ⟨k, hk⟩ : ∃ k : Nat, t.y - (t.n / 366 + 1) = k := ⟨(t.y - (t.n / 366 + 1)).toNat, by omega⟩
  exact key k _ hk hs.1 hs.2
theorem ev_rdateOf {t : Dt} (h : t.Ok) : Ev (fun q => interchangeref1_dateOf q t.n) (t.y, ((t.m : Int), t.d)) := by
  have y1 := h.y1
  have y2 := h.y2
  have hn := h.bound
  have hi := h.in_year
  have hs := year_start h
  have key : ∀ (k : Nat) (y : Int), t.y - y = k → 1 ≤ y → y ≤ t.y → Ev (fun q => interchangeref1_dateOf_c2 q t.n y) (t.y, ((t.m : Int), t.d)) := by
    intro k
    induction k with
    | zero =>
      intro y hk h1 h2
      have : y = t.y := by omega
      subst this
      have hb := bef_small (y := t.y) (by omega) (by omega)
      refine .step (fun q => interchangeref1_dateOf_c2_eq q _ _) (.bind (x := bef (t.y + 1)) ?_ (.nk (by omega) (.bind (ev_rbefore (by omega) (by omega)) ?_)))
      · rw [wi64_id (by omega) (by omega)]
        exact ev_rbefore (by omega) (by omega)
      · rw [wi64_id (by omega) (by omega)]
        have := ev_rdate_c6 h _ 1 rfl (by omega) h.m1
        simpa [cum] using this
    | succ k ih =>
      intro y hk h1 h2
      have hb : bef (y + 1) < t.n := by
        have := bef_mono (a := y + 1) (b := t.y) (by omega)
        omega
      refine .step (fun q => interchangeref1_dateOf_c2_eq q _ _) (.bind (x := bef (y + 1)) ?_ (.ck (by omega) ?_))
      · rw [wi64_id (by omega) (by omega)]
        exact ev_rbefore (by omega) (by omega)
      · rw [wi64_id (by omega) (by omega)]
        exact ih (y + 1) (by omega) (by omega) (by omega)
  refine .step (fun q => interchangeref1_dateOf_eq q _) ?_
  rw [Int.tdiv_eq_ediv_of_nonneg (by omega), wi64_id (x := t.n / 366) (by omega) (by omega), wi64_id (by omega) (by omega)]
  obtain ⟨k, hk⟩ : ∃ k : Nat, t.y - (t.n / 366 + 1) = k := ⟨(t.y - (t.n / 366 + 1)).toNat, by omega⟩
  exact key k _ hk hs.1 hs.2
end Go.Proofs.YtegiadfbniamkaaDoor.Eq
namespace Go.Ra
open Go Go.Ra
/-- A number from 0 on, with so many digits at least. -/
def pdL (n : Int) (w : Nat) : List UInt8 := List.replicate (w - (Lib.itoa n).length) 48 ++ Lib.itoa n
def pad (n : Int) (w : Nat) : ByteArray := B (pdL n w)
theorem nDig_le : ∀ (k u : Nat), 1 ≤ k → u < 10 ^ k → Lib.nDigits u ≤ k
  | 0, _, h, _ => by omega
  | k + 1, u, _, h => by
    by_cases hu : u < 10
    · rw [Lib.nDigits_small hu]; omega
    · rw [Lib.nDigits_big hu]
      have hk : 1 ≤ k := by
        rcases Nat.eq_zero_or_pos k with z | z
        · subst z; simp at h; omega
        · exact z
      have := nDig_le k (u / 10) hk (by rw [Nat.pow_succ] at h; omega)
      omega
theorem itoa_nat (n : Nat) : Lib.itoa (n : Int) = Lib.decDigits n := by
  unfold Lib.itoa
  rw [if_neg (by omega), Int.toNat_natCast]
theorem itoa_len {n : Int} {k : Nat} (h0 : 0 ≤ n) (hk : 1 ≤ k) (h : n < 10 ^ k) : (Lib.itoa n).length ≤ k := by
  obtain ⟨m, rfl⟩ : ∃ m : Nat, n = m := ⟨n.toNat, by omega⟩
  rw [itoa_nat, Lib.decDigits_length]
  exact nDig_le k m hk (by exact_mod_cast h)
theorem pdL_len {n : Int} {w : Nat} (h : (Lib.itoa n).length ≤ w) : (pdL n w).length = w := by
  unfold pdL
  rw [List.length_append, List.length_replicate]
  omega
theorem pad_size {n : Int} {w : Nat} (h : (Lib.itoa n).length ≤ w) : (pad n w).size = w := by
  unfold pad
  rw [size_B, pdL_len h]
theorem l4 {n : Int} (h0 : 0 ≤ n) (h : n ≤ 9999) : (Lib.itoa n).length ≤ 4 := itoa_len h0 (by decide) (by omega)
theorem l2 {n : Int} (h0 : 0 ≤ n) (h : n ≤ 99) : (Lib.itoa n).length ≤ 2 := itoa_len h0 (by decide) (by omega)
theorem l1 {n : Int} (h0 : 0 ≤ n) (h : n ≤ 9) : (Lib.itoa n).length ≤ 1 := itoa_len h0 (by decide) (by omega)
theorem rep48 (n : Nat) : Lib.repeatL [48] n = List.replicate n 48 := by
  have := Lib.repeatL_replicate 48 1 n
  simpa using this
/-- The Thursday of a day's week. -/
def thu (n : Int) : Int := n - (n - 1) % 7 + 3
theorem thu_in {n : Int} (h1 : 1 ≤ n) (h2 : n ≤ 3652059) : 1 ≤ thu n ∧ thu n ≤ 3652059 := by
  have e : thu n = 7 * ((n - 1) / 7) + 4 := by unfold thu; omega
  rw [e]
  omega
/-- The week's number, of a day whose Thursday is in a year. -/
def wk (y n : Int) : Int := (thu n - bef y - 1) / 7 + 1
/-- A day as a text. -/
def dtx (t v : Dt) (form : Int) : ByteArray :=
  if form = 1 then (pad t.y 4 ++ pad t.m 2) ++ pad t.d 2
  else if form = 2 then (pad (t.y % 100) 2 ++ pad t.m 2) ++ pad t.d 2
  else if form = 3 then (pad t.d 2 ++ pad t.m 2) ++ pad t.y 4
  else if form = 4 then (((pad t.y 4 ++ bs [45]) ++ pad t.m 2) ++ bs [45]) ++ pad t.d 2
  else (pad v.y 4 ++ pad (wk v.y t.n) 2) ++ pad ((t.n - 1) % 7 + 1) 1
end Go.Ra
namespace Go.Proofs.YtegiadfbniamkaaDoor.Eq
open Go Go.Ra
set_option linter.unusedVariables false

theorem ev_Itoa {n : Int} (h1 : -9223372036854775808 ≤ n) (h2 : n ≤ 9223372036854775807) : Ev (fun k => strconv_Itoa k n) (B (Lib.itoa n)) := by
  refine .off (n := 0) fun k => ?_
  show strconv_Itoa (k + 0) n = _
  rw [strconv_Itoa_eq, decide_eq_true h1, decide_eq_true h2]
  rfl
theorem ev_Rep48 {n : Int} (h1 : 0 ≤ n) (h2 : n ≤ 1000000) : Ev (fun k => strings_Repeat k (bs [48]) n) (B (List.replicate n.toNat 48)) := by
  refine .off (n := 0) fun k => ?_
  show strings_Repeat (k + 0) (bs [48]) n = _
  have hs : (bs [48]).size = 1 := rfl
  rw [strings_Repeat_eq, decide_eq_true h1, decide_eq_true (show n ≤ 9223372036854775807 by omega), hs, decide_eq_true (by omega)]
  show some (B (Lib.repeatL [48] n.toNat)) = _
  rw [rep48]
theorem ev_apad {n : Int} {w : Nat} (h0 : 0 ≤ n) (h1 : n ≤ 9999) (hl : (Lib.itoa n).length ≤ w) (hw : w ≤ 10) : Ev (fun k => amount_padded k n (w : Int)) (pad n w) := by
  refine .step (fun k => amount_padded_eq k _ _) (.bind (ev_Itoa (by omega) (by omega)) ?_)
  have e : wi64 ((w : Int) - ((B (Lib.itoa n)).size : Int)) = ((w - (Lib.itoa n).length : Nat) : Int) := by
    rw [size_B, wi64_id (by omega) (by omega)]; omega
  rw [e]
  refine .bind (ev_Rep48 (by omega) (by omega)) (.ck (by rw [size_B, size_B, List.length_replicate]; omega) (.to (.pure _) ?_))
  rw [B_app, Int.toNat_natCast]
  rfl
theorem ev_rpad {n : Int} {w : Nat} (h0 : 0 ≤ n) (h1 : n ≤ 9999) (hl : (Lib.itoa n).length ≤ w) (hw : w ≤ 10) : Ev (fun k => interchangeref1_padded k n (w : Int)) (pad n w) := by
  refine .step (fun k => interchangeref1_padded_eq k _ _) (.bind (ev_Itoa (by omega) (by omega)) ?_)
  have e : maxI 0 (wi64 ((w : Int) - ((B (Lib.itoa n)).size : Int))) = ((w - (Lib.itoa n).length : Nat) : Int) := by
    rw [size_B, wi64_id (by omega) (by omega)]
    unfold maxI
    split <;> omega
  rw [e]
  refine .bind (ev_Rep48 (by omega) (by omega)) (.ck (by rw [size_B, size_B, List.length_replicate]; omega) (.to (.pure _) ?_))
  rw [B_app, Int.toNat_natCast]
  rfl
theorem ev_kIsDay (n : Int) : Ev (fun k => kit_IsDay k n) (decide (1 ≤ n ∧ n ≤ 3652059)) := by
  refine .step (fun k => kit_IsDay_eq k _) (.bind (ev_Outside' _ _ _) (.to (.pure _) ?_))
  by_cases h : 1 ≤ n ∧ n ≤ 3652059
  · rw [decide_eq_true h, decide_eq_false (by omega)]; rfl
  · rw [decide_eq_false h, decide_eq_true (by omega)]; rfl
theorem ev_rIsDay (n : Int) : Ev (fun k => interchangeref1_isDay k n) (decide (1 ≤ n ∧ n ≤ 3652059)) :=
  .step (fun k => interchangeref1_isDay_eq k _) (.bind (ev_within' _ _ _) (.pure _))
theorem ev_WeekDay2 {n : Int} (h1 : 1 ≤ n) (h2 : n ≤ 3652059) : Ev (fun k => amount_WeekDay k n) ((n - 1) % 7) := by
  refine .step (fun k => amount_WeekDay_eq k _) (.to (.pure _) ?_)
  rw [wi64_id (by omega) (by omega), Int.tmod_eq_emod_of_nonneg (by omega)]
theorem wk_w {v : Dt} (hv : v.Ok) {n : Int} (h : v.n = thu n) : wi64 ((wi64 ((wi64 ((wi64 ((thu n) - bef v.y)) - 1)).tdiv 7)) + 1) = wk v.y n ∧ 1 ≤ wk v.y n ∧ wk v.y n ≤ 53 := by
  have hi := hv.in_year
  have hb := bef_succ v.y
  have hl := lp_01 v.y
  have hbs := bef_small (y := v.y) hv.y1 (by have := hv.y2; omega)
  rw [h] at hi
  unfold wk
  have e1 : wi64 (thu n - bef v.y) = thu n - bef v.y := wi64_id (by omega) (by omega)
  have e2 : wi64 (thu n - bef v.y - 1) = thu n - bef v.y - 1 := wi64_id (by omega) (by omega)
  rw [e1, e2, Int.tdiv_eq_ediv_of_nonneg (by omega)]
  refine ⟨?_, by omega, by omega⟩
  rw [wi64_id (x := (thu n - bef v.y - 1) / 7) (by omega) (by omega)]
  exact wi64_id (by omega) (by omega)
theorem ev_aweekOf {t v : Dt} (ht : t.Ok) (hv : v.Ok) (h : v.n = thu t.n) : Ev (fun k => amount_weekOf k t.n) (v.y, wk v.y t.n) := by
  have hn := ht.bound
  have ht3 := thu_in hn.1 hn.2
  refine .step (fun k => amount_weekOf_eq k _) (.bind (ev_WeekDay2 hn.1 hn.2) ?_)
  have e : wi64 (wi64 (t.n - (t.n - 1) % 7) + 3) = thu t.n := by
    unfold thu at *
    rw [wi64_id (x := t.n - (t.n - 1) % 7) (by omega) (by omega), wi64_id (by omega) (by omega)]
  rw [e]
  have hd := ev_adateOf hv
  rw [h] at hd
  refine .bind hd (.bind (ev_abefore hv.y1 (by have := hv.y2; omega)) (.to (.pure _) ?_))
  rw [(wk_w hv h).1]
theorem ev_rweekOf {t v : Dt} (ht : t.Ok) (hv : v.Ok) (h : v.n = thu t.n) : Ev (fun k => interchangeref1_weekOf k t.n) (v.y, (wk v.y t.n, (t.n - 1) % 7 + 1)) := by
  have hn := ht.bound
  have ht3 := thu_in hn.1 hn.2
  have e0 : wi64 ((wi64 (t.n - 1)).tmod 7 + 1) = (t.n - 1) % 7 + 1 := by
    rw [wi64_id (x := t.n - 1) (by omega) (by omega), Int.tmod_eq_emod_of_nonneg (by omega), wi64_id (by omega) (by omega)]
  have e : wi64 (wi64 (t.n - ((t.n - 1) % 7 + 1)) + 4) = thu t.n := by
    unfold thu at *
    rw [wi64_id (x := t.n - ((t.n - 1) % 7 + 1)) (by omega) (by omega), wi64_id (by omega) (by omega)]
    omega
  refine .step (fun k => interchangeref1_weekOf_eq k _) ?_
  rw [e0, e]
  have hd := ev_rdateOf hv
  rw [h] at hd
  refine .bind hd (.bind (ev_rbefore hv.y1 (by have := hv.y2; omega)) (.to (.pure _) ?_))
  rw [(wk_w hv h).1]

theorem ev_aDateOf (n : Int) : Ev (fun k => amount_DateOf k n) (0, (0, (0, 1))) ∧ ¬ (1 ≤ n ∧ n ≤ 3652059) ∨ ∃ t : Dt, t.Ok ∧ t.n = n ∧ Ev (fun k => amount_DateOf k n) (t.y, ((t.m : Int), (t.d, 0))) := by
  by_cases h : 1 ≤ n ∧ n ≤ 3652059
  · obtain ⟨t, h1, rfl⟩ := Dt.ex h.1 h.2
    refine .inr ⟨t, h1, rfl, .step (fun k => amount_DateOf_eq k _) (.bind (ev_kIsDay _) ?_)⟩
    rw [decide_eq_true h]
    exact .ff rfl (.bind (ev_adateOf h1) (.pure _))
  · refine .inl ⟨.step (fun k => amount_DateOf_eq k _) (.bind (ev_kIsDay _) ?_), h⟩
    rw [decide_eq_false h]
    exact .tt rfl (.pure _)
theorem ev_rDateOf (n : Int) : Ev (fun k => interchangeref1_DateOf k n) (0, (0, (0, 1))) ∧ ¬ (1 ≤ n ∧ n ≤ 3652059) ∨ ∃ t : Dt, t.Ok ∧ t.n = n ∧ Ev (fun k => interchangeref1_DateOf k n) (t.y, ((t.m : Int), (t.d, 0))) := by
  by_cases h : 1 ≤ n ∧ n ≤ 3652059
  · obtain ⟨t, h1, rfl⟩ := Dt.ex h.1 h.2
    refine .inr ⟨t, h1, rfl, .step (fun k => interchangeref1_DateOf_eq k _) (.bind (ev_rIsDay _) ?_)⟩
    rw [decide_eq_true h]
    exact .ff rfl (.bind (ev_rdateOf h1) (.pure _))
  · refine .inl ⟨.step (fun k => interchangeref1_DateOf_eq k _) (.bind (ev_rIsDay _) ?_), h⟩
    rw [decide_eq_false h]
    exact .tt rfl (.pure _)

/-- The sizes of a day's numbers. -/
structure Szs (t v : Dt) : Prop where
  y4 : (Lib.itoa t.y).length ≤ 4
  y2 : (Lib.itoa (t.y % 100)).length ≤ 2
  m2 : (Lib.itoa (t.m : Int)).length ≤ 2
  d2 : (Lib.itoa t.d).length ≤ 2
  v4 : (Lib.itoa v.y).length ≤ 4
  w2 : (Lib.itoa (wk v.y t.n)).length ≤ 2
  e1 : (Lib.itoa ((t.n - 1) % 7 + 1)).length ≤ 1
theorem szs {t v : Dt} (ht : t.Ok) (hv : v.Ok) (h : v.n = thu t.n) : Szs t v := by
  have y1 := ht.y1
  have y2 := ht.y2
  have v1 := hv.y1
  have v2 := hv.y2
  have m2 := ht.m2
  have d1 := ht.d1
  have d2 := ht.d2
  have hd := dom_pos t.y t.m
  have hw := wk_w hv h
  exact ⟨l4 (by omega) (by omega), l2 (by omega) (by omega), l2 (by omega) (by omega), l2 (by omega) (by omega), l4 (by omega) (by omega), l2 (by omega) (by omega), l1 (by omega) (by omega)⟩
theorem beq_no {a b : Int} (h : a ≠ b) : (a == b) = false := by simpa using h

theorem ev_rdayText {t v : Dt} (ht : t.Ok) (hv : v.Ok) (h : v.n = thu t.n) (form : Int) : Ev (fun k => interchangeref1_dayText k t.n form) (dtx t v form) := by
  have z := szs ht hv h
  have y1 := ht.y1
  have y2 := ht.y2
  have v1 := hv.y1
  have v2 := hv.y2
  have m2 := ht.m2
  have d1 := ht.d1
  have d2 := ht.d2
  have hd := dom_pos t.y t.m
  have hw := wk_w hv h
  have s1 := pad_size z.y4
  have s2 := pad_size z.y2
  have s3 := pad_size z.m2
  have s4 := pad_size z.d2
  have s5 := pad_size z.v4
  have s6 := pad_size z.w2
  have s7 := pad_size z.e1
  have s8 : (bs [45]).size = 1 := rfl
  have pY := ev_rpad (n := t.y) (w := 4) (by omega) (by omega) z.y4 (by omega)
  have pm := ev_rpad (n := (t.m : Int)) (w := 2) (by omega) (by omega) z.m2 (by omega)
  have pd := ev_rpad (n := t.d) (w := 2) (by omega) (by omega) z.d2 (by omega)
  have py := ev_rpad (n := t.y % 100) (w := 2) (by omega) (by omega) z.y2 (by omega)
  have pv := ev_rpad (n := v.y) (w := 4) (by omega) (by omega) z.v4 (by omega)
  have pw := ev_rpad (n := wk v.y t.n) (w := 2) (by omega) (by omega) z.w2 (by omega)
  have pe := ev_rpad (n := (t.n - 1) % 7 + 1) (w := 1) (by omega) (by omega) z.e1 (by omega)
  refine .step (fun k => interchangeref1_dayText_eq k _ _) (.bind (ev_rdateOf ht) ?_)
  unfold dtx
  by_cases f1 : form = 1
  · rw [if_pos f1]
    exact .tt (by simp [f1]) (.bind pY (.bind pm (.ck (by omega) (.bind pd (.ck (by rw [ByteArray.size_append]; omega) (.pure _))))))
  rw [if_neg f1]
  refine .ff (beq_no f1) ?_
  by_cases f2 : form = 2
  · rw [if_pos f2]
    refine .tt (by simp [f2]) ?_
    rw [Int.tmod_eq_emod_of_nonneg (by omega)]
    exact .bind py (.bind pm (.ck (by omega) (.bind pd (.ck (by rw [ByteArray.size_append]; omega) (.pure _)))))
  rw [if_neg f2]
  refine .ff (beq_no f2) ?_
  by_cases f3 : form = 3
  · rw [if_pos f3]
    exact .tt (by simp [f3]) (.bind pd (.bind pm (.ck (by omega) (.bind pY (.ck (by rw [ByteArray.size_append]; omega) (.pure _))))))
  rw [if_neg f3]
  refine .ff (beq_no f3) ?_
  by_cases f4 : form = 4
  · rw [if_pos f4]
    exact .tt (by simp [f4]) (.bind pY (.ck (by omega) (.bind pm (.ck (by rw [ByteArray.size_append]; omega) (.ck (by rw [ByteArray.size_append, ByteArray.size_append]; omega) (.bind pd (.ck (by rw [ByteArray.size_append, ByteArray.size_append, ByteArray.size_append]; omega) (.pure _))))))))
  rw [if_neg f4]
  refine .ff (beq_no f4) ?_
  exact .bind (ev_rweekOf ht hv h) (.bind pv (.bind pw (.ck (by omega) (.bind pe (.ck (by rw [ByteArray.size_append]; omega) (.pure _))))))

theorem pad1 {n : Int} (h0 : 0 ≤ n) (h : n ≤ 9) : pad n 1 = B (Lib.itoa n) := by
  unfold pad pdL
  have h1 := l1 h0 h
  obtain ⟨m, rfl⟩ : ∃ m : Nat, n = m := ⟨n.toNat, by omega⟩
  have : (Lib.itoa (m : Int)).length = 1 := by
    rw [itoa_nat, Lib.decDigits_length]
    exact Lib.nDigits_small (by omega)
  rw [this]
  rfl
theorem ev_aDayText {t v : Dt} (ht : t.Ok) (hv : v.Ok) (h : v.n = thu t.n) {form : Int} (hf : 1 ≤ form ∧ form ≤ 5) : Ev (fun k => amount_DayText k t.n form) (dtx t v form, 0) := by
  have z := szs ht hv h
  have y1 := ht.y1
  have y2 := ht.y2
  have v1 := hv.y1
  have v2 := hv.y2
  have m2 := ht.m2
  have d1 := ht.d1
  have d2 := ht.d2
  have hd := dom_pos t.y t.m
  have hw := wk_w hv h
  have hn := ht.bound
  have s1 := pad_size z.y4
  have s2 := pad_size z.y2
  have s3 := pad_size z.m2
  have s4 := pad_size z.d2
  have s5 := pad_size z.v4
  have s6 := pad_size z.w2
  have s7 := pad_size z.e1
  have s8 : (bs [45]).size = 1 := rfl
  have pY := ev_apad (n := t.y) (w := 4) (by omega) (by omega) z.y4 (by omega)
  have pm := ev_apad (n := (t.m : Int)) (w := 2) (by omega) (by omega) z.m2 (by omega)
  have pd := ev_apad (n := t.d) (w := 2) (by omega) (by omega) z.d2 (by omega)
  have py := ev_apad (n := t.y % 100) (w := 2) (by omega) (by omega) z.y2 (by omega)
  have pv := ev_apad (n := v.y) (w := 4) (by omega) (by omega) z.v4 (by omega)
  have pw := ev_apad (n := wk v.y t.n) (w := 2) (by omega) (by omega) z.w2 (by omega)
  refine .step (fun k => amount_DayText_eq k _ _) (.bind (.step (fun k => amount_isForm_eq k _) (.bind (ev_Outside' _ _ _) (.pure _))) ?_)
  rw [decide_eq_false (show ¬ (form < 1 ∨ form > 5) by omega)]
  refine .ff rfl (.bind (ev_kIsDay _) ?_)
  rw [decide_eq_true hn]
  refine .ff rfl (.bind (ev_adateOf ht) ?_)
  unfold dtx
  by_cases f1 : form = 1
  · rw [if_pos f1]
    exact .tt (by simp [f1]) (.bind pY (.bind pm (.ck (by omega) (.bind pd (.ck (by rw [ByteArray.size_append]; omega) (.pure _))))))
  rw [if_neg f1]
  refine .ff (beq_no f1) ?_
  by_cases f2 : form = 2
  · rw [if_pos f2]
    refine .tt (by simp [f2]) ?_
    rw [Int.tmod_eq_emod_of_nonneg (by omega)]
    exact .bind py (.bind pm (.ck (by omega) (.bind pd (.ck (by rw [ByteArray.size_append]; omega) (.pure _)))))
  rw [if_neg f2]
  refine .ff (beq_no f2) ?_
  by_cases f3 : form = 3
  · rw [if_pos f3]
    exact .tt (by simp [f3]) (.bind pd (.bind pm (.ck (by omega) (.bind pY (.ck (by rw [ByteArray.size_append]; omega) (.pure _))))))
  rw [if_neg f3]
  refine .ff (beq_no f3) ?_
  by_cases f4 : form = 4
  · rw [if_pos f4]
    exact .tt (by simp [f4]) (.bind pY (.ck (by omega) (.bind pm (.ck (by rw [ByteArray.size_append]; omega) (.ck (by rw [ByteArray.size_append, ByteArray.size_append]; omega) (.bind pd (.ck (by rw [ByteArray.size_append, ByteArray.size_append, ByteArray.size_append]; omega) (.pure _))))))))
  rw [if_neg f4]
  refine .ff (beq_no f4) (.bind (ev_aweekOf ht hv h) (.bind pv (.bind pw (.ck (by omega) (.bind (ev_WeekDay2 hn.1 hn.2) ?_)))))
  rw [wi64_id (x := (t.n - 1) % 7 + 1) (by omega) (by omega)]
  have s9 := pad_size z.e1
  rw [pad1 (by omega) (by omega)] at s9 ⊢
  exact .bind (ev_Itoa (by omega) (by omega)) (.ck (by rw [ByteArray.size_append]; omega) (.pure _))
theorem ev_rDayText {t v : Dt} (ht : t.Ok) (hv : v.Ok) (h : v.n = thu t.n) {form : Int} (hf : 1 ≤ form ∧ form ≤ 5) : Ev (fun k => interchangeref1_DayText k t.n form) (dtx t v form, 0) := by
  refine .step (fun k => interchangeref1_DayText_eq k _ _) (.bind (ev_within' _ _ _) ?_)
  rw [decide_eq_true hf]
  refine .ff rfl (.bind (ev_rIsDay _) ?_)
  rw [decide_eq_true ht.bound]
  exact .ff rfl (.bind (ev_rdayText ht hv h form) (.pure _))
/-- Both write a day alike. -/
theorem ev_DayText (n form : Int) : ∃ y, Ev (fun k => amount_DayText k n form) y ∧ Ev (fun k => interchangeref1_DayText k n form) y := by
  by_cases hf : 1 ≤ form ∧ form ≤ 5
  · by_cases hn : 1 ≤ n ∧ n ≤ 3652059
    · obtain ⟨t, h1, rfl⟩ := Dt.ex hn.1 hn.2
      have h3 := thu_in hn.1 hn.2
      obtain ⟨v, h4, h5⟩ := Dt.ex h3.1 h3.2
      exact ⟨_, ev_aDayText h1 h4 h5 hf, ev_rDayText h1 h4 h5 hf⟩
    · refine ⟨(bs [], 1), .step (fun k => amount_DayText_eq k _ _) (.bind (.step (fun k => amount_isForm_eq k _) (.bind (ev_Outside' _ _ _) (.pure _))) ?_), .step (fun k => interchangeref1_DayText_eq k _ _) (.bind (ev_within' _ _ _) ?_)⟩
      · rw [decide_eq_false (show ¬ (form < 1 ∨ form > 5) by omega)]
        refine .ff rfl (.bind (ev_kIsDay _) ?_)
        rw [decide_eq_false hn]
        exact .tt rfl (.pure _)
      · rw [decide_eq_true hf]
        refine .ff rfl (.bind (ev_rIsDay _) ?_)
        rw [decide_eq_false hn]
        exact .tt rfl (.pure _)
  · refine ⟨(bs [], 4), .step (fun k => amount_DayText_eq k _ _) (.bind (.step (fun k => amount_isForm_eq k _) (.bind (ev_Outside' _ _ _) (.pure _))) ?_), .step (fun k => interchangeref1_DayText_eq k _ _) (.bind (ev_within' _ _ _) ?_)⟩
    · rw [decide_eq_true (show (form < 1 ∨ form > 5) by omega)]
      exact .tt rfl (.pure _)
    · rw [decide_eq_false hf]
      exact .tt rfl (.pure _)

theorem ev_Later (n b : Int) : ∃ y, Ev (fun k => amount_MonthsLater k n b) y ∧ Ev (fun k => interchangeref1_MonthsLater k n b) y := by
  by_cases hn : 1 ≤ n ∧ n ≤ 3652059
  · by_cases hb : b < -120000 ∨ b > 120000
    · refine ⟨(0, 1), .step (fun k => amount_MonthsLater_eq k _ _) (.bind (ev_kIsDay _) ?_), .step (fun k => interchangeref1_MonthsLater_eq k _ _) (.bind (ev_rIsDay _) ?_)⟩
      · rw [decide_eq_true hn]
        refine .bind (.tt rfl (ev_Outside' _ _ _)) ?_
        rw [decide_eq_true hb]
        exact .tt rfl (.pure _)
      · rw [decide_eq_true hn]
        refine .bind (.tt rfl (ev_within' _ _ _)) ?_
        rw [decide_eq_false (by omega)]
        exact .tt rfl (.pure _)
    · obtain ⟨t, ht, rfl⟩ := Dt.ex hn.1 hn.2
      have y1 := ht.y1
      have y2 := ht.y2
      have m1 := ht.m1
      have m2 := ht.m2
      have hd := dom_pos t.y t.m
      have d1 := ht.d1
      have d2 := ht.d2
      have eA : wi64 (wi64 (wi64 (wi64 (t.y * 12) + (t.m : Int)) - 1) + b) = 12 * t.y + t.m - 1 + b := by
        rw [wi64_id (x := t.y * 12) (by omega) (by omega), wi64_id (x := t.y * 12 + (t.m : Int)) (by omega) (by omega), wi64_id (x := t.y * 12 + (t.m : Int) - 1) (by omega) (by omega), wi64_id (by omega) (by omega)]
        omega
      have eR : wi64 (wi64 (wi64 (wi64 (12 * t.y) + (t.m : Int)) - 1) + b) = 12 * t.y + t.m - 1 + b := by
        rw [wi64_id (x := 12 * t.y) (by omega) (by omega), wi64_id (x := 12 * t.y + (t.m : Int)) (by omega) (by omega), wi64_id (x := 12 * t.y + (t.m : Int) - 1) (by omega) (by omega), wi64_id (by omega) (by omega)]
      have hN1 : -200000 ≤ 12 * t.y + t.m - 1 + b := by omega
      have hN2 : 12 * t.y + t.m - 1 + b ≤ 1000000 := by omega
      have bA : ∀ y, Ev (fun k => (amount_dateOf k t.n).bind fun y2 =>
          cond (cond (decide ((wi64 ((wi64 ((wi64 ((wi64 (y2.1 * 12)) + y2.2.1)) - 1)) + b)) < 12)) true (decide ((wi64 ((wi64 ((wi64 ((wi64 ((wi64 (y2.1 * 12)) + y2.2.1)) - 1)) + b)).tdiv 12)) > 9999))) (
            some (0, 1)) (
            (amount_daysOf k (wi64 ((wi64 ((wi64 ((wi64 ((wi64 (y2.1 * 12)) + y2.2.1)) - 1)) + b)).tdiv 12)) (wi64 (((wi64 ((wi64 ((wi64 ((wi64 (y2.1 * 12)) + y2.2.1)) - 1)) + b)).tmod 12) + 1))).bind fun y3 =>
            (amount_dayOf k (wi64 ((wi64 ((wi64 ((wi64 ((wi64 (y2.1 * 12)) + y2.2.1)) - 1)) + b)).tdiv 12)) (wi64 (((wi64 ((wi64 ((wi64 ((wi64 (y2.1 * 12)) + y2.2.1)) - 1)) + b)).tmod 12) + 1)) (minI y2.2.2 y3)).bind fun y4 =>
            cond (!y4.2) (
              some (0, 1)) (
              some (y4.1, 0)))) y → Ev (fun k => amount_MonthsLater k t.n b) y := by
        intro y hy
        refine .step (fun k => amount_MonthsLater_eq k _ _) (.bind (ev_kIsDay _) ?_)
        rw [decide_eq_true hn]
        refine .bind (.tt rfl (ev_Outside' _ _ _)) ?_
        rw [decide_eq_false hb]
        exact .ff rfl hy
      have bR : ∀ y, Ev (fun k => (interchangeref1_dateOf k t.n).bind fun y2 =>
          cond ((!(!(decide ((wi64 ((wi64 ((wi64 ((wi64 (12 * y2.1)) + y2.2.1)) - 1)) + b)) < 12)))) || true) (
          cond (cond (decide ((wi64 ((wi64 ((wi64 ((wi64 (12 * y2.1)) + y2.2.1)) - 1)) + b)) < 12)) true (decide ((wi64 ((wi64 ((wi64 ((wi64 ((wi64 (12 * y2.1)) + y2.2.1)) - 1)) + b)).tdiv 12)) > 9999))) (
            some (0, 1)) (
            (interchangeref1_daysOf k (wi64 ((wi64 ((wi64 ((wi64 ((wi64 (12 * y2.1)) + y2.2.1)) - 1)) + b)).tdiv 12)) (wi64 (((wi64 ((wi64 ((wi64 ((wi64 (12 * y2.1)) + y2.2.1)) - 1)) + b)).tmod 12) + 1))).bind fun y3 =>
            (interchangeref1_dayOf k (wi64 ((wi64 ((wi64 ((wi64 ((wi64 (12 * y2.1)) + y2.2.1)) - 1)) + b)).tdiv 12)) (wi64 (((wi64 ((wi64 ((wi64 ((wi64 (12 * y2.1)) + y2.2.1)) - 1)) + b)).tmod 12) + 1)) (minI y2.2.2 y3)).bind fun y4 =>
            some (y4, 0))) none) y → Ev (fun k => interchangeref1_MonthsLater k t.n b) y := by
        intro y hy
        refine .step (fun k => interchangeref1_MonthsLater_eq k _ _) (.bind (ev_rIsDay _) ?_)
        rw [decide_eq_true hn]
        refine .bind (.tt rfl (ev_within' _ _ _)) ?_
        rw [decide_eq_true (by omega)]
        exact .ff rfl hy
      by_cases hs : 12 * t.y + t.m - 1 + b < 12
      · refine ⟨(0, 1), bA _ (.bind (ev_adateOf ht) ?_), bR _ (.bind (ev_rdateOf ht) ?_)⟩
        · simp only [eA]
          exact .tt (by simp [hs]) (.pure _)
        · simp only [eR]
          exact .tt (by simp) (.tt (by simp [hs]) (.pure _))
      · have dv : (12 * t.y + t.m - 1 + b).tdiv 12 = (12 * t.y + t.m - 1 + b) / 12 := Int.tdiv_eq_ediv_of_nonneg (by omega)
        have md : (12 * t.y + t.m - 1 + b).tmod 12 = (12 * t.y + t.m - 1 + b) % 12 := Int.tmod_eq_emod_of_nonneg (by omega)
        have w1 : wi64 ((12 * t.y + t.m - 1 + b) / 12) = (12 * t.y + t.m - 1 + b) / 12 := wi64_id (by omega) (by omega)
        have w2 : wi64 ((12 * t.y + t.m - 1 + b) % 12 + 1) = (((12 * t.y + t.m - 1 + b) % 12).toNat + 1 : Nat) := by
          rw [wi64_id (by omega) (by omega)]; omega
        by_cases hl : (12 * t.y + t.m - 1 + b) / 12 > 9999
        · refine ⟨(0, 1), bA _ (.bind (ev_adateOf ht) ?_), bR _ (.bind (ev_rdateOf ht) ?_)⟩
          · simp only [eA, dv, w1]
            exact .tt (by simp [hs, hl]) (.pure _)
          · simp only [eR, dv, w1]
            exact .tt (by simp) (.tt (by simp [hs, hl]) (.pure _))
        · have hm12 : ((12 * t.y + t.m - 1 + b) % 12).toNat + 1 ≤ 12 := by omega
          have hY1 : 1 ≤ (12 * t.y + t.m - 1 + b) / 12 := by omega
          generalize hY : (12 * t.y + t.m - 1 + b) / 12 = Y at *
          generalize hM : ((12 * t.y + t.m - 1 + b) % 12).toNat + 1 = M at *
          have hdM := dom_pos Y M
          have hok : (⟨Y, M, minI t.d (dom Y M)⟩ : Dt).Ok := by
            refine ⟨hY1, by show Y ≤ 9999; omega, by show 1 ≤ M; omega, hm12, ?_, ?_⟩
            · show 1 ≤ minI t.d (dom Y M)
              unfold minI
              split <;> omega
            · show minI t.d (dom Y M) ≤ dom Y M
              unfold minI
              split <;> omega
          have cf : cond (decide (12 * t.y + t.m - 1 + b < 12)) true (decide (Y > 9999)) = false := by
            rw [decide_eq_false hs, decide_eq_false hl]; rfl
          refine ⟨((⟨Y, M, minI t.d (dom Y M)⟩ : Dt).n, 0), bA _ (.bind (ev_adateOf ht) ?_), bR _ (.bind (ev_rdateOf ht) ?_)⟩
          · simp only [eA, dv, md, w1, w2]
            refine .ff cf (.bind (ev_adom (by omega) (by omega) hm12) (.bind (ev_adayOf _ _ _) ?_))
            rw [if_pos (Dt.Ok.is hok), Int.toNat_natCast]
            exact .ff rfl (.pure _)
          · simp only [eR, dv, md, w1, w2]
            exact .tt (by simp) (.ff cf (.bind (ev_rdom (by omega) (by omega) hm12) (.bind (ev_rdayOf hok) (.pure _))))
  · refine ⟨(0, 1), .step (fun k => amount_MonthsLater_eq k _ _) (.bind (ev_kIsDay _) ?_), .step (fun k => interchangeref1_MonthsLater_eq k _ _) (.bind (ev_rIsDay _) ?_)⟩
    · rw [decide_eq_false hn]
      exact .bind (x := false) (.ff rfl (.pure _)) (.tt rfl (.pure _))
    · rw [decide_eq_false hn]
      exact .bind (x := false) (.ff rfl (.pure _)) (.tt rfl (.pure _))

theorem ev_law_days (a b c d e p : Int) : Ev (fun k => interchangelaw1_AmountDaysMatchSpec k a b c d e p) true := by
  obtain ⟨x, x1, x2⟩ : ∃ x, Ev (fun k => interchangeref1_DateOf k d) x ∧ Ev (fun k => amount_DateOf k d) x := by
    rcases ev_rDateOf d with ⟨h, h2⟩ | ⟨t, h1, h2, h3⟩
    · rcases ev_aDateOf d with ⟨k, _⟩ | ⟨u, k1, k2, k3⟩
      · exact ⟨_, h, k⟩
      · exact absurd (k2 ▸ k1.bound) h2
    · rcases ev_aDateOf d with ⟨k, k2⟩ | ⟨u, k1, k2, k3⟩
      · exact absurd (h2 ▸ h1.bound) k2
      · rw [Dt.inj k1 h1 (k2.trans h2.symm)] at k3
        exact ⟨_, h3, k3⟩
  obtain ⟨s, s1, s2⟩ := ev_DayText d e
  obtain ⟨m, m1, m2⟩ := ev_Later d p
  refine .step (fun k => interchangelaw1_AmountDaysMatchSpec_eq k _ _ _ _ _ _) (.bind (ev_rDayOf a b c) (.bind (ev_aDayOf a b c) (.ff (by simp) (.bind x1 (.bind x2 (.ff (by simp) (.bind s2 (.bind s1 (.ff (by simp [eqS_self]) (.bind m2 (.bind m1 (.bind (.tt (by simp) ev_awake) (.to (.pure _) (by simp))))))))))))))
end Go.Proofs.YtegiadfbniamkaaDoor.Eq
