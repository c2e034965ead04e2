/- What the functions of this law compute, part 1. -/
import Derived.Test.YtognnibmcifjeaaGreatDoorRaEq
import Derived.Lib.Strings
import Derived.Lib.ItoaNum
import Derived.Lib.Repeat
import Derived.Lib.IndexBytes
import Derived.Lib.Replace
import Derived.Lib.Atoi
namespace Go.Ra
open Go Go.Ra

theorem eqS_iff (a b : ByteArray) : eqS a b = true ↔ a = b := by
  unfold eqS
  rw [beq_iff_eq, Lib.toList_data, Lib.toList_data]
  constructor
  · intro h
    rw [← Lib.mk_data a, ← Lib.mk_data b, h]
  · intro h
    rw [h]
theorem eqS_self (a : ByteArray) : eqS a a = true := (eqS_iff a a).2 rfl
theorem eqS_ne {a b : ByteArray} (h : a ≠ b) : eqS a b = false := by
  cases he : eqS a b with
  | false => rfl
  | true => exact absurd ((eqS_iff a b).1 he) h

theorem bor' {p q : Bool} (h : p = true → q = true) : ((!p) || q) = true := by
  cases p
  · rfl
  · simp [h rfl]

theorem bt_at {s : ByteArray} {i : Nat} (h : i < s.size) : bt s (i : Int) = (((s.data.toList.getD i 0).toNat : Nat) : Int) := by
  unfold bt
  rw [dif_pos (by simpa using h)]
  have h' : i < s.data.toList.length := by rw [← Lib.size_eq]; exact h
  simp [List.getD_eq_getElem?_getD, List.getElem?_eq_getElem h', ByteArray.getElem_eq_getElem_data]


/-! ### strings and lists of bytes -/
abbrev L (s : ByteArray) : List UInt8 := s.data.toList
def B (l : List UInt8) : ByteArray := ⟨l.toArray⟩
theorem L_B (l : List UInt8) : L (B l) = l := rfl
theorem B_L (s : ByteArray) : B (L s) = s := Lib.mk_data s
theorem L_app (a b : ByteArray) : L (a ++ b) = L a ++ L b := by
  simp [L, ByteArray.data_append]
theorem B_app (a b : List UInt8) : B a ++ B b = B (a ++ b) := by rw [← B_L (B a ++ B b), L_app, L_B, L_B]
theorem size_L (s : ByteArray) : s.size = (L s).length := Lib.size_eq s
theorem size_B (l : List UInt8) : (B l).size = l.length := by rw [size_L, L_B]
theorem L_ext (s : ByteArray) (i j : Nat) : L (s.extract i j) = ((L s).take j).drop i := by
  rw [List.drop_take]
  show (s.extract i j).data.toList = _
  rw [ByteArray.data_extract, Array.toList_extract]
theorem B_ext (l : List UInt8) (i j : Nat) : (B l).extract i j = B ((l.take j).drop i) := by rw [← B_L ((B l).extract i j), L_ext, L_B]
theorem L_inj {a b : ByteArray} (h : L a = L b) : a = b := by rw [← B_L a, h, B_L]
theorem eqS_L (a b : ByteArray) : eqS a b = decide (L a = L b) := by
  by_cases h : a = b
  · subst h; simp [eqS_self]
  · rw [eqS_ne h]
    simp only [Bool.false_eq, decide_eq_false_iff_not]
    exact fun z => h (L_inj z)
theorem L_bs_nil : L (bs []) = [] := rfl
theorem bt_B {l : List UInt8} {i : Nat} (h : i < l.length) : bt (B l) (i : Int) = (((l.getD i 0).toNat : Nat) : Int) := bt_at (by rw [size_B]; exact h)
end Go.Ra
namespace Go.Proofs.YtognnibmcifjeaaGreatDoor.Eq
open Go Go.Ra
theorem awake_at (k : Nat) : interchangelaw1_awake (k + 40) = some true := by kernel_rfl
theorem ev_awake : Ev (fun k => interchangelaw1_awake k) true := .off (n := 40) awake_at
end Go.Proofs.YtognnibmcifjeaaGreatDoor.Eq
namespace Go.Ra
open Go Go.Ra
/-- 1 in a year with a 29th of February. -/
def lp (y : Int) : Int := if y % 4 = 0 ∧ (y % 100 ≠ 0 ∨ y % 400 = 0) then 1 else 0
/-- The days of a month. -/
def dom (y : Int) (m : Nat) : Int := if m = 2 then 28 + lp y else if m = 4 ∨ m = 6 ∨ m = 9 ∨ m = 11 then 30 else 31
/-- The days before a year. -/
def bef (y : Int) : Int := 365 * (y - 1) + (y - 1) / 4 - (y - 1) / 100 + (y - 1) / 400
/-- The days of the first months. -/
def cum (y : Int) : Nat → Int
  | 0 => 0
  | j + 1 => cum y j + dom y (j + 1)
theorem lp_01 (y : Int) : lp y = 0 ∨ lp y = 1 := by unfold lp; split <;> simp
theorem bef_succ (y : Int) : bef (y + 1) = bef y + 365 + lp y := by
  unfold bef lp
  split <;> omega
theorem dom_pos (y : Int) (m : Nat) : 28 ≤ dom y m ∧ dom y m ≤ 31 := by
  have := lp_01 y
  unfold dom
  split
  · omega
  · split <;> omega
theorem cum_year (y : Int) : cum y 12 = 365 + lp y := by
  simp [cum, dom]
  omega
theorem cum_le {y : Int} {i j : Nat} (h : i ≤ j) : cum y i ≤ cum y j := by
  induction j with
  | zero =>
    have : i = 0 := by omega
    subst this
    exact Int.le_refl _
  | succ j ih =>
    by_cases e : i = j + 1
    · rw [e]; exact Int.le_refl _
    · have := ih (by omega)
      have := dom_pos y (j + 1)
      simp only [cum]
      omega
theorem cum_nonneg (y : Int) (j : Nat) : 0 ≤ cum y j := cum_le (y := y) (Nat.zero_le j)
/-- A date. -/
structure Dt where
  y : Int
  m : Nat
  d : Int
structure Dt.Ok (t : Dt) : Prop where
  y1 : 1 ≤ t.y
  y2 : t.y ≤ 9999
  m1 : 1 ≤ t.m
  m2 : t.m ≤ 12
  d1 : 1 ≤ t.d
  d2 : t.d ≤ dom t.y t.m
def Dt.n (t : Dt) : Int := bef t.y + cum t.y (t.m - 1) + t.d
theorem Dt.Ok.in_year {t : Dt} (h : t.Ok) : bef t.y < t.n ∧ t.n ≤ bef (t.y + 1) := by
  have h1 := cum_nonneg t.y (t.m - 1)
  have h2 : cum t.y (t.m - 1) + dom t.y t.m ≤ cum t.y 12 := by
    have e : cum t.y (t.m - 1) + dom t.y t.m = cum t.y (t.m - 1 + 1) := by
      simp only [cum]
      rw [Nat.sub_add_cancel h.m1]
    rw [e]
    exact cum_le (by have := h.m1; have := h.m2; omega)
  have := cum_year t.y
  have := bef_succ t.y
  have := h.d1
  have := h.d2
  unfold Dt.n
  omega
theorem bef_mono {a b : Int} (h : a ≤ b) : bef a ≤ bef b := by
  unfold bef
  omega
theorem Dt.Ok.bound {t : Dt} (h : t.Ok) : 1 ≤ t.n ∧ t.n ≤ 3652059 := by
  have := h.in_year
  have h1 := bef_mono (a := 1) (b := t.y) h.y1
  have h2 := bef_mono (a := t.y + 1) (b := 10000) (by have := h.y2; omega)
  have e1 : bef 1 = 0 := by decide
  have e2 : bef 10000 = 3652059 := by decide
  omega
theorem Dt.inj {t u : Dt} (h : t.Ok) (k : u.Ok) (e : t.n = u.n) : t = u := by
  have h1 := h.in_year
  have k1 := k.in_year
  have ey : t.y = u.y := by
    rcases Int.lt_trichotomy t.y u.y with z | z | z
    · have := bef_mono (a := t.y + 1) (b := u.y) (by omega)
      omega
    · exact z
    · have := bef_mono (a := u.y + 1) (b := t.y) (by omega)
      omega
  have hm : ∀ {a b : Dt}, a.Ok → b.Ok → a.y = b.y → a.n = b.n → ¬ a.m < b.m := by
    intro a b ha hb e1 e2 z
    have q : cum a.y (a.m - 1) + dom a.y a.m = cum a.y (a.m - 1 + 1) := by
      simp only [cum]
      rw [Nat.sub_add_cancel ha.m1]
    have q2 : cum a.y (a.m - 1 + 1) ≤ cum a.y (b.m - 1) := cum_le (by have := ha.m1; omega)
    have := ha.d2
    have := hb.d1
    unfold Dt.n at e2
    rw [← e1] at e2
    omega
  have em : t.m = u.m := by
    have a := hm h k ey e
    have b := hm k h ey.symm e.symm
    omega
  have ed : t.d = u.d := by
    unfold Dt.n at e
    rw [ey, em] at e
    omega
  cases t; cases u
  simp_all
/-- Each number is that of a date. -/
theorem Dt.ex {n : Int} (h1 : 1 ≤ n) (h2 : n ≤ 3652059) : ∃ t : Dt, t.Ok ∧ t.n = n := by
  have year : ∀ (m : Nat) (y : Int), 10000 - y = m → 1 ≤ y → y ≤ 10000 → bef y < n → ∃ z, 1 ≤ z ∧ z ≤ 9999 ∧ bef z < n ∧ n ≤ bef (z + 1) := by
    intro m
    induction m with
    | zero =>
      intro y hm h3 h4 h5
      have : y = 10000 := by omega
      subst this
      have : bef 10000 = 3652059 := by decide
      omega
    | succ m ih =>
      intro y hm h3 h4 h5
      by_cases h : n ≤ bef (y + 1)
      · exact ⟨y, h3, by omega, h5, h⟩
      · exact ih (y + 1) (by omega) (by omega) (by omega) (by omega)
  have hz : bef 1 = 0 := by decide
  obtain ⟨y, y1, y2, y3, y4⟩ := year 9999 1 (by decide) (by decide) (by decide) (by omega)
  have month : ∀ (k j : Nat), 12 - j = k → j ≤ 12 → cum y j < n - bef y → ∃ m, m < 12 ∧ cum y m < n - bef y ∧ n - bef y ≤ cum y (m + 1) := by
    intro k
    induction k with
    | zero =>
      intro j hk hj hc
      have : j = 12 := by omega
      subst this
      have := cum_year y
      have := bef_succ y
      omega
    | succ k ih =>
      intro j hk hj hc
      by_cases h : n - bef y ≤ cum y (j + 1)
      · exact ⟨j, by omega, hc, h⟩
      · exact ih (j + 1) (by omega) (by omega) (by omega)
  obtain ⟨m, m1, m2, m3⟩ := month 12 0 rfl (by decide) (by simp only [cum]; omega)
  simp only [cum] at m3
  refine ⟨⟨y, m + 1, n - bef y - cum y m⟩, ⟨y1, y2, by simp, by simp; omega, by simp; omega, by simp; omega⟩, ?_⟩
  simp only [Dt.n, Nat.add_sub_cancel]
  omega
end Go.Ra
namespace Go.Proofs.YtognnibmcifjeaaGreatDoor.Eq
open Go Go.Ra
set_option linter.unusedVariables false

theorem befW {y : Int} (h1 : 1 ≤ y) (h2 : y ≤ 100000) : wi64 ((wi64 ((wi64 ((wi64 (365 * (wi64 (y - 1)))) + (wi64 ((wi64 (y - 1)).tdiv 4)))) - (wi64 ((wi64 (y - 1)).tdiv 100)))) + (wi64 ((wi64 (y - 1)).tdiv 400))) = bef y := by
  have e0 : wi64 (y - 1) = y - 1 := wi64_id (by omega) (by omega)
  have d1 : (y - 1).tdiv 4 = (y - 1) / 4 := Int.tdiv_eq_ediv_of_nonneg (by omega)
  have d2 : (y - 1).tdiv 100 = (y - 1) / 100 := Int.tdiv_eq_ediv_of_nonneg (by omega)
  have d3 : (y - 1).tdiv 400 = (y - 1) / 400 := Int.tdiv_eq_ediv_of_nonneg (by omega)
  rw [e0, d1, d2, d3]
  rw [wi64_id (x := 365 * (y - 1)) (by omega) (by omega), wi64_id (x := (y - 1) / 4) (by omega) (by omega), wi64_id (x := (y - 1) / 100) (by omega) (by omega), wi64_id (x := (y - 1) / 400) (by omega) (by omega)]
  rw [wi64_id (x := 365 * (y - 1) + (y - 1) / 4) (by omega) (by omega), wi64_id (x := 365 * (y - 1) + (y - 1) / 4 - (y - 1) / 100) (by omega) (by omega)]
  exact wi64_id (by omega) (by omega)
theorem ev_abefore {y : Int} (h1 : 1 ≤ y) (h2 : y ≤ 100000) : Ev (fun k => amount_before k y) (bef y) := .step (fun k => amount_before_eq k _) (.to (.pure _) (befW h1 h2))
theorem ev_rbefore {y : Int} (h1 : 1 ≤ y) (h2 : y ≤ 100000) : Ev (fun k => interchangeref1_before k y) (bef y) := .step (fun k => interchangeref1_before_eq k _) (.to (.pure _) (befW h1 h2))
theorem bef_small {y : Int} (h1 : 1 ≤ y) (h2 : y ≤ 100000) : 0 ≤ bef y ∧ bef y ≤ 36600000 := by
  unfold bef
  omega

theorem tmod4 {y : Int} (h : 0 ≤ y) (b : Int) : y.tmod b = y % b := Int.tmod_eq_emod_of_nonneg h
theorem ev_aLeap {y : Int} (h : 0 ≤ y) : Ev (fun k => amount_isLeap k y) (decide (lp y = 1)) := by
  refine .step (fun k => amount_isLeap_eq k _) (.tt (by simp) (.tt (by simp) (.to (.pure _) ?_)))
  simp only [tmod4 h]
  unfold lp
  by_cases a : y % 4 = 0 <;> by_cases b : y % 100 = 0 <;> by_cases c : y % 400 = 0 <;> simp [a, b, c]
theorem ev_rLong {y : Int} (h : 0 ≤ y) : Ev (fun k => interchangeref1_isLong k y) (decide (lp y = 1)) := by
  refine .step (fun k => interchangeref1_isLong_eq k _) (.tt (by simp) (.tt (by simp) (.to (.pure _) ?_)))
  simp only [tmod4 h]
  unfold lp
  by_cases a : y % 4 = 0 <;> by_cases b : y % 100 = 0 <;> by_cases c : y % 400 = 0 <;> simp [a, b, c] <;> omega
theorem dom_tab (y : Int) {m : Nat} (h1 : 1 ≤ m) (h2 : m ≤ 12) (h : ¬ (m = 2 ∧ lp y = 1)) : [31, 28, 31, 30, 31, 30, 31, 31, 30, 31, 30, (31 : Int)].getD (m - 1) 0 = dom y m := by
  have := lp_01 y
  obtain rfl | rfl | rfl | rfl | rfl | rfl | rfl | rfl | rfl | rfl | rfl | rfl : m = 1 ∨ m = 2 ∨ m = 3 ∨ m = 4 ∨ m = 5 ∨ m = 6 ∨ m = 7 ∨ m = 8 ∨ m = 9 ∨ m = 10 ∨ m = 11 ∨ m = 12 := by omega
  all_goals simp [dom]
  all_goals omega
theorem ev_adom {y : Int} (hy : 0 ≤ y) {m : Nat} (h1 : 1 ≤ m) (h2 : m ≤ 12) : Ev (fun k => amount_daysOf k y (m : Int)) (dom y m) := by
  refine .step (fun k => amount_daysOf_eq k _ _) ?_
  have hw : wi64 ((m : Int) - 1) = ((m - 1 : Nat) : Int) := by rw [wi64_id (by omega) (by omega)]; omega
  have rest : ¬ (m = 2 ∧ lp y = 1) → Ev (fun k => cond (decide (0 ≤ (wi64 ((m : Int) - 1)))) (cond (decide ((wi64 ((m : Int) - 1)) < 12)) (some ([31, 28, 31, 30, 31, 30, 31, 31, 30, 31, 30, (31 : Int)].getD (wi64 ((m : Int) - 1)).toNat 0)) none) none) (dom y m) := fun h => by
    rw [hw]
    refine .ck (by omega) (.ck (by omega) (.to (.pure _) ?_))
    rw [Int.toNat_natCast]
    exact dom_tab y h1 h2 h
  by_cases hm : m = 2
  · subst hm
    refine .bind (.tt rfl (ev_aLeap hy)) ?_
    by_cases hl : lp y = 1
    · refine .tt (by simp [hl]) (.to (.pure _) ?_)
      simp [dom, hl]
    · exact .ff (by simp [hl]) (rest fun z => hl z.2)
  · have hb : ((m : Int) == 2) = false := by simpa using (by omega : ¬ (m : Int) = 2)
    exact .bind (x := false) (.ff hb (.pure _)) (.ff (by simp) (rest fun z => hm z.1))
theorem ev_rdom {y : Int} (hy : 0 ≤ y) {m : Nat} (h1 : 1 ≤ m) (h2 : m ≤ 12) : Ev (fun k => interchangeref1_daysOf k y (m : Int)) (dom y m) := by
  refine .step (fun k => interchangeref1_daysOf_eq k _ _) ?_
  have := lp_01 y
  obtain rfl | rfl | rfl | rfl | rfl | rfl | rfl | rfl | rfl | rfl | rfl | rfl : m = 1 ∨ m = 2 ∨ m = 3 ∨ m = 4 ∨ m = 5 ∨ m = 6 ∨ m = 7 ∨ m = 8 ∨ m = 9 ∨ m = 10 ∨ m = 11 ∨ m = 12 := by omega
  case inr.inl =>
    refine .tt rfl (.bind (ev_rLong hy) ?_)
    by_cases hl : lp y = 1
    · refine .tt (by simp [hl]) (.to (.pure _) ?_)
      simp [dom, hl]
    · refine .ff (by simp [hl]) (.to (.pure _) ?_)
      have : lp y = 0 := by omega
      simp [dom, this]
  all_goals exact .to (.pure _) (by simp [dom])

/-! ### the number of a date -/
theorem ev_aday_c5 {y : Int} (hy : 0 ≤ y) : ∀ (n m : Nat) (M : Nat) (s : Int), M - m = n → 1 ≤ m → m ≤ M → M ≤ 12 → -100000000 ≤ s → s + cum y 12 ≤ 100000000 + cum y (m - 1) → Ev (fun k => amount_dayOf_c5 k y (M : Int) s (m : Int)) (s + cum y (M - 1) - cum y (m - 1), true) := by
  intro n
  induction n with
  | zero =>
    intro m M s hn h1 h2 h3 _ _
    have : m = M := by omega
    subst this
    refine .step (fun k => amount_dayOf_c5_eq k _ _ _ _) (.nk (by omega) (.to (.pure _) ?_))
    congr 1
    omega
  | succ n ih =>
    intro m M s hn h1 h2 h3 hs hs2
    refine .step (fun k => amount_dayOf_c5_eq k _ _ _ _) (.ck (by omega) (.bind (ev_adom hy h1 (by omega)) ?_))
    have hd := dom_pos y m
    have e : cum y (m + 1 - 1) = cum y (m - 1) + dom y m := by
      obtain ⟨j, rfl⟩ : ∃ j, m = j + 1 := ⟨m - 1, by omega⟩
      simp only [cum, Nat.add_sub_cancel]
    have hl : cum y (m + 1 - 1) ≤ cum y 12 := cum_le (by omega)
    rw [wi64_id (x := s + dom y m) (by omega) (by omega), show wi64 ((m : Int) + 1) = ((m + 1 : Nat) : Int) by rw [wi64_id (by omega) (by omega)]; rfl]
    refine (ih (m + 1) M (s + dom y m) (by omega) (by omega) (by omega) h3 (by omega) (by omega)).to ?_
    rw [e]
    congr 1
    omega
theorem ev_rday_c3 {y : Int} (hy : 0 ≤ y) : ∀ (n m : Nat) (M : Nat) (s : Int), M - m = n → 1 ≤ m → m ≤ M → M ≤ 12 → -100000000 ≤ s → s + cum y 12 ≤ 100000000 + cum y (m - 1) → Ev (fun k => interchangeref1_dayOf_c3 k y (M : Int) s (m : Int)) (s + cum y (M - 1) - cum y (m - 1)) := by
  intro n
  induction n with
  | zero =>
    intro m M s hn h1 h2 h3 _ _
    have : m = M := by omega
    subst this
    refine .step (fun k => interchangeref1_dayOf_c3_eq k _ _ _ _) (.nk (by omega) (.to (.pure _) ?_))
    omega
  | succ n ih =>
    intro m M s hn h1 h2 h3 hs hs2
    refine .step (fun k => interchangeref1_dayOf_c3_eq k _ _ _ _) (.ck (by omega) (.bind (ev_rdom hy h1 (by omega)) ?_))
    have hd := dom_pos y m
    have e : cum y (m + 1 - 1) = cum y (m - 1) + dom y m := by
      obtain ⟨j, rfl⟩ : ∃ j, m = j + 1 := ⟨m - 1, by omega⟩
      simp only [cum, Nat.add_sub_cancel]
    have hl : cum y (m + 1 - 1) ≤ cum y 12 := cum_le (by omega)
    rw [wi64_id (x := s + dom y m) (by omega) (by omega), show wi64 ((m : Int) + 1) = ((m + 1 : Nat) : Int) by rw [wi64_id (by omega) (by omega)]; rfl]
    refine (ih (m + 1) M (s + dom y m) (by omega) (by omega) (by omega) h3 (by omega) (by omega)).to ?_
    rw [e]
    omega

theorem ev_rdayOf {t : Dt} (h : t.Ok) : Ev (fun k => interchangeref1_dayOf k t.y (t.m : Int) t.d) t.n := by
  have y1 := h.y1
  have y2 := h.y2
  have hb := bef_small (y := t.y) (by omega) (by omega)
  have hd := dom_pos t.y t.m
  have d1 := h.d1
  have d2 := h.d2
  have hc := cum_year t.y
  have hl := lp_01 t.y
  refine .step (fun k => interchangeref1_dayOf_eq k _ _ _) (.bind (ev_rbefore (by omega) (by omega)) ?_)
  rw [wi64_id (by omega) (by omega)]
  refine (ev_rday_c3 (by omega) _ 1 t.m _ rfl (by omega) h.m1 h.m2 (by omega) (by show _ + cum t.y 12 ≤ 100000000 + cum t.y 0; have c0 : cum t.y 0 = 0 := rfl; omega)).to ?_
  simp only [cum, Dt.n, Nat.sub_self]
  omega

/-- What DayOf computes. -/
def okDt (a b c : Int) : Prop := 1 ≤ a ∧ a ≤ 9999 ∧ 1 ≤ b ∧ b ≤ 12 ∧ 1 ≤ c ∧ c ≤ dom a b.toNat
instance (a b c : Int) : Decidable (okDt a b c) := by unfold okDt; infer_instance
theorem okDt_ok {a b c : Int} (h : okDt a b c) : (⟨a, b.toNat, c⟩ : Dt).Ok := by
  unfold okDt at h
  exact ⟨h.1, h.2.1, by simp; omega, by simp; omega, h.2.2.2.2.1, h.2.2.2.2.2⟩
theorem Dt.Ok.is {t : Dt} (h : t.Ok) : okDt t.y (t.m : Int) t.d := by
  refine ⟨h.y1, h.y2, ?_, ?_, h.d1, ?_⟩
  · have := h.m1; omega
  · have := h.m2; omega
  · rw [Int.toNat_natCast]; exact h.d2
theorem ev_Outside' (a b c : Int) : Ev (fun k => kit_Outside k a b c) (decide (a < b ∨ a > c)) := by
  refine .step (fun k => kit_Outside_eq k a b c) (.to (.pure _) ?_)
  by_cases h : a < b <;> simp [h]
theorem ev_within' (a b c : Int) : Ev (fun k => interchangeref1_within k a b c) (decide (b ≤ a ∧ a ≤ c)) := by
  refine .step (fun k => interchangeref1_within_eq k a b c) (.to (.pure _) ?_)
  by_cases h : b ≤ a <;> simp [h]
theorem ev_adayOf (a b c : Int) : Ev (fun k => amount_dayOf k a b c) (if okDt a b c then ((⟨a, b.toNat, c⟩ : Dt).n, true) else (0, false)) := by
  refine .step (fun k => amount_dayOf_eq k _ _ _) (.bind (ev_Outside' _ _ _) ?_)
  by_cases h1 : a < 1 ∨ a > 9999
  · rw [decide_eq_true h1, if_neg (by unfold okDt; omega)]
    exact .bind (x := false) (.ff rfl (.pure _)) (.bind (x := 0) (.ff rfl (.pure _)) (.bind (x := false) (.ff rfl (.pure _)) (.tt rfl (.pure _))))
  · rw [decide_eq_false h1]
    refine .bind (.tt rfl (ev_Outside' _ _ _)) ?_
    by_cases h2 : b < 1 ∨ b > 12
    · rw [decide_eq_true h2, if_neg (by unfold okDt; omega)]
      exact .bind (x := 0) (.ff rfl (.pure _)) (.bind (x := false) (.ff rfl (.pure _)) (.tt rfl (.pure _)))
    · rw [decide_eq_false h2]
      obtain ⟨m, rfl⟩ : ∃ m : Nat, b = m := ⟨b.toNat, by omega⟩
      refine .bind (.tt rfl (ev_adom (by omega) (by omega) (by omega))) (.bind (.tt rfl (ev_Outside' _ _ _)) ?_)
      by_cases h3 : c < 1 ∨ c > dom a m
      · rw [decide_eq_true h3, if_neg (by unfold okDt; rw [Int.toNat_natCast]; omega)]
        exact .tt rfl (.pure _)
      · rw [decide_eq_false h3, if_pos (by unfold okDt; rw [Int.toNat_natCast]; omega)]
        have hb := bef_small (y := a) (by omega) (by omega)
        have hd := dom_pos a m
        have hc := cum_year a
        have hl := lp_01 a
        refine .ff rfl (.bind (ev_abefore (by omega) (by omega)) ?_)
        rw [wi64_id (x := bef a + c) (by omega) (by omega)]
        refine (ev_aday_c5 (by omega) _ 1 m _ rfl (by omega) (by omega) (by omega) (by omega) (by show _ + cum a 12 ≤ 100000000 + cum a 0; have c0 : cum a 0 = 0 := rfl; omega)).to ?_
        simp only [cum, Dt.n, Nat.sub_self, Int.toNat_natCast]
        congr 1
        omega
theorem ev_rDayOf (a b c : Int) : Ev (fun k => interchangeref1_DayOf k a b c) (if okDt a b c then ((⟨a, b.toNat, c⟩ : Dt).n, 0) else (0, 1)) := by
  refine .step (fun k => interchangeref1_DayOf_eq k _ _ _) (.bind (ev_within' _ _ _) ?_)
  by_cases h1 : 1 ≤ a ∧ a ≤ 9999
  · rw [decide_eq_true h1]
    refine .bind (.tt rfl (ev_within' _ _ _)) ?_
    by_cases h2 : 1 ≤ b ∧ b ≤ 12
    · rw [decide_eq_true h2]
      obtain ⟨m, rfl⟩ : ∃ m : Nat, b = m := ⟨b.toNat, by omega⟩
      refine .bind (.tt rfl (ev_rdom (by omega) (by omega) (by omega))) (.bind (.tt rfl (ev_within' _ _ _)) ?_)
      by_cases h3 : 1 ≤ c ∧ c ≤ dom a m
      · have hok : okDt a m c := by unfold okDt; rw [Int.toNat_natCast]; omega
        rw [decide_eq_true h3, if_pos hok]
        have := ev_rdayOf (okDt_ok hok)
        simp only [Int.toNat_natCast] at this ⊢
        exact .ff rfl (.bind this (.pure _))
      · rw [decide_eq_false h3, if_neg (by unfold okDt; rw [Int.toNat_natCast]; omega)]
        exact .tt rfl (.pure _)
    · rw [decide_eq_false h2, if_neg (by unfold okDt; omega)]
      exact .bind (x := 0) (.ff rfl (.pure _)) (.bind (x := false) (.ff rfl (.pure _)) (.tt rfl (.pure _)))
  · rw [decide_eq_false h1, if_neg (by unfold okDt; omega)]
    exact .bind (x := false) (.ff rfl (.pure _)) (.bind (x := 0) (.ff rfl (.pure _)) (.bind (x := false) (.ff rfl (.pure _)) (.tt rfl (.pure _))))

/-! ### the date of a number -/
theorem ev_adate_c5 {t : Dt} (h : t.Ok) : ∀ (k m : Nat), t.m - m = k → 1 ≤ m → m ≤ t.m → Ev (fun q => amount_dateOf_c5 q t.y (m : Int) (t.n - bef t.y - cum t.y (m - 1))) (t.y, ((t.m : Int), t.d)) := by
  have y1 := h.y1
  have y2 := h.y2
  have m2 := h.m2
  have d1 := h.d1
  have d2 := h.d2
  have hb := bef_small (y := t.y) (by omega) (by omega)
  have hn := h.bound
  intro k
  induction k with
  | zero =>
    intro m hk h1 h2
    have : m = t.m := by omega
    subst this
    have e : t.n - bef t.y - cum t.y (t.m - 1) = t.d := by unfold Dt.n; omega
    rw [e]
    exact .step (fun q => amount_dateOf_c5_eq q _ _ _) (.bind (ev_adom (by omega) h1 m2) (.nk (by omega) (.pure _)))
  | succ k ih =>
    intro m hk h1 h2
    have e : cum t.y (m + 1 - 1) = cum t.y (m - 1) + dom t.y m := by
      obtain ⟨j, rfl⟩ : ∃ j, m = j + 1 := ⟨m - 1, by omega⟩
      simp only [cum, Nat.add_sub_cancel]
    have hl : cum t.y (m + 1 - 1) ≤ cum t.y (t.m - 1) := cum_le (by omega)
    have hd := dom_pos t.y m
    have hc0 := cum_nonneg t.y (m - 1)
    have hn' : t.n = bef t.y + cum t.y (t.m - 1) + t.d := rfl
    refine .step (fun q => amount_dateOf_c5_eq q _ _ _) (.bind (ev_adom (by omega) h1 (by omega)) (.ck (by omega) (.bind (ev_adom (by omega) h1 (by omega)) ?_)))
    rw [show wi64 ((m : Int) + 1) = ((m + 1 : Nat) : Int) by rw [wi64_id (by omega) (by omega)]; rfl, wi64_id (by omega) (by omega)]
    have := ih (m + 1) (by omega) (by omega) (by omega)
    rw [e] at this
    rw [show t.n - bef t.y - cum t.y (m - 1) - dom t.y m = t.n - bef t.y - (cum t.y (m - 1) + dom t.y m) by omega]
    exact this
theorem ev_rdate_c6 {t : Dt} (h : t.Ok) : ∀ (k m : Nat), t.m - m = k → 1 ≤ m → m ≤ t.m → Ev (fun q => interchangeref1_dateOf_c6 q t.y (m : Int) (t.n - bef t.y - cum t.y (m - 1))) (t.y, ((t.m : Int), t.d)) := by
  have y1 := h.y1
  have y2 := h.y2
  have m2 := h.m2
  have d1 := h.d1
  have d2 := h.d2
  have hb := bef_small (y := t.y) (by omega) (by omega)
  have hn := h.bound
  intro k
  induction k with
  | zero =>
    intro m hk h1 h2
    have : m = t.m := by omega
    subst this
    have e : t.n - bef t.y - cum t.y (t.m - 1) = t.d := by unfold Dt.n; omega
    rw [e]
    exact .step (fun q => interchangeref1_dateOf_c6_eq q _ _ _) (.bind (ev_rdom (by omega) h1 m2) (.nk (by omega) (.pure _)))
  | succ k ih =>
    intro m hk h1 h2
    have e : cum t.y (m + 1 - 1) = cum t.y (m - 1) + dom t.y m := by
      obtain ⟨j, rfl⟩ : ∃ j, m = j + 1 := ⟨m - 1, by omega⟩
      simp only [cum, Nat.add_sub_cancel]
    have hl : cum t.y (m + 1 - 1) ≤ cum t.y (t.m - 1) := cum_le (by omega)
    have hd := dom_pos t.y m
    have hc0 := cum_nonneg t.y (m - 1)
    have hn' : t.n = bef t.y + cum t.y (t.m - 1) + t.d := rfl
    refine .step (fun q => interchangeref1_dateOf_c6_eq q _ _ _) (.bind (ev_rdom (by omega) h1 (by omega)) (.ck (by omega) (.bind (ev_rdom (by omega) h1 (by omega)) ?_)))
    rw [show wi64 ((m : Int) + 1) = ((m + 1 : Nat) : Int) by rw [wi64_id (by omega) (by omega)]; rfl, wi64_id (by omega) (by omega)]
    have := ih (m + 1) (by omega) (by omega) (by omega)
    rw [e] at this
    rw [show t.n - bef t.y - cum t.y (m - 1) - dom t.y m = t.n - bef t.y - (cum t.y (m - 1) + dom t.y m) by omega]
    exact this
/-- A year from which on is looked. -/
theorem year_start {t : Dt} (h : t.Ok) : 1 ≤ t.n / 366 + 1 ∧ t.n / 366 + 1 ≤ t.y := by
  have hn := h.bound
  have hi := h.in_year
  refine ⟨by omega, ?_⟩
  refine Classical.byContradiction fun z => ?_
  have := bef_mono (a := t.y + 1) (b := t.n / 366 + 1) (by omega)
  have e : bef (t.n / 366 + 1) < t.n := by
    unfold bef
    omega
  omega
theorem ev_adateOf {t : Dt} (h : t.Ok) : Ev (fun q => amount_dateOf q t.n) (t.y, ((t.m : Int), t.d)) := by
  have y1 := h.y1
  have y2 := h.y2
  have hn := h.bound
  have hi := h.in_year
  have hs := year_start h
  have key : ∀ (k : Nat) (y : Int), t.y - y = k → 1 ≤ y → y ≤ t.y → Ev (fun q => amount_dateOf_c2 q t.n y) (t.y, ((t.m : Int), t.d)) := by
    intro k
    induction k with
    | zero =>
      intro y hk h1 h2
      have : y = t.y := by omega
      subst this
      refine .step (fun q => amount_dateOf_c2_eq q _ _) ?_
      have fin : Ev (fun q => (amount_before q t.y).bind fun y1 => amount_dateOf_c5 q t.y 1 (wi64 (t.n - y1))) (t.y, ((t.m : Int), t.d)) := by
        refine .bind (ev_abefore (by omega) (by omega)) ?_
        have hb := bef_small (y := t.y) (by omega) (by omega)
        rw [wi64_id (by omega) (by omega)]
        have := ev_adate_c5 h _ 1 rfl (by omega) h.m1
        simpa [cum] using this
      by_cases hy : t.y < 9999
      · refine .bind (x := bef (t.y + 1)) (.ck hy ?_) ?_
        · rw [wi64_id (by omega) (by omega)]
          exact ev_abefore (by omega) (by omega)
        · rw [decide_eq_true hy]
          exact .ff (by simp; omega) fin
      · exact .bind (x := 0) (.nk hy (.pure _)) (.ff (by rw [decide_eq_false hy]; rfl) fin)
    | succ k ih =>
      intro y hk h1 h2
      have hb : bef (y + 1) < t.n := by
        have := bef_mono (a := y + 1) (b := t.y) (by omega)
        omega
      refine .step (fun q => amount_dateOf_c2_eq q _ _) (.bind (x := bef (y + 1)) (.ck (by omega) ?_) ?_)
      · rw [wi64_id (by omega) (by omega)]
        exact ev_abefore (by omega) (by omega)
      · refine .tt ?_ ?_
        · rw [decide_eq_true (show y < 9999 by omega)]
          simpa using hb
        · rw [wi64_id (by omega) (by omega)]
          exact ih (y + 1) (by omega) (by omega) (by omega)
  refine .step (fun q => amount_dateOf_eq q _) ?_
  rw [Int.tdiv_eq_ediv_of_nonneg (by omega), wi64_id (x := t.n / 366) (by omega) (by omega), wi64_id (by omega) (by omega)]
  obtain ⟨k, hk⟩ : ∃ k : Nat, t.y - (t.n / 366 + 1) = k := ⟨(t.y - (t.n / 366 + 1)).toNat, by omega⟩
  exact key k _ hk hs.1 hs.2
theorem ev_rdateOf {t : Dt} (h : t.Ok) : Ev (fun q => interchangeref1_dateOf q t.n) (t.y, ((t.m : Int), t.d)) := by
  have y1 := h.y1
  have y2 := h.y2
  have hn := h.bound
  have hi := h.in_year
  have hs := year_start h
  have key : ∀ (k : Nat) (y : Int), t.y - y = k → 1 ≤ y → y ≤ t.y → Ev (fun q => interchangeref1_dateOf_c2 q t.n y) (t.y, ((t.m : Int), t.d)) := by
    intro k
    induction k with
    | zero =>
      intro y hk h1 h2
      have : y = t.y := by omega
      subst this
      have hb := bef_small (y := t.y) (by omega) (by omega)
      refine .step (fun q => interchangeref1_dateOf_c2_eq q _ _) (.bind (x := bef (t.y + 1)) ?_ (.nk (by omega) (.bind (ev_rbefore (by omega) (by omega)) ?_)))
      · rw [wi64_id (by omega) (by omega)]
        exact ev_rbefore (by omega) (by omega)
      · rw [wi64_id (by omega) (by omega)]
        have := ev_rdate_c6 h _ 1 rfl (by omega) h.m1
        simpa [cum] using this
    | succ k ih =>
      intro y hk h1 h2
      have hb : bef (y + 1) < t.n := by
        have := bef_mono (a := y + 1) (b := t.y) (by omega)
        omega
      refine .step (fun q => interchangeref1_dateOf_c2_eq q _ _) (.bind (x := bef (y + 1)) ?_ (.ck (by omega) ?_))
      · rw [wi64_id (by omega) (by omega)]
        exact ev_rbefore (by omega) (by omega)
      · rw [wi64_id (by omega) (by omega)]
        exact ih (y + 1) (by omega) (by omega) (by omega)
  refine .step (fun q => interchangeref1_dateOf_eq q _) ?_
  rw [Int.tdiv_eq_ediv_of_nonneg (by omega), wi64_id (x := t.n / 366) (by omega) (by omega), wi64_id (by omega) (by omega)]
  obtain ⟨k, hk⟩ : ∃ k : Nat, t.y - (t.n / 366 + 1) = k := ⟨(t.y - (t.n / 366 + 1)).toNat, by omega⟩
  exact key k _ hk hs.1 hs.2
end Go.Proofs.YtognnibmcifjeaaGreatDoor.Eq
namespace Go.Ra
open Go Go.Ra
/-- The Thursday of a day's week. -/
def thu (n : Int) : Int := n - (n - 1) % 7 + 3
theorem thu_in {n : Int} (h1 : 1 ≤ n) (h2 : n ≤ 3652059) : 1 ≤ thu n ∧ thu n ≤ 3652059 := by
  have e : thu n = 7 * ((n - 1) / 7) + 4 := by unfold thu; omega
  rw [e]
  omega
/-- The week's number, of a day whose Thursday is in a year. -/
def wk (y n : Int) : Int := (thu n - bef y - 1) / 7 + 1
end Go.Ra
namespace Go.Proofs.YtognnibmcifjeaaGreatDoor.Eq
open Go Go.Ra
set_option linter.unusedVariables false

theorem ev_kIsDay (n : Int) : Ev (fun k => kit_IsDay k n) (decide (1 ≤ n ∧ n ≤ 3652059)) := by
  refine .step (fun k => kit_IsDay_eq k _) (.bind (ev_Outside' _ _ _) (.to (.pure _) ?_))
  by_cases h : 1 ≤ n ∧ n ≤ 3652059
  · rw [decide_eq_true h, decide_eq_false (by omega)]; rfl
  · rw [decide_eq_false h, decide_eq_true (by omega)]; rfl
theorem ev_WeekDay2 {n : Int} (h1 : 1 ≤ n) (h2 : n ≤ 3652059) : Ev (fun k => amount_WeekDay k n) ((n - 1) % 7) := by
  refine .step (fun k => amount_WeekDay_eq k _) (.to (.pure _) ?_)
  rw [wi64_id (by omega) (by omega), Int.tmod_eq_emod_of_nonneg (by omega)]
theorem wk_w {v : Dt} (hv : v.Ok) {n : Int} (h : v.n = thu n) : wi64 ((wi64 ((wi64 ((wi64 ((thu n) - bef v.y)) - 1)).tdiv 7)) + 1) = wk v.y n ∧ 1 ≤ wk v.y n ∧ wk v.y n ≤ 53 := by
  have hi := hv.in_year
  have hb := bef_succ v.y
  have hl := lp_01 v.y
  have hbs := bef_small (y := v.y) hv.y1 (by have := hv.y2; omega)
  rw [h] at hi
  unfold wk
  have e1 : wi64 (thu n - bef v.y) = thu n - bef v.y := wi64_id (by omega) (by omega)
  have e2 : wi64 (thu n - bef v.y - 1) = thu n - bef v.y - 1 := wi64_id (by omega) (by omega)
  rw [e1, e2, Int.tdiv_eq_ediv_of_nonneg (by omega)]
  refine ⟨?_, by omega, by omega⟩
  rw [wi64_id (x := (thu n - bef v.y - 1) / 7) (by omega) (by omega)]
  exact wi64_id (by omega) (by omega)
theorem ev_aweekOf {t v : Dt} (ht : t.Ok) (hv : v.Ok) (h : v.n = thu t.n) : Ev (fun k => amount_weekOf k t.n) (v.y, wk v.y t.n) := by
  have hn := ht.bound
  have ht3 := thu_in hn.1 hn.2
  refine .step (fun k => amount_weekOf_eq k _) (.bind (ev_WeekDay2 hn.1 hn.2) ?_)
  have e : wi64 (wi64 (t.n - (t.n - 1) % 7) + 3) = thu t.n := by
    unfold thu at *
    rw [wi64_id (x := t.n - (t.n - 1) % 7) (by omega) (by omega), wi64_id (by omega) (by omega)]
  rw [e]
  have hd := ev_adateOf hv
  rw [h] at hd
  refine .bind hd (.bind (ev_abefore hv.y1 (by have := hv.y2; omega)) (.to (.pure _) ?_))
  rw [(wk_w hv h).1]
theorem ev_rweekOf {t v : Dt} (ht : t.Ok) (hv : v.Ok) (h : v.n = thu t.n) : Ev (fun k => interchangeref1_weekOf k t.n) (v.y, (wk v.y t.n, (t.n - 1) % 7 + 1)) := by
  have hn := ht.bound
  have ht3 := thu_in hn.1 hn.2
  have e0 : wi64 ((wi64 (t.n - 1)).tmod 7 + 1) = (t.n - 1) % 7 + 1 := by
    rw [wi64_id (x := t.n - 1) (by omega) (by omega), Int.tmod_eq_emod_of_nonneg (by omega), wi64_id (by omega) (by omega)]
  have e : wi64 (wi64 (t.n - ((t.n - 1) % 7 + 1)) + 4) = thu t.n := by
    unfold thu at *
    rw [wi64_id (x := t.n - ((t.n - 1) % 7 + 1)) (by omega) (by omega), wi64_id (by omega) (by omega)]
    omega
  refine .step (fun k => interchangeref1_weekOf_eq k _) ?_
  rw [e0, e]
  have hd := ev_rdateOf hv
  rw [h] at hd
  refine .bind hd (.bind (ev_rbefore hv.y1 (by have := hv.y2; omega)) (.to (.pure _) ?_))
  rw [(wk_w hv h).1]

end Go.Proofs.YtognnibmcifjeaaGreatDoor.Eq
namespace Go.Ra
open Go Go.Ra
def dgB (b : UInt8) : Bool := decide (48 ≤ b.toNat) && decide (b.toNat ≤ 57)
/-- Digits, at least one. -/
def digB (l : List UInt8) : Bool := !l.isEmpty && l.all dgB
/-- The number that digits spell. -/
def dvA (a : Nat) : List UInt8 → Nat
  | [] => a
  | b :: l => dvA (a * 10 + (b.toNat - 48)) l
def dv (l : List UInt8) : Nat := dvA 0 l
theorem dvA_app (l m : List UInt8) : ∀ a, dvA a (l ++ m) = dvA (dvA a l) m := by
  induction l with
  | nil => intro a; rfl
  | cons b l ih => intro a; exact ih _
theorem dvA_eq (l : List UInt8) : ∀ a, dvA a l = a * 10 ^ l.length + dvA 0 l := by
  induction l with
  | nil =>
    intro a
    show a = a * 10 ^ 0 + 0
    rw [Nat.pow_zero, Nat.mul_one, Nat.add_zero]
  | cons b l ih =>
    intro a
    have h1 := ih (a * 10 + (b.toNat - 48))
    have h2 := ih (0 * 10 + (b.toNat - 48))
    show dvA (a * 10 + (b.toNat - 48)) l = a * 10 ^ (l.length + 1) + dvA (0 * 10 + (b.toNat - 48)) l
    rw [h1, h2, Nat.pow_succ]
    generalize 10 ^ l.length = p
    generalize dvA 0 l = D
    generalize b.toNat - 48 = d
    rw [Nat.add_mul, Nat.zero_mul, Nat.zero_add, Nat.mul_assoc a 10 p, Nat.mul_comm 10 p, Nat.add_assoc]
theorem dv_app (l m : List UInt8) : dv (l ++ m) = dv l * 10 ^ m.length + dv m := by
  unfold dv
  rw [dvA_app, dvA_eq m]
theorem dvA_ge (l : List UInt8) (a : Nat) : a ≤ dvA a l := by
  rw [dvA_eq]
  have : 1 ≤ 10 ^ l.length := Nat.one_le_pow _ _ (by decide)
  have := Nat.mul_le_mul_left a this
  omega
theorem dv_one (b : UInt8) : dv [b] = b.toNat - 48 := by
  show 0 * 10 + (b.toNat - 48) = b.toNat - 48
  omega
theorem dgB_iff {b : UInt8} : dgB b = true ↔ 48 ≤ b.toNat ∧ b.toNat ≤ 57 := by simp [dgB]
theorem dv_lt {l : List UInt8} (h : ∀ b ∈ l, dgB b = true) : dv l < 10 ^ l.length := by
  induction l with
  | nil =>
    show (0 : Nat) < 10 ^ 0
    rw [Nat.pow_zero]
    omega
  | cons b l ih =>
    have h1 := dgB_iff.1 (h b (by simp))
    have h2 := ih fun x hx => h x (by simp [hx])
    have e : dv (b :: l) = (b.toNat - 48) * 10 ^ l.length + dv l := by
      have := dv_app [b] l
      rw [dv_one] at this
      exact this
    rw [e, List.length_cons, Nat.pow_succ]
    have : (b.toNat - 48) * 10 ^ l.length ≤ 9 * 10 ^ l.length := Nat.mul_le_mul_right _ (by omega)
    omega
theorem take_succ' {l : List UInt8} {i : Nat} (h : i < l.length) : l.take (i + 1) = l.take i ++ [l.getD i 0] := by
  rw [List.take_add_one, List.getD_eq_getElem?_getD, List.getElem?_eq_getElem h]
  rfl
theorem digB_all {l : List UInt8} (h : digB l = true) : ∀ b ∈ l, dgB b = true := by
  unfold digB at h
  rw [Bool.and_eq_true] at h
  exact List.all_eq_true.1 h.2
theorem eqS_nil (s : ByteArray) : eqS s (bs []) = (L s).isEmpty := by
  rw [eqS_L, L_bs_nil]
  cases L s <;> simp
end Go.Ra
namespace Go.Proofs.YtognnibmcifjeaaGreatDoor.Eq
open Go Go.Ra
set_option linter.unusedVariables false

theorem wu8_dig {b : UInt8} (h : dgB b = true) : wi64 (wu8 (((b.toNat : Nat) : Int) - 48)) = ((b.toNat - 48 : Nat) : Int) := by
  have := dgB_iff.1 h
  rw [wu8_id (by omega) (by omega), wi64_id (by omega) (by omega)]
  omega
theorem ev_InBytes (s : ByteArray) (lo hi : Int) (hs : s.size < 1125899906842624) : Ev (fun k => kit_InBytes k s lo hi) ((L s).all fun b => decide (lo ≤ (b.toNat : Int)) && decide ((b.toNat : Int) ≤ hi)) := by
  refine .step (fun k => kit_InBytes_eq k _ _ _) ?_
  have hsz := size_L s
  have key : ∀ (m i : Nat), s.size - i = m → i ≤ s.size → Ev (fun k => kit_InBytes_c2 k s lo hi (s.size : Int) (i : Int)) (((L s).drop i).all fun b => decide (lo ≤ (b.toNat : Int)) && decide ((b.toNat : Int) ≤ hi)) := by
    intro m
    induction m with
    | zero =>
      intro i hm hi'
      refine .step (fun k => kit_InBytes_c2_eq k _ _ _ _ _) (.nk (by omega) (.to (.pure _) ?_))
      rw [List.drop_of_length_le (by omega)]
      rfl
    | succ m ih =>
      intro i hm hi'
      have hil : i < (L s).length := by omega
      have hd : (L s).drop i = (L s).getD i 0 :: (L s).drop (i + 1) := by
        rw [List.drop_eq_getElem_cons hil, List.getD_eq_getElem?_getD, List.getElem?_eq_getElem hil]
        rfl
      refine .step (fun k => kit_InBytes_c2_eq k _ _ _ _ _) (.ck (by omega) (.ck (by omega) (.ck (by omega) (.tt (bor' fun _ => by simp) (.tt (bor' fun _ => by simp; omega) ?_)))))
      rw [bt_at (by omega : i < s.size), hd, List.all_cons]
      generalize (L s).getD i 0 = b
      have hw : wi64 ((i : Int) + 1) = ((i + 1 : Nat) : Int) := by rw [wi64_id (by omega) (by omega)]; rfl
      by_cases h : lo ≤ (b.toNat : Int) ∧ (b.toNat : Int) ≤ hi
      · rw [decide_eq_true h.1, decide_eq_true h.2]
        refine .ff (by rw [decide_eq_false (by omega), decide_eq_false (by omega)]; rfl) ?_
        rw [hw]
        exact ih (i + 1) (by omega) (by omega)
      · refine .tt ?_ (.to (.pure _) ?_)
        · by_cases h1 : (b.toNat : Int) < lo
          · rw [decide_eq_true h1]; rfl
          · rw [decide_eq_false h1, decide_eq_true (by omega : (b.toNat : Int) > hi)]; rfl
        · have : (decide (lo ≤ (b.toNat : Int)) && decide ((b.toNat : Int) ≤ hi)) = false := by simpa using h
          rw [this]
          rfl
  have := key _ 0 rfl (by omega)
  simpa using this
theorem dgB_eq (b : UInt8) : (decide ((48 : Int) ≤ (b.toNat : Int)) && decide ((b.toNat : Int) ≤ 57)) = dgB b := by
  unfold dgB
  congr 1
  · exact decide_eq_decide.2 (by omega)
  · exact decide_eq_decide.2 (by omega)
theorem ev_kDig (s : ByteArray) (hs : s.size < 1125899906842624) : Ev (fun k => kit_IsDigits k s) (digB (L s)) := by
  refine .step (fun k => kit_IsDigits_eq k _) ?_
  rw [eqS_nil]
  unfold digB
  cases h : (L s).isEmpty with
  | true => exact .bind (x := false) (.ff rfl (.pure _)) (.pure _)
  | false =>
    refine .bind (.tt rfl (ev_InBytes s 48 57 hs)) (.to (.pure _) ?_)
    simp only [dgB_eq]
    rfl
theorem ev_rDig (s : ByteArray) (hs : s.size < 1125899906842624) : Ev (fun k => interchangeref1_isDigits k s) (digB (L s)) := by
  refine .step (fun k => interchangeref1_isDigits_eq k _) ?_
  rw [eqS_nil]
  unfold digB
  have hsz := size_L s
  cases h : (L s).isEmpty with
  | true => exact .tt rfl (.pure _)
  | false =>
    refine .ff rfl ?_
    have key : ∀ (m i : Nat), s.size - i = m → i ≤ s.size → Ev (fun k => interchangeref1_isDigits_c4 k s (s.size : Int) (i : Int)) (((L s).drop i).all dgB) := by
      intro m
      induction m with
      | zero =>
        intro i hm hi'
        refine .step (fun k => interchangeref1_isDigits_c4_eq k _ _ _) (.nk (by omega) (.to (.pure _) ?_))
        rw [List.drop_of_length_le (by omega)]
        rfl
      | succ m ih =>
        intro i hm hi'
        have hil : i < (L s).length := by omega
        have hd : (L s).drop i = (L s).getD i 0 :: (L s).drop (i + 1) := by
          rw [List.drop_eq_getElem_cons hil, List.getD_eq_getElem?_getD, List.getElem?_eq_getElem hil]
          rfl
        refine .step (fun k => interchangeref1_isDigits_c4_eq k _ _ _) (.ck (by omega) (.ck (by omega) (.ck (by omega) (.tt (bor' fun _ => by simp) (.tt (bor' fun _ => by simp; omega) ?_)))))
        rw [bt_at (by omega : i < s.size), hd, List.all_cons]
        generalize (L s).getD i 0 = b
        have hw : wi64 ((i : Int) + 1) = ((i + 1 : Nat) : Int) := by rw [wi64_id (by omega) (by omega)]; rfl
        cases hb : dgB b with
        | true =>
          have := dgB_iff.1 hb
          refine .ff (by rw [decide_eq_false (by omega), decide_eq_false (by omega)]; rfl) ?_
          rw [hw]
          exact ih (i + 1) (by omega) (by omega)
        | false =>
          refine .tt ?_ (.pure _)
          have : ¬ (48 ≤ b.toNat ∧ b.toNat ≤ 57) := fun z => by rw [dgB_iff.2 z] at hb; cases hb
          by_cases h1 : (b.toNat : Int) < 48
          · rw [decide_eq_true h1]; rfl
          · rw [decide_eq_false h1, decide_eq_true (by omega : (b.toNat : Int) > 57)]; rfl
    have := key _ 0 rfl (by omega)
    simpa using this

theorem ev_ofDigits (s : ByteArray) (hs : s.size ≤ 1000) (hd : ∀ b ∈ L s, dgB b = true) : Ev (fun k => interchangeref1_ofDigits k s) (if dv (L s) ≤ 1000000000000000 then ((dv (L s) : Int), true) else (0, false)) := by
  refine .step (fun k => interchangeref1_ofDigits_eq k _) ?_
  have hsz := size_L s
  have key : ∀ (m i : Nat), s.size - i = m → i ≤ s.size → dv ((L s).take i) ≤ 1000000000000000 → Ev (fun k => interchangeref1_ofDigits_c3 k s ((dv ((L s).take i) : Nat) : Int) (s.size : Int) (i : Int)) (if dv (L s) ≤ 1000000000000000 then ((dv (L s) : Int), true) else (0, false)) := by
    intro m
    induction m with
    | zero =>
      intro i hm hi' hv
      refine .step (fun k => interchangeref1_ofDigits_c3_eq k _ _ _ _) (.nk (by omega) (.to (.pure _) ?_))
      rw [List.take_of_length_le (by omega)] at hv ⊢
      rw [if_pos hv]
    | succ m ih =>
      intro i hm hi' hv
      have hil : i < (L s).length := by omega
      have hdig := hd _ (List.mem_of_getElem? (by rw [List.getElem?_eq_getElem hil] : (L s)[i]? = some ((L s)[i])))
      have hdig' : dgB ((L s).getD i 0) = true := by
        rw [List.getD_eq_getElem?_getD, List.getElem?_eq_getElem hil]
        exact hdig
      have hb := dgB_iff.1 hdig'
      have e : dv ((L s).take (i + 1)) = dv ((L s).take i) * 10 + (((L s).getD i 0).toNat - 48) := by
        rw [take_succ' hil, dv_app, dv_one]
        simp
      refine .step (fun k => interchangeref1_ofDigits_c3_eq k _ _ _ _) (.ck (by omega) (.ck (by omega) (.ck (by omega) ?_)))
      rw [bt_at (by omega : i < s.size), wu8_dig hdig']
      have hw : wi64 ((i : Int) + 1) = ((i + 1 : Nat) : Int) := by rw [wi64_id (by omega) (by omega)]; rfl
      have hv2 : wi64 (wi64 (10 * ((dv ((L s).take i) : Nat) : Int)) + ((((L s).getD i 0).toNat - 48 : Nat) : Int)) = ((dv ((L s).take (i + 1)) : Nat) : Int) := by
        rw [e, wi64_id (x := 10 * ((dv ((L s).take i) : Nat) : Int)) (by omega) (by omega), wi64_id (by omega) (by omega)]
        push_cast
        omega
      rw [hv2, hw]
      by_cases hg : dv ((L s).take (i + 1)) ≤ 1000000000000000
      · exact .nk (by omega) (ih (i + 1) (by omega) (by omega) hg)
      · refine .ck (by omega) (.to (.pure _) ?_)
        rw [if_neg]
        intro z
        have := dvA_ge ((L s).drop (i + 1)) (dv ((L s).take (i + 1)))
        have e2 : dv (L s) = dvA (dv ((L s).take (i + 1))) ((L s).drop (i + 1)) := by
          conv => lhs; rw [← List.take_append_drop (i + 1) (L s)]
          unfold dv
          rw [dvA_app]
        omega
  have := key _ 0 rfl (by omega) (by show (0 : Nat) ≤ 1000000000000000; omega)
  exact this
theorem ev_number (s : ByteArray) (hs : s.size ≤ 15) : Ev (fun k => interchangeref1_number k s) (if digB (L s) = true then (dv (L s) : Int) else -1) := by
  refine .step (fun k => interchangeref1_number_eq k _) (.bind (ev_rDig s (by omega)) ?_)
  cases h : digB (L s) with
  | false => exact .tt rfl (.pure _)
  | true =>
    refine .ff rfl (.bind (ev_ofDigits s (by omega) (digB_all h)) (.to (.pure _) ?_))
    have := dv_lt (digB_all h)
    have hsz := size_L s
    have h15 : 10 ^ (L s).length ≤ 10 ^ 15 := Nat.pow_le_pow_right (by decide) (by omega)
    have h15' : (10 : Nat) ^ 15 = 1000000000000000 := by decide
    rw [if_pos (by omega), if_pos rfl]

/-! ### cutting -/
theorem ev_Idx (s : ByteArray) (c : UInt8) : Ev (fun k => stringslite_Index k s (B [c])) (Lib.indexByte (L s) c) := by
  have h1 : (B [c]).size = 1 := rfl
  have hb : bt (B [c]) 0 = ((c.toNat : Nat) : Int) := by
    have := bt_B (l := [c]) (i := 0) (by simp)
    simpa using this
  refine .step (fun k => stringslite_Index_eq k _ _) ?_
  rw [h1, eqS_L, L_B]
  by_cases h : [c] = L s
  · refine .tt (by simp [h]) (.to (.pure _) ?_)
    rw [← h]
    simp [Lib.indexByte]
  · refine .ff (by simp [h]) (.tt rfl (.ck (by decide) (.ret ?_ rfl)))
    refine .off (n := 0) fun k => ?_
    show stringslite_IndexByte (k + 0) s _ = _
    rw [stringslite_IndexByte_eq, hb]
    simp
theorem indexByte_app {l m : List UInt8} {c : UInt8} (h : c ∉ l) : Lib.indexByte (l ++ c :: m) c = l.length := by
  induction l with
  | nil => simp [Lib.indexByte]
  | cons b l ih =>
    show Lib.indexByte (b :: (l ++ c :: m)) c = _
    unfold Lib.indexByte
    have hb : b ≠ c := fun z => h (by simp [z])
    have := ih fun z => h (by simp [z])
    rw [this]
    have hne : ¬ ((l.length : Int) == -1) = true := by simp
    simp [hb, hne]
end Go.Proofs.YtognnibmcifjeaaGreatDoor.Eq
namespace Go.Proofs.YtognnibmcifjeaaGreatDoor.Eq
open Go Go.Ra
set_option linter.unusedVariables false

/-- Of fewer than a hundred digits. -/
def Sm (n : Int) : Prop := n.natAbs < 4294967296 ^ 100
theorem Sm.of {n : Int} (h : n.natAbs ≤ 10 ^ 130) : Sm n := Nat.lt_of_le_of_lt h (by decide)

/-! ### products -/
end Go.Proofs.YtognnibmcifjeaaGreatDoor.Eq
namespace Go.Ra
open Go Go.Ra
end Go.Ra
namespace Go.Proofs.YtognnibmcifjeaaGreatDoor.Eq
open Go Go.Ra
set_option linter.unusedVariables false

end Go.Proofs.YtognnibmcifjeaaGreatDoor.Eq
namespace Go.Proofs.YtognnibmcifjeaaGreatDoor.Eq
open Go Go.Ra
set_option linter.unusedVariables false

/-- A right decimal. -/
def okD (d : Int × Int) : Prop := -1000000000000000 ≤ d.1 ∧ d.1 ≤ 1000000000000000 ∧ 0 ≤ d.2 ∧ d.2 ≤ 9
instance (d : Int × Int) : Decidable (okD d) := by unfold okD; infer_instance

end Go.Proofs.YtognnibmcifjeaaGreatDoor.Eq
namespace Go.Proofs.YtognnibmcifjeaaGreatDoor.Eq
open Go Go.Ra
set_option linter.unusedVariables false

/-- Of fewer than a hundred digits. -/
def Sr (n : Int) : Prop := n.natAbs < 1000000 ^ 100
theorem Sr.of {n : Int} (h : n.natAbs ≤ 10 ^ 130) : Sr n := Nat.lt_of_le_of_lt h (by decide)

end Go.Proofs.YtognnibmcifjeaaGreatDoor.Eq
namespace Go.Proofs.YtognnibmcifjeaaGreatDoor.Eq
open Go Go.Ra
set_option linter.unusedVariables false

/- products -/
/- as an int -/
/- long division -/
end Go.Proofs.YtognnibmcifjeaaGreatDoor.Eq
namespace Go.Proofs.YtognnibmcifjeaaGreatDoor.Eq
open Go Go.Ra
set_option linter.unusedVariables false

end Go.Proofs.YtognnibmcifjeaaGreatDoor.Eq
namespace Go.Proofs.YtognnibmcifjeaaGreatDoor.Eq
open Go Go.Ra
set_option linter.unusedVariables false

end Go.Proofs.YtognnibmcifjeaaGreatDoor.Eq
namespace Go.Proofs.YtognnibmcifjeaaGreatDoor.Eq
open Go Go.Ra
set_option linter.unusedVariables false

/-! ### a decimal's text -/
end Go.Proofs.YtognnibmcifjeaaGreatDoor.Eq
namespace Go.Proofs.YtognnibmcifjeaaGreatDoor.Eq
open Go Go.Ra
set_option linter.unusedVariables false

end Go.Proofs.YtognnibmcifjeaaGreatDoor.Eq
namespace Go.Ra
open Go Go.Ra
/-- A byte that can stand between digits. -/
def mkOk (b : Int) : Prop := ¬ ((48 ≤ b ∧ b ≤ 57) ∨ b = 45 ∨ b < 32 ∨ b > 126)
instance (b : Int) : Decidable (mkOk b) := by unfold mkOk; infer_instance
end Go.Ra
namespace Go.Proofs.YtognnibmcifjeaaGreatDoor.Eq
open Go Go.Ra
set_option linter.unusedVariables false

end Go.Proofs.YtognnibmcifjeaaGreatDoor.Eq
namespace Go.Proofs.YtognnibmcifjeaaGreatDoor.Eq
open Go Go.Ra
set_option linter.unusedVariables false

end Go.Proofs.YtognnibmcifjeaaGreatDoor.Eq
namespace Go.Proofs.YtognnibmcifjeaaGreatDoor.Eq
open Go Go.Ra
set_option linter.unusedVariables false

/- the reference -/
end Go.Proofs.YtognnibmcifjeaaGreatDoor.Eq
namespace Go.Ra
open Go Go.Ra
end Go.Ra
namespace Go.Proofs.YtognnibmcifjeaaGreatDoor.Eq
open Go Go.Ra
set_option linter.unusedVariables false

/-! ### the implied point -/
end Go.Proofs.YtognnibmcifjeaaGreatDoor.Eq
namespace Go.Ra
open Go Go.Ra
end Go.Ra
namespace Go.Proofs.YtognnibmcifjeaaGreatDoor.Eq
open Go Go.Ra
set_option linter.unusedVariables false

end Go.Proofs.YtognnibmcifjeaaGreatDoor.Eq
namespace Go.Proofs.YtognnibmcifjeaaGreatDoor.Eq
open Go Go.Ra
set_option linter.unusedVariables false

theorem countB_oneR (l : List UInt8) (c : UInt8) : Lib.countB (B l) (B [c]) = l.count c := by
  show Lib.count _ _ = _
  rw [← Lib.count_one]
  rfl
theorem ev_replLoop (l : List UInt8) (c : UInt8) (hl : l.length ≤ 140737488351232) : ∀ (m i st n : Nat) (acc : List UInt8), n = i + m → (l.drop st).count c = m → st ≤ l.length → acc.length ≤ st → n ≤ l.length →
    Ev (fun k => strings_Replace_c13 k (B l) (B [c]) (bs []) (B acc) (st : Int) (n : Int) (i : Int)) (B (acc ++ (l.drop st).filter (fun b => b != c))) := by
  intro m
  induction m with
  | zero =>
    intro i st n acc hn hc hst hacc hnl
    have e : (B l).extract ((st : Nat) : Int).toNat (B l).size = B (l.drop st) := by
      rw [B_ext, size_B, List.take_of_length_le (Nat.le_refl _), Int.toNat_natCast]
    have hf : (l.drop st).filter (fun b => b != c) = l.drop st := List.filter_eq_self.2 fun x hx => by
      have hne : x ≠ c := fun z => by rw [z] at hx; exact List.count_eq_zero.1 hc hx
      simpa using hne
    refine .step (fun k => strings_Replace_c13_eq k _ _ _ _ _ _ _) (.nk (by omega) (.ck (by omega) (.ck (by rw [size_B]; omega) ?_)))
    rw [e, hf]
    exact .ck (by rw [size_B, size_B, List.length_drop]; omega) (.to (.pure _) (by rw [B_app]))
  | succ m ih =>
    intro i st n acc hn hc hst hacc hnl
    have hmem : c ∈ l.drop st := List.count_pos_iff.1 (by omega)
    obtain ⟨x, y, hxy, hx⟩ := List.eq_append_cons_of_mem hmem
    have hlen : (l.drop st).length = x.length + (y.length + 1) := by rw [hxy]; simp
    rw [List.length_drop] at hlen
    have e : (B l).extract ((st : Nat) : Int).toNat (B l).size = B (l.drop st) := by
      rw [B_ext, size_B, List.take_of_length_le (Nat.le_refl _), Int.toNat_natCast]
    have hI : Ev (fun k => strings_Index k (B (l.drop st)) (B [c])) ((x.length : Nat) : Int) := by
      have h := ev_Idx (B (l.drop st)) c
      rw [L_B, hxy, indexByte_app hx] at h
      rw [hxy]
      exact .step (fun k => strings_Index_eq k _ _) (.ret h rfl)
    have hw : wi64 (((st : Nat) : Int) + ((x.length : Nat) : Int)) = ((st + x.length : Nat) : Int) := by rw [wi64_id (by omega) (by omega)]; omega
    have e2 : (B l).extract ((st : Nat) : Int).toNat ((st + x.length : Nat) : Int).toNat = B x := by
      rw [B_ext, Int.toNat_natCast, Int.toNat_natCast, List.drop_take, hxy, Nat.add_sub_cancel_left, List.take_left']
      rfl
    have s1 : (B [c]).size = 1 := rfl
    have s0 : (bs [] : ByteArray).size = 0 := rfl
    have hw2 : wi64 (((st + x.length : Nat) : Int) + (((B [c]).size : Nat) : Int)) = ((st + x.length + 1 : Nat) : Int) := by rw [s1, wi64_id (by omega) (by omega)]; omega
    have hd : l.drop (st + x.length + 1) = y := by
      rw [Nat.add_assoc, ← List.drop_drop, hxy, ← List.drop_drop, List.drop_left']
      · rfl
      · rfl
    have hcy : y.count c = m := by
      rw [hxy, List.count_append, List.count_cons_self, List.count_eq_zero.2 hx] at hc
      omega
    have hr := ih (i + 1) (st + x.length + 1) n (acc ++ x) (by omega) (by rw [hd]; exact hcy) (by omega) (by rw [List.length_append]; omega) hnl
    have hfx : x.filter (fun b => b != c) = x := List.filter_eq_self.2 fun z hz => by
      have hne : z ≠ c := fun w => by rw [w] at hz; exact hx hz
      simpa using hne
    have hfin : acc ++ (l.drop st).filter (fun b => b != c) = acc ++ x ++ (l.drop (st + x.length + 1)).filter (fun b => b != c) := by
      rw [hd, hxy, List.filter_append, hfx, List.filter_cons]
      simp
    rw [hfin]
    refine .step (fun k => strings_Replace_c13_eq k _ _ _ _ _ _ _) (.ck (by omega) (.ck (by omega) (.ck (by rw [size_B]; omega) ?_)))
    rw [e]
    refine .bind hI ?_
    rw [hw, e2, hw2]
    refine .ck (by omega) (.ck (by omega) (.ck (by rw [size_B]; omega) (.ck (by rw [size_B, size_B]; omega) (.ck (by rw [ByteArray.size_append, size_B, size_B, s0]; omega) ?_))))
    have ea : (B acc ++ B x) ++ bs [] = B (acc ++ x) := by
      rw [B_app]
      show B (acc ++ x) ++ B [] = _
      rw [B_app, List.append_nil]
    rw [ea, show wi64 (((i : Nat) : Int) + 1) = ((i + 1 : Nat) : Int) by rw [wi64_id (by omega) (by omega)]; omega]
    exact hr
theorem ev_Repl (l : List UInt8) (c : UInt8) (hl : l.length ≤ 140737488351232) : Ev (fun k => strings_ReplaceAll k (B l) (B [c]) (bs [])) (B (l.filter (fun b => b != c))) := by
  have s1 : (B [c]).size = 1 := rfl
  have s0 : (bs [] : ByteArray).size = 0 := rfl
  have hne : eqS (B [c]) (bs []) = false := eqS_ne fun z => by
    have := congrArg ByteArray.size z
    rw [s1, s0] at this
    omega
  have hC : Ev (fun k => strings_Count k (B l) (B [c])) ((l.count c : Nat) : Int) := .off (n := 0) fun k => by
    rw [strings_Count_eq, s1, countB_oneR]
    rfl
  have hcl : l.count c ≤ l.length := List.count_le_length
  refine .step (fun k => strings_ReplaceAll_eq k _ _ _) (.ret (.step (fun k => strings_Replace_eq k _ _ _ _) (.ff (by rw [hne]; rfl) (.bind hC ?_))) rfl)
  by_cases h0 : l.count c = 0
  · have hf : l.filter (fun b => b != c) = l := List.filter_eq_self.2 fun x hx => by
      have hnx : x ≠ c := fun z => by rw [z] at hx; exact List.count_eq_zero.1 h0 hx
      simpa using hnx
    exact .tt (by rw [h0]; rfl) (.to (.pure _) (by rw [hf]))
  · refine .ff (by simpa using h0) (.tt rfl (.step (fun k => strings_Replace_c8_eq k _ _ _ _) ?_))
    have hg : wi64 (((B l).size : Int) + wi64 (((l.count c : Nat) : Int) * wi64 (((bs [] : ByteArray).size : Int) - ((B [c]).size : Int)))) = ((l.length - l.count c : Nat) : Int) := by
      rw [size_B, s0, s1, wi64_id (x := (((0 : Nat) : Int) - ((1 : Nat) : Int))) (by omega) (by omega), show ((l.count c : Nat) : Int) * (((0 : Nat) : Int) - ((1 : Nat) : Int)) = -((l.count c : Nat) : Int) by omega, wi64_id (x := -((l.count c : Nat) : Int)) (by omega) (by omega), wi64_id (by omega) (by omega)]
      omega
    rw [hg]
    have hr := ev_replLoop l c hl (l.count c) 0 0 (l.count c) [] (by omega) (by rw [List.drop_zero]) (Nat.zero_le _) (Nat.zero_le _) hcl
    rw [List.drop_zero, List.nil_append] at hr
    exact .ck (by omega) (.ck (by omega) (.tt rfl hr))
end Go.Proofs.YtognnibmcifjeaaGreatDoor.Eq
namespace Go.Proofs.YtognnibmcifjeaaGreatDoor.Eq
open Go Go.Ra
set_option linter.unusedVariables false

end Go.Proofs.YtognnibmcifjeaaGreatDoor.Eq
namespace Go.Proofs.YtognnibmcifjeaaGreatDoor.Eq
open Go Go.Ra
set_option linter.unusedVariables false

theorem decFrom_dvA : ∀ (l : List UInt8) (a : Nat), (∀ b ∈ l, dgB b = true) → Lib.decFrom a l = some (dvA a l)
  | [], a, _ => rfl
  | b :: l, a, h => by
    have hb := dgB_iff.1 (h b (by simp))
    unfold Lib.decFrom
    have e : Lib.digitVal b = some (b.toNat - 48) := by
      unfold Lib.digitVal
      rw [if_pos]
      exact hb
    rw [e]
    exact decFrom_dvA l _ fun x hx => h x (by simp [hx])
theorem atoi_dg {l : List UInt8} (h : digB l = true) : Lib.atoi l = some ((dv l : Nat) : Int) := by
  have hd := digB_all h
  cases l with
  | nil => simp [digB] at h
  | cons b r =>
    have hb := dgB_iff.1 (hd b (by simp))
    unfold Lib.atoi
    have h45 : (b == 45) = false := by
      have : b ≠ 45 := fun z => by rw [z] at hb; exact absurd hb.1 (by decide)
      simpa using this
    have h43 : (b == 43) = false := by
      have : b ≠ 43 := fun z => by rw [z] at hb; exact absurd hb.1 (by decide)
      simpa using this
    have e : Lib.decNat (b :: r) = some (dv (b :: r)) := decFrom_dvA (b :: r) 0 hd
    simp only [h45, h43, Bool.false_eq_true, if_false, e]
    rfl
theorem ev_Atoi (l : List UInt8) (h : digB l = true) (hl : l.length ≤ 18) : Ev (fun k => strconv_Atoi k (B l)) ((dv l : Int), true) := by
  refine .off (n := 0) fun k => ?_
  have e3 : (B l).data.toList = l := L_B l
  rw [strconv_Atoi_eq, e3, atoi_dg h, size_B, decide_eq_true hl]
  rfl
theorem tmod_any (a : Int) : a.tmod 100 = if 0 ≤ a then a % 100 else -((-a) % 100) := by
  split
  · rename_i h; exact Int.tmod_eq_emod_of_nonneg h
  · rename_i h
    have e : a.tmod 100 = -((-a).tmod 100) := by rw [Int.neg_tmod, Int.neg_neg]
    rw [e, Int.tmod_eq_emod_of_nonneg (by omega)]
end Go.Proofs.YtognnibmcifjeaaGreatDoor.Eq
namespace Go.Ra
open Go Go.Ra
/-- Digits in blocks, and nothing behind them. -/
def okP : List Nat → List UInt8 → Bool
  | [], l => l.isEmpty
  | w :: ws, l => decide (w ≤ l.length) && (digB (l.take w) && okP ws (l.drop w))
def valP : List Nat → List UInt8 → List Int
  | [], _ => []
  | w :: ws, l => ((dv (l.take w) : Nat) : Int) :: valP ws (l.drop w)
/-- What a block is read as. -/
def nmL (l : List UInt8) : Int := if digB l = true then ((dv l : Nat) : Int) else -1
theorem nmL_no {l : List UInt8} (h : digB l = false) : nmL l = -1 := by unfold nmL; rw [h]; rfl
theorem nmL_yes {l : List UInt8} (h : digB l = true) : nmL l = ((dv l : Nat) : Int) := if_pos h
end Go.Ra
namespace Go.Proofs.YtognnibmcifjeaaGreatDoor.Eq
open Go Go.Ra
set_option linter.unusedVariables false

/-- What a date is read as. -/
def finD (y m d : Int) : Int × Int := if okDt y m d then ((⟨y, m.toNat, d⟩ : Dt).n, 0) else (0, 10)
theorem finD_no {y m d : Int} (h : y = -1 ∨ m = -1 ∨ d = -1) : finD y m d = (0, 10) := by
  unfold finD
  rw [if_neg]
  unfold okDt
  omega
theorem ev_partsAny (ws : List Nat) (hw : ∀ w ∈ ws, 1 ≤ w ∧ w ≤ 18) (hws : ws.length ≤ 10) : ∀ (j i : Nat) (acc : List Int) (l : List UInt8), ws.length - i = j → i ≤ ws.length → acc.length ≤ i → l.length < 1125899906842624 →
    ∃ q, Ev (fun k => amount_parts_c3 k (B l) acc (ws.map fun w => ((w : Nat) : Int)) (ws.length : Int) (i : Int)) q ∧ q.2 = okP (ws.drop i) l ∧ (q.2 = true → q.1 = acc ++ valP (ws.drop i) l) := by
  intro j
  induction j with
  | zero =>
    intro i acc l hj hi ha hl
    refine ⟨(acc, eqS (B l) (bs [])), .step (fun k => amount_parts_c3_eq k _ _ _ _ _) (.nk (by omega) (.pure _)), ?_, fun _ => ?_⟩
    · rw [List.drop_of_length_le (by omega), eqS_nil, L_B]; rfl
    · rw [List.drop_of_length_le (by omega)]
      show acc = acc ++ []
      rw [List.append_nil]
  | succ j ih =>
    intro i acc l hj hi ha hl
    have hil : i < ws.length := by omega
    have hwi := hw (ws.getD i 0) (by rw [List.getD_eq_getElem?_getD, List.getElem?_eq_getElem hil]; exact List.getElem_mem hil)
    have hg : (ws.map fun w => ((w : Nat) : Int)).getD ((i : Int)).toNat 0 = ((ws.getD i 0 : Nat) : Int) := by
      rw [Int.toNat_natCast, List.getD_eq_getElem?_getD, List.getElem?_map, List.getElem?_eq_getElem hil, List.getD_eq_getElem?_getD, List.getElem?_eq_getElem hil]
      rfl
    have hd : ws.drop i = ws.getD i 0 :: ws.drop (i + 1) := by
      rw [List.drop_eq_getElem_cons hil, List.getD_eq_getElem?_getD, List.getElem?_eq_getElem hil]
      rfl
    rw [hd]
    generalize hW : ws.getD i 0 = w at hwi hg
    have head : ∀ q, Ev (fun k => (cond (!(decide ((l.length : Int) < (w : Int)))) (kit_IsDigits k ((B l).extract 0 w)) (some false)).bind fun y0 =>
        cond (cond (decide ((l.length : Int) < (w : Int))) true (!y0)) (some ([], false)) (
          cond (decide ((0 : Int) ≤ (w : Int))) (cond (decide ((w : Int) ≤ (l.length : Int))) (
          (strconv_Atoi k ((B l).extract 0 w)).bind fun y1 =>
          cond (decide (acc.length + 1 < 17592186044416)) (cond (decide ((0 : Int) ≤ (w : Int))) (cond (decide ((w : Int) ≤ (l.length : Int))) (
          amount_parts_c3 k ((B l).extract w l.length) (acc ++ [y1.1]) (ws.map fun w => ((w : Nat) : Int)) (ws.length : Int) (wi64 ((i : Int) + 1))) none) none) none) none) none)) q →
        Ev (fun k => amount_parts_c3 k (B l) acc (ws.map fun w => ((w : Nat) : Int)) (ws.length : Int) (i : Int)) q := by
      intro q hq
      refine .step (fun k => amount_parts_c3_eq k _ _ _ _ _) (.ck (by omega) (.ck (by omega) (.ck (by rw [List.length_map]; omega) ?_)))
      rw [hg, size_B, Int.toNat_natCast]
      refine .tt (bor' fun _ => by simp) (.tt (bor' fun z => ?_) hq)
      rw [Bool.not_eq_true', decide_eq_false_iff_not] at z
      exact decide_eq_true (by omega)
    by_cases hlen : w ≤ l.length
    · have e1 : (B l).extract 0 w = B (l.take w) := by rw [B_ext, List.drop_zero]
      have e2 : (B l).extract w l.length = B (l.drop w) := by rw [B_ext, List.take_of_length_le (Nat.le_refl _)]
      rw [e1, e2, decide_eq_false (by omega : ¬ ((l.length : Int) < (w : Int)))] at head
      have htl : (l.take w).length = w := by rw [List.length_take]; omega
      have hk := ev_kDig (B (l.take w)) (by rw [size_B]; omega)
      rw [L_B] at hk
      cases hdg : digB (l.take w) with
      | false =>
        rw [hdg] at hk
        refine ⟨([], false), head _ (.bind (.tt rfl hk) (.tt rfl (.pure _))), ?_, fun z => by cases z⟩
        show false = (decide (w ≤ l.length) && (digB (l.take w) && _))
        rw [hdg]; simp
      | true =>
        rw [hdg] at hk
        obtain ⟨q, q1, q2, q3⟩ := ih (i + 1) (acc ++ [((dv (l.take w) : Nat) : Int)]) (l.drop w) (by omega) (by omega) (by simp; omega) (by rw [List.length_drop]; omega)
        refine ⟨q, head _ (.bind (.tt rfl hk) (.ff rfl (.ck (by omega) (.ck (by omega) (.bind (ev_Atoi (l.take w) hdg (by omega)) (.ck (by omega) (.ck (by omega) (.ck (by omega) ?_)))))))), ?_, fun z => ?_⟩
        · rw [show wi64 ((i : Int) + 1) = ((i + 1 : Nat) : Int) by rw [wi64_id (by omega) (by omega)]; rfl]
          exact q1
        · rw [q2]
          show _ = (decide (w ≤ l.length) && (digB (l.take w) && _))
          rw [hdg, decide_eq_true hlen]; rfl
        · rw [q3 z, List.append_assoc]; rfl
    · rw [decide_eq_true (by omega : ((l.length : Int) < (w : Int)))] at head
      refine ⟨([], false), head _ (.bind (x := false) (.ff rfl (.pure _)) (.tt rfl (.pure _))), ?_, fun z => by cases z⟩
      show false = (decide (w ≤ l.length) && _)
      rw [decide_eq_false hlen]; rfl
theorem ev_parts (a b c : Nat) (h : (1 ≤ a ∧ a ≤ 18) ∧ (1 ≤ b ∧ b ≤ 18) ∧ (1 ≤ c ∧ c ≤ 18)) (l : List UInt8) (hl : l.length < 1125899906842624) :
    ∃ q, Ev (fun k => amount_parts k (B l) [(a : Int), (b : Int), (c : Int)]) q ∧ q.2 = okP [a, b, c] l ∧ (q.2 = true → q.1 = valP [a, b, c] l) := by
  obtain ⟨q, q1, q2, q3⟩ := ev_partsAny [a, b, c] (by simp; omega) (by simp) _ 0 [] l rfl (by simp) (by simp) hl
  exact ⟨q, .step (fun k => amount_parts_eq k _ _) q1, q2, q3⟩
theorem okP3 {a b c : Nat} {l : List UInt8} : okP [a, b, c] l = true ↔ l.length = a + b + c ∧ digB (l.take a) = true ∧ digB ((l.drop a).take b) = true ∧ digB (l.drop (a + b)) = true := by
  simp only [okP, Bool.and_eq_true, decide_eq_true_eq, List.drop_drop, List.length_drop, List.isEmpty_iff, List.drop_eq_nil_iff]
  constructor
  · rintro ⟨h1, h2, h3, h4, h5, h6, h7⟩
    have hl : l.length = a + b + c := by omega
    refine ⟨hl, h2, h4, ?_⟩
    rwa [List.take_of_length_le (by rw [List.length_drop]; omega)] at h6
  · rintro ⟨h1, h2, h3, h4⟩
    refine ⟨by omega, h2, by omega, h3, by omega, ?_, by omega⟩
    rwa [List.take_of_length_le (by rw [List.length_drop]; omega)]
theorem valP3 {a b c : Nat} {l : List UInt8} (h : l.length = a + b + c) : valP [a, b, c] l = [((dv (l.take a) : Nat) : Int), ((dv ((l.drop a).take b) : Nat) : Int), ((dv (l.drop (a + b)) : Nat) : Int)] := by
  simp only [valP, List.drop_drop]
  rw [List.take_of_length_le (l := l.drop (a + b)) (by rw [List.length_drop]; omega)]
theorem ev_numB (l : List UInt8) (h : l.length ≤ 15) : Ev (fun k => interchangeref1_number k (B l)) (nmL l) := by
  have := ev_number (B l) (by rw [size_B]; exact h)
  rw [L_B] at this
  exact this
theorem ev_rFin (y m d : Int) : Ev (fun k => (interchangeref1_DayOf k y m d).bind fun y5 => cond (y5.2 != 0) (some (0, (10 : Int))) (some (y5.1, 0))) (finD y m d) := by
  refine .bind (ev_rDayOf y m d) ?_
  unfold finD
  by_cases h : okDt y m d
  · rw [if_pos h, if_pos h]; exact .ff rfl (.pure _)
  · rw [if_neg h, if_neg h]; exact .tt rfl (.pure _)
/-- The day of what is read, in package amount. -/
def fA (r : Int × Bool) : Int × Int := if r.2 = true then (r.1, 0) else (0, 10)
theorem ev_aFin (y m d : Int) : ∃ r, Ev (fun k => amount_dayOf k y m d) r ∧ fA r = finD y m d := by
  refine ⟨_, ev_adayOf y m d, ?_⟩
  unfold finD fA
  by_cases h : okDt y m d
  · rw [if_pos h, if_pos h]; rfl
  · rw [if_neg h, if_neg h]; rfl

/-- One form in package amount: three blocks and what is made of them. -/
theorem ev_aForm {a b c : Nat} (h : (1 ≤ a ∧ a ≤ 18) ∧ (1 ≤ b ∧ b ≤ 18) ∧ (1 ≤ c ∧ c ≤ 18)) (l : List UInt8) (hl : l.length < 1125899906842624) {f : Nat → List Int × Bool → Option (Int × Bool)} {t : Int × Int}
    (hf : ∀ q : List Int × Bool, q.2 = false → Ev (fun k => f k q) (0, false)) (hno : okP [a, b, c] l = false → t = (0, 10))
    (hyes : l.length = a + b + c → digB (l.take a) = true → digB ((l.drop a).take b) = true → digB (l.drop (a + b)) = true → ∃ r, Ev (fun k => f k ([((dv (l.take a) : Nat) : Int), ((dv ((l.drop a).take b) : Nat) : Int), ((dv (l.drop (a + b)) : Nat) : Int)], true)) r ∧ fA r = t) :
    ∃ r, Ev (fun k => (amount_parts k (B l) [(a : Int), (b : Int), (c : Int)]).bind fun y0 => f k y0) r ∧ fA r = t := by
  obtain ⟨⟨q1, q2⟩, e1, e2, e3⟩ := ev_parts a b c h l hl
  cases hq : q2 with
  | false =>
    subst hq
    exact ⟨(0, false), .bind e1 (hf _ rfl), (hno e2.symm).symm⟩
  | true =>
    subst hq
    obtain ⟨h1, h2, h3, h4⟩ := okP3.1 e2.symm
    obtain ⟨r, r1, r2⟩ := hyes h1 h2 h3 h4
    have e4 := e3 rfl
    rw [valP3 h1] at e4
    simp only at e4
    subst e4
    exact ⟨r, .bind e1 r1, r2⟩
theorem okP3_no {a b c : Nat} {l : List UInt8} (h : okP [a, b, c] l = false) (hl : l.length = a + b + c) : nmL (l.take a) = -1 ∨ nmL ((l.drop a).take b) = -1 ∨ nmL (l.drop (a + b)) = -1 := by
  cases h1 : digB (l.take a) with
  | false => exact .inl (nmL_no h1)
  | true =>
    cases h2 : digB ((l.drop a).take b) with
    | false => exact .inr (.inl (nmL_no h2))
    | true =>
      cases h3 : digB (l.drop (a + b)) with
      | false => exact .inr (.inr (nmL_no h3))
      | true =>
        rw [okP3.2 ⟨hl, h1, h2, h3⟩] at h
        cases h
theorem dv2 {l : List UInt8} (h : digB l = true) (hl : l.length = 2) : dv l ≤ 99 := by
  have := dv_lt (digB_all h)
  rw [hl] at this
  omega
theorem yr2 {v c : Int} (h0 : 0 ≤ v) (h1 : v ≤ 99) (hc : 1 ≤ c) (hc2 : c ≤ 9900) : wi64 (c + (wi64 ((wi64 (v - c)).tmod 100 + 100)).tmod 100) = wi64 (c + (wi64 ((wi64 (v - (c.tmod 100))) + 100)).tmod 100) := by
  rw [wi64_id (x := v - c) (by omega) (by omega), tmod_any (v - c), Int.tmod_eq_emod_of_nonneg (a := c) (by omega), wi64_id (x := v - c % 100) (by omega) (by omega), wi64_id (x := v - c % 100 + 100) (by omega) (by omega), Int.tmod_eq_emod_of_nonneg (a := v - c % 100 + 100) (by omega)]
  have hr : -100 < (if 0 ≤ v - c then (v - c) % 100 else -((-(v - c)) % 100)) ∧ (if 0 ≤ v - c then (v - c) % 100 else -((-(v - c)) % 100)) < 100 := by split <;> omega
  rw [wi64_id (x := _ + 100) (by omega) (by omega), Int.tmod_eq_emod_of_nonneg (by omega)]
  congr 2
  split <;> omega

/-! ### weeks -/
/-- The day of a week's day. -/
def wkF (y w d : Int) : Int := bef y + 4 - (bef y + 3) % 7 + (w - 1) * 7 + d - 1
/-- What a week's day is read as: a day that has them, or none. -/
def wkOk (y w d n : Int) : Prop := ∃ t v : Dt, t.Ok ∧ v.Ok ∧ t.n = n ∧ v.n = thu n ∧ v.y = y ∧ wk v.y n = w ∧ (n - 1) % 7 + 1 = d
theorem wkOk_F {y w d n : Int} (h : wkOk y w d n) : n = wkF y w d ∧ bef y - 3 < n ∧ n ≤ bef y + 369 ∧ 1 ≤ n ∧ n ≤ 3652059 := by
  obtain ⟨t, v, ht, hv, rfl, hvn, rfl, rfl, rfl⟩ := h
  have b1 := ht.bound
  have hiy := hv.in_year
  have hbs := bef_succ v.y
  have hlp := lp_01 v.y
  have ht2 : thu t.n = 7 * ((t.n - 1) / 7) + 4 := by unfold thu; omega
  unfold wkF wk
  refine ⟨by omega, by omega, by omega, b1.1, b1.2⟩
theorem ev_aweek (y w d : Int) (hy : 0 ≤ y ∧ y ≤ 9999) (hw : 0 ≤ w ∧ w ≤ 99) (hd : 0 ≤ d ∧ d ≤ 9) :
    ∃ r, Ev (fun k => amount_weekDay k y w d) r ∧ ((r = (wkF y w d, true) ∧ wkOk y w d (wkF y w d)) ∨ (r.2 = false ∧ ∀ n, ¬ wkOk y w d n)) := by
  by_cases h1 : 1 ≤ y
  · by_cases h2 : 1 ≤ d ∧ d ≤ 7
    · have hb := bef_small (y := y) (by omega) (by omega)
      have hbs := bef_succ y
      have hlp := lp_01 y
      have hmax := bef_mono (a := y + 1) (b := 10000) (by omega)
      have h10 : bef 10000 = 3652059 := by decide
      have e : wi64 ((wi64 ((wi64 ((wi64 ((bef y + 4) - ((bef y + 4 - 1) % 7))) + (wi64 ((wi64 (w - 1)) * 7)))) + d)) - 1) = wkF y w d := by
        rw [wi64_id (x := bef y + 4 - _) (by omega) (by omega), wi64_id (x := w - 1) (by omega) (by omega), wi64_id (x := (w - 1) * 7) (by omega) (by omega), wi64_id (x := _ + (w - 1) * 7) (by omega) (by omega), wi64_id (x := _ + d) (by omega) (by omega), wi64_id (by omega) (by omega)]
        unfold wkF
        omega
      have start : ∀ r, Ev (fun k => (kit_IsDay k (wkF y w d)).bind fun y4 => cond (!y4) (some (0, false)) ((amount_weekOf k (wkF y w d)).bind fun y5 => some (wkF y w d, (cond (y5.1 == y) (y5.2 == w) false)))) r → Ev (fun k => amount_weekDay k y w d) r := by
        intro r hr
        refine .step (fun k => amount_weekDay_eq k _ _ _) (.bind (ev_Outside' _ _ _) ?_)
        rw [decide_eq_false (by omega)]
        refine .bind (.tt rfl (ev_Outside' _ _ _)) ?_
        rw [decide_eq_false (by omega)]
        refine .ff rfl (.bind (ev_abefore (by omega) (by omega)) ?_)
        rw [show wi64 (bef y + 4) = bef y + 4 from wi64_id (by omega) (by omega)]
        refine .bind (ev_WeekDay2 (n := bef y + 4) (by omega) (by omega)) ?_
        rw [e]
        exact hr
      by_cases hF : 1 ≤ wkF y w d ∧ wkF y w d ≤ 3652059
      · obtain ⟨t, ht, htn⟩ := Dt.ex hF.1 hF.2
        have htu := thu_in hF.1 hF.2
        obtain ⟨v, hv, hvn⟩ := Dt.ex htu.1 htu.2
        have hvn' : v.n = thu t.n := by rw [hvn, htn]
        have hwo := ev_aweekOf ht hv hvn'
        rw [htn] at hwo
        have hday := ev_kIsDay (wkF y w d)
        rw [decide_eq_true hF] at hday
        refine ⟨_, start _ (.bind hday (.ff rfl (.bind hwo (.pure _)))), ?_⟩
        have hwd : (wkF y w d - 1) % 7 + 1 = d := by unfold wkF; omega
        by_cases hm : v.y = y ∧ wk v.y (wkF y w d) = w
        · left
          refine ⟨?_, t, v, ht, hv, htn, hvn, hm.1, hm.2, hwd⟩
          rw [hm.2, hm.1]; simp
        · right
          refine ⟨?_, fun n hn => hm ?_⟩
          · by_cases h5 : v.y = y
            · have : wk v.y (wkF y w d) ≠ w := fun z => hm ⟨h5, z⟩
              rw [h5] at this ⊢
              simpa using this
            · have : (v.y == y) = false := by simpa using h5
              simp [this]
          · have hnF := (wkOk_F hn).1
            obtain ⟨t', v', ht', hv', e1, e2, e3, e4, e5⟩ := hn
            rw [hnF] at e2 e4
            have : v' = v := Dt.inj hv' hv (e2.trans hvn.symm)
            subst this
            exact ⟨e3, e4⟩
      · have hday := ev_kIsDay (wkF y w d)
        rw [decide_eq_false hF] at hday
        refine ⟨_, start _ (.bind hday (.tt rfl (.pure _))), .inr ⟨rfl, fun n hn => hF ?_⟩⟩
        have := wkOk_F hn
        omega
    · refine ⟨(0, false), .step (fun k => amount_weekDay_eq k _ _ _) (.bind (ev_Outside' _ _ _) ?_), .inr ⟨rfl, fun n hn => h2 ?_⟩⟩
      · rw [decide_eq_false (by omega)]
        refine .bind (.tt rfl (ev_Outside' _ _ _)) ?_
        rw [decide_eq_true (by omega)]
        exact .tt rfl (.pure _)
      · obtain ⟨t', v', ht', hv', e1, e2, e3, e4, e5⟩ := hn
        omega
  · refine ⟨(0, false), .step (fun k => amount_weekDay_eq k _ _ _) (.bind (ev_Outside' _ _ _) ?_), .inr ⟨rfl, fun n hn => h1 ?_⟩⟩
    · rw [decide_eq_true (by omega)]
      exact .bind (x := false) (.ff rfl (.pure _)) (.tt rfl (.pure _))
    · obtain ⟨t', v', ht', hv', e1, e2, e3, e4, e5⟩ := hn
      have := hv'.y1
      omega
theorem ev_rweek_c8 (y w d : Int) (hy : 1 ≤ y ∧ y ≤ 9999) : 
    ((∀ n, ¬ wkOk y w d n) → Ev (fun k => interchangeref1_readWeek_c8 k y w d (bef y + 1) (maxI 1 (wi64 (bef y + 1 - 7)))) (0, 10)) ∧
    (wkOk y w d (wkF y w d) → Ev (fun k => interchangeref1_readWeek_c8 k y w d (bef y + 1) (maxI 1 (wi64 (bef y + 1 - 7)))) (wkF y w d, 0)) := by
  have hb := bef_small (y := y) (by omega) (by omega)
  have hend : minI 3652059 (wi64 (bef y + 1 + 380)) ≤ 3652059 ∧ minI 3652059 (wi64 (bef y + 1 + 380)) ≤ bef y + 381 ∧ (minI 3652059 (wi64 (bef y + 1 + 380)) = 3652059 ∨ minI 3652059 (wi64 (bef y + 1 + 380)) = bef y + 381) := by
    rw [wi64_id (by omega) (by omega)]
    unfold minI
    split <;> omega
  have hstart : 1 ≤ maxI 1 (wi64 (bef y + 1 - 7)) ∧ bef y - 6 ≤ maxI 1 (wi64 (bef y + 1 - 7)) ∧ (maxI 1 (wi64 (bef y + 1 - 7)) = 1 ∨ maxI 1 (wi64 (bef y + 1 - 7)) = bef y - 6) := by
    rw [wi64_id (by omega) (by omega)]
    unfold maxI
    split <;> omega
  have step : ∀ n, 1 ≤ n → n ≤ minI 3652059 (wi64 (bef y + 1 + 380)) → ∀ r, (wkOk y w d n → r = (n, 0)) → (¬ wkOk y w d n → Ev (fun k => interchangeref1_readWeek_c8 k y w d (bef y + 1) (n + 1)) r) → Ev (fun k => interchangeref1_readWeek_c8 k y w d (bef y + 1) n) r := by
    intro n hn1 hn2 r r1 r2
    obtain ⟨t, ht, htn⟩ := Dt.ex hn1 (show n ≤ 3652059 by omega)
    have htu := thu_in hn1 (show n ≤ 3652059 by omega)
    obtain ⟨v, hv, hvn⟩ := Dt.ex htu.1 htu.2
    have hvn' : v.n = thu t.n := by rw [hvn, htn]
    have hwo := ev_rweekOf ht hv hvn'
    rw [htn] at hwo
    refine .step (fun k => interchangeref1_readWeek_c8_eq k _ _ _ _ _) (.ck hn2 (.bind hwo ?_))
    have et : wi64 (wi64 (n - ((n - 1) % 7 + 1)) + 4) = thu n := by
      unfold thu
      rw [wi64_id (x := n - ((n - 1) % 7 + 1)) (by omega) (by omega), wi64_id (by omega) (by omega)]
      omega
    simp only [et]
    rw [decide_eq_true htu.1, decide_eq_true htu.2]
    by_cases hm : v.y = y ∧ wk v.y n = w ∧ (n - 1) % 7 + 1 = d
    · rw [r1 ⟨t, v, ht, hv, htn, hvn, hm.1, hm.2.1, hm.2.2⟩]
      refine .tt ?_ (.pure _)
      rw [hm.2.1, hm.2.2, hm.1]; simp
    · refine .ff ?_ ?_
      · have hx : ((v.y == y) && ((wk v.y n == w) && ((n - 1) % 7 + 1 == d))) = false := by
          cases hz : ((v.y == y) && ((wk v.y n == w) && ((n - 1) % 7 + 1 == d))) with
          | false => rfl
          | true =>
            simp only [Bool.and_eq_true, beq_iff_eq] at hz
            exact absurd hz hm
        cases h5 : (v.y == y) <;> cases h6 : (wk v.y n == w) <;> cases h7 : ((n - 1) % 7 + 1 == d) <;> simp_all
      · rw [wi64_id (by omega) (by omega)]
        refine r2 fun hok => hm ?_
        obtain ⟨t', v', ht', hv', e1, e2, e3, e4, e5⟩ := hok
        have : v' = v := Dt.inj hv' hv (e2.trans hvn.symm)
        subst this
        exact ⟨e3, e4, e5⟩
  constructor
  · intro hno
    have key : ∀ (j : Nat) (n : Int), (minI 3652059 (wi64 (bef y + 1 + 380)) + 1 - n).toNat = j → 1 ≤ n → Ev (fun k => interchangeref1_readWeek_c8 k y w d (bef y + 1) n) (0, 10) := by
      intro j
      induction j with
      | zero => intro n hj hn; exact .step (fun k => interchangeref1_readWeek_c8_eq k _ _ _ _ _) (.nk (by omega) (.pure _))
      | succ j ih => intro n hj hn; exact step n hn (by omega) _ (fun z => absurd z (hno n)) (fun _ => ih (n + 1) (by omega) (by omega))
    exact key _ _ rfl hstart.1
  · intro hok
    have hF := wkOk_F hok
    have key : ∀ (j : Nat) (n : Int), (wkF y w d - n).toNat = j → 1 ≤ n → n ≤ wkF y w d → Ev (fun k => interchangeref1_readWeek_c8 k y w d (bef y + 1) n) (wkF y w d, 0) := by
      intro j
      induction j with
      | zero =>
        intro n hj hn hn2
        have : n = wkF y w d := by omega
        rw [this]
        exact step _ (by omega) (by omega) _ (fun _ => rfl) (fun z => absurd hok z)
      | succ j ih =>
        intro n hj hn hn2
        refine step n hn (by omega) _ (fun z => ?_) (fun _ => ih (n + 1) (by omega) (by omega) (by omega))
        rw [(wkOk_F z).1]
    exact key _ _ rfl hstart.1 (by omega)
end Go.Proofs.YtognnibmcifjeaaGreatDoor.Eq
namespace Go.Proofs.YtognnibmcifjeaaGreatDoor.Eq
open Go Go.Ra
set_option linter.unusedVariables false
set_option linter.unusedSimpArgs false

theorem sz_eq (n m : Nat) : ((n : Int) == (m : Int)) = decide (n = m) := by
  by_cases h : n = m
  · rw [h]; simp
  · rw [decide_eq_false h]
    have : (n : Int) ≠ (m : Int) := by omega
    simpa using this
theorem dash_parts {x y z : List UInt8} (hx : x.length = 4) (hy : y.length = 2) (hz : z.length = 2) :
    (x ++ ([45] ++ (y ++ ([45] ++ z)))).length = 10 ∧ (x ++ ([45] ++ (y ++ ([45] ++ z)))).getD 4 0 = 45 ∧ (x ++ ([45] ++ (y ++ ([45] ++ z)))).getD 7 0 = 45 ∧
    (x ++ ([45] ++ (y ++ ([45] ++ z)))).take 4 = x ∧ ((x ++ ([45] ++ (y ++ ([45] ++ z)))).drop 5).take 2 = y ∧ (x ++ ([45] ++ (y ++ ([45] ++ z)))).drop 8 = z := by
  match x, hx, y, hy, z, hz with
  | [x0, x1, x2, x3], _, [y0, y1], _, [z0, z1], _ => exact ⟨rfl, rfl, rfl, rfl, rfl, rfl⟩
theorem dash_split {l : List UInt8} (h : l.length = 10) (h4 : l.getD 4 0 = 45) (h7 : l.getD 7 0 = 45) : l = l.take 4 ++ ([45] ++ ((l.drop 5).take 2 ++ ([45] ++ l.drop 8))) := by
  match l, h, h4, h7 with
  | [a0, a1, a2, a3, a4, a5, a6, a7, a8, a9], _, h4, h7 =>
    have e4 : a4 = 45 := h4
    have e7 : a7 = 45 := h7
    subst e4
    subst e7
    rfl
theorem dash_filter {x y z : List UInt8} (hx : digB x = true) (hy : digB y = true) (hz : digB z = true) : (x ++ ([45] ++ (y ++ ([45] ++ z)))).filter (fun b => b != 45) = x ++ (y ++ z) := by
  have hne : ∀ {l : List UInt8}, digB l = true → l.filter (fun b => b != 45) = l := fun {l} hl => List.filter_eq_self.2 fun q hq => by
    have := digB_all hl q hq
    have h2 : q ≠ 45 := fun z => by rw [z] at this; exact absurd this (by decide)
    simpa using h2
  rw [List.filter_append, List.filter_append, List.filter_append, List.filter_append, hne hx, hne hy, hne hz]
  rfl

theorem ev_rEnd : Ev (fun k => (interchangeref1_DayOf k (-1) (-1) (-1)).bind fun y20 => cond (y20.2 != 0) (some (0, (10 : Int))) (some (y20.1, 0))) (0, 10) :=
  (ev_rFin (-1) (-1) (-1)).to (finD_no (.inl rfl))
theorem ev_rdStart {l : List UInt8} {b c : Int} (hb : 1 ≤ b ∧ b ≤ 5) (hc : 1 ≤ c ∧ c ≤ 9900) : Ev (fun k => interchangeref1_within k b 1 5) true ∧ Ev (fun k => interchangeref1_within k c 1 9900) true := by
  have h1 := ev_within' b 1 5
  have h2 := ev_within' c 1 9900
  rw [decide_eq_true hb] at h1
  rw [decide_eq_true hc] at h2
  exact ⟨h1, h2⟩

theorem ev_rd1T (l : List UInt8) (c : Int) (hc : 1 ≤ c ∧ c ≤ 9900) (hl : l.length ≤ 140737488351232) : Ev (fun k => interchangeref1_ReadDay k (B l) 1 c) (if l.length = 8 then finD (nmL (l.take 4)) (nmL ((l.drop 4).take 2)) (nmL (l.drop 6)) else (0, 10)) ∧ ∃ r, Ev (fun k => amount_readDay k (B l) 1 c) r ∧ fA r = (if l.length = 8 then finD (nmL (l.take 4)) (nmL ((l.drop 4).take 2)) (nmL (l.drop 6)) else (0, 10)) := by
  obtain ⟨w1, w2⟩ := ev_rdStart (l := l) (b := 1) (by decide) hc
  refine ⟨.step (fun k => interchangeref1_ReadDay_eq k _ _ _) (.bind w1 (.ff rfl (.bind w2 (.ff rfl ?_)))), ?_⟩
  · simp only [size_B]
    have hs := sz_eq l.length 8
    rw [show ((8 : Nat) : Int) = 8 from rfl] at hs
    rw [hs]
    by_cases h8 : l.length = 8
    · rw [decide_eq_true h8, if_pos h8]
      have e1 : (B l).extract 0 4 = B (l.take 4) := by rw [B_ext, List.drop_zero]
      have e2 : (B l).extract 4 6 = B ((l.drop 4).take 2) := by rw [B_ext, List.drop_take]
      have e3 : (B l).extract 6 l.length = B (l.drop 6) := by rw [B_ext, List.take_of_length_le (Nat.le_refl _)]
      rw [e1, e2, e3]
      exact .tt rfl (.ck (by omega) (.bind (ev_numB _ (by rw [List.length_take]; omega)) (.ck (by omega) (.bind (ev_numB _ (by rw [List.length_take]; omega)) (.ck (by omega) (.bind (ev_numB _ (by rw [List.length_drop]; omega)) (ev_rFin _ _ _)))))))
    · rw [decide_eq_false h8, if_neg h8]
      exact .ff rfl (.ff rfl (.ff rfl (.tt rfl (.tt rfl (.tt rfl (.tt rfl (.ff rfl (.ff rfl ev_rEnd))))))))
  · obtain ⟨r, r1, r2⟩ := ev_aForm (a := 4) (b := 2) (c := 2) (by decide) l (by omega) (t := if l.length = 8 then finD (nmL (l.take 4)) (nmL ((l.drop 4).take 2)) (nmL (l.drop 6)) else (0, 10))
      (f := fun k y0 => cond (!y0.2) (some (0, false)) (cond (decide (0 < (y0.1.length : Int))) (cond (decide (1 < (y0.1.length : Int))) (cond (decide (2 < (y0.1.length : Int))) ((amount_dayOf k (y0.1.getD 0 0) (y0.1.getD 1 0) (y0.1.getD 2 0)).bind fun y1 => some y1) none) none) none))
      (fun q hq => by rw [hq]; exact .tt rfl (.pure _))
      (fun hno => by
        split
        · rename_i h8
          exact finD_no (okP3_no hno h8)
        · rfl)
      (fun h8 d1 d2 d3 => by
        obtain ⟨r, r1, r2⟩ := ev_aFin ((dv (l.take 4) : Nat) : Int) ((dv ((l.drop 4).take 2) : Nat) : Int) ((dv (l.drop (4 + 2)) : Nat) : Int)
        refine ⟨r, .ff rfl (.ck (by simp) (.ck (by simp) (.ck (by simp) (.ret r1 rfl)))), ?_⟩
        rw [r2, if_pos h8, nmL_yes d1, nmL_yes d2, nmL_yes d3])
    exact ⟨r, .step (fun k => amount_readDay_eq k _ _ _) (.tt rfl r1), r2⟩

theorem ev_rd1 (l : List UInt8) (c : Int) (hc : 1 ≤ c ∧ c ≤ 9900) (hl : l.length ≤ 140737488351232) : ∃ t, Ev (fun k => interchangeref1_ReadDay k (B l) 1 c) t ∧ ∃ r, Ev (fun k => amount_readDay k (B l) 1 c) r ∧ fA r = t := ⟨_, (ev_rd1T l c hc hl).1, (ev_rd1T l c hc hl).2⟩

theorem ev_rd3 (l : List UInt8) (c : Int) (hc : 1 ≤ c ∧ c ≤ 9900) (hl : l.length ≤ 140737488351232) : ∃ t, Ev (fun k => interchangeref1_ReadDay k (B l) 3 c) t ∧ ∃ r, Ev (fun k => amount_readDay k (B l) 3 c) r ∧ fA r = t := by
  obtain ⟨w1, w2⟩ := ev_rdStart (l := l) (b := 3) (by decide) hc
  refine ⟨if l.length = 8 then finD (nmL (l.drop 4)) (nmL ((l.drop 2).take 2)) (nmL (l.take 2)) else (0, 10), .step (fun k => interchangeref1_ReadDay_eq k _ _ _) (.bind w1 (.ff rfl (.bind w2 (.ff rfl (.ff rfl (.ff rfl ?_)))))), ?_⟩
  · simp only [size_B]
    have hs := sz_eq l.length 8
    rw [show ((8 : Nat) : Int) = 8 from rfl] at hs
    rw [hs]
    by_cases h8 : l.length = 8
    · rw [decide_eq_true h8, if_pos h8]
      have e1 : (B l).extract 0 2 = B (l.take 2) := by rw [B_ext, List.drop_zero]
      have e2 : (B l).extract 2 4 = B ((l.drop 2).take 2) := by rw [B_ext, List.drop_take]
      have e3 : (B l).extract 4 l.length = B (l.drop 4) := by rw [B_ext, List.take_of_length_le (Nat.le_refl _)]
      rw [e1, e2, e3]
      exact .tt rfl (.ck (by omega) (.bind (ev_numB _ (by rw [List.length_drop]; omega)) (.ck (by omega) (.bind (ev_numB _ (by rw [List.length_take]; omega)) (.ck (by omega) (.bind (ev_numB _ (by rw [List.length_take]; omega)) (ev_rFin _ _ _)))))))
    · rw [decide_eq_false h8, if_neg h8]
      exact .ff rfl (.tt rfl (.tt rfl (.tt rfl (.tt rfl (.ff rfl (.ff rfl ev_rEnd))))))
  · obtain ⟨r, r1, r2⟩ := ev_aForm (a := 2) (b := 2) (c := 4) (by decide) l (by omega) (t := if l.length = 8 then finD (nmL (l.drop 4)) (nmL ((l.drop 2).take 2)) (nmL (l.take 2)) else (0, 10))
      (f := fun k y4 => cond (!y4.2) (some (0, false)) (cond (decide (2 < (y4.1.length : Int))) (cond (decide (1 < (y4.1.length : Int))) (cond (decide (0 < (y4.1.length : Int))) ((amount_dayOf k (y4.1.getD 2 0) (y4.1.getD 1 0) (y4.1.getD 0 0)).bind fun y5 => some y5) none) none) none))
      (fun q hq => by rw [hq]; exact .tt rfl (.pure _))
      (fun hno => by
        split
        · rename_i h8
          have := okP3_no hno h8
          exact finD_no (by rcases this with h | h | h; exact .inr (.inr h); exact .inr (.inl h); exact .inl h)
        · rfl)
      (fun h8 d1 d2 d3 => by
        obtain ⟨r, r1, r2⟩ := ev_aFin ((dv (l.drop (2 + 2)) : Nat) : Int) ((dv ((l.drop 2).take 2) : Nat) : Int) ((dv (l.take 2) : Nat) : Int)
        refine ⟨r, .ff rfl (.ck (by simp) (.ck (by simp) (.ck (by simp) (.ret r1 rfl)))), ?_⟩
        rw [r2, if_pos h8, nmL_yes d1, nmL_yes d2, nmL_yes d3])
    exact ⟨r, .step (fun k => amount_readDay_eq k _ _ _) (.ff rfl (.ff rfl (.tt rfl r1))), r2⟩

theorem ev_rd2 (l : List UInt8) (c : Int) (hc : 1 ≤ c ∧ c ≤ 9900) (hl : l.length ≤ 140737488351232) : ∃ t, Ev (fun k => interchangeref1_ReadDay k (B l) 2 c) t ∧ ∃ r, Ev (fun k => amount_readDay k (B l) 2 c) r ∧ fA r = t := by
  obtain ⟨w1, w2⟩ := ev_rdStart (l := l) (b := 2) (by decide) hc
  refine ⟨if l.length = 6 then (if 0 ≤ nmL (l.take 2) then finD (wi64 (c + (wi64 ((wi64 (nmL (l.take 2) - (c.tmod 100))) + 100)).tmod 100)) (nmL ((l.drop 2).take 2)) (nmL (l.drop 4)) else finD (nmL (l.take 2)) (nmL ((l.drop 2).take 2)) (nmL (l.drop 4))) else (0, 10), .step (fun k => interchangeref1_ReadDay_eq k _ _ _) (.bind w1 (.ff rfl (.bind w2 (.ff rfl (.ff rfl ?_))))), ?_⟩
  · simp only [size_B]
    have hs := sz_eq l.length 6
    rw [show ((6 : Nat) : Int) = 6 from rfl] at hs
    rw [hs]
    by_cases h6 : l.length = 6
    · rw [decide_eq_true h6, if_pos h6]
      have e1 : (B l).extract 0 2 = B (l.take 2) := by rw [B_ext, List.drop_zero]
      have e2 : (B l).extract 2 4 = B ((l.drop 2).take 2) := by rw [B_ext, List.drop_take]
      have e3 : (B l).extract 4 l.length = B (l.drop 4) := by rw [B_ext, List.take_of_length_le (Nat.le_refl _)]
      rw [e1, e2, e3]
      refine .tt rfl (.ck (by omega) (.bind (ev_numB _ (by rw [List.length_take]; omega)) (.ck (by omega) (.bind (ev_numB _ (by rw [List.length_take]; omega)) (.ck (by omega) (.bind (ev_numB _ (by rw [List.length_drop]; omega)) ?_))))))
      by_cases h0 : 0 ≤ nmL (l.take 2)
      · rw [if_pos h0]; exact .ck h0 (ev_rFin _ _ _)
      · rw [if_neg h0]; exact .nk h0 (ev_rFin _ _ _)
    · rw [decide_eq_false h6, if_neg h6]
      exact .ff rfl (.ff rfl (.tt rfl (.tt rfl (.tt rfl (.tt rfl (.ff rfl (.ff rfl ev_rEnd)))))))
  · obtain ⟨r, r1, r2⟩ := ev_aForm (a := 2) (b := 2) (c := 2) (by decide) l (by omega) (t := if l.length = 6 then (if 0 ≤ nmL (l.take 2) then finD (wi64 (c + (wi64 ((wi64 (nmL (l.take 2) - (c.tmod 100))) + 100)).tmod 100)) (nmL ((l.drop 2).take 2)) (nmL (l.drop 4)) else finD (nmL (l.take 2)) (nmL ((l.drop 2).take 2)) (nmL (l.drop 4))) else (0, 10))
      (f := fun k y2 => cond (!y2.2) (some (0, false)) (cond (decide (0 < (y2.1.length : Int))) (cond (decide (1 < (y2.1.length : Int))) (cond (decide (2 < (y2.1.length : Int))) ((amount_dayOf k (wi64 (c + ((wi64 (((wi64 ((y2.1.getD 0 0) - c)).tmod 100) + 100)).tmod 100))) (y2.1.getD 1 0) (y2.1.getD 2 0)).bind fun y3 => some y3) none) none) none))
      (fun q hq => by rw [hq]; exact .tt rfl (.pure _))
      (fun hno => by
        split
        · rename_i h6
          have := okP3_no hno h6
          split
          · rename_i h0
            rcases this with h | h | h
            · omega
            · exact finD_no (.inr (.inl h))
            · exact finD_no (.inr (.inr h))
          · exact finD_no this
        · rfl)
      (fun h6 d1 d2 d3 => by
        have h99 := dv2 d1 (by rw [List.length_take]; omega)
        obtain ⟨r, r1, r2⟩ := ev_aFin (wi64 (c + ((wi64 (((wi64 (((dv (l.take 2) : Nat) : Int) - c)).tmod 100) + 100)).tmod 100))) ((dv ((l.drop 2).take 2) : Nat) : Int) ((dv (l.drop (2 + 2)) : Nat) : Int)
        refine ⟨r, .ff rfl (.ck (by simp) (.ck (by simp) (.ck (by simp) (.ret r1 rfl)))), ?_⟩
        rw [r2, if_pos h6, nmL_yes d1, nmL_yes d2, nmL_yes d3, if_pos (by omega), yr2 (by omega) (by omega) hc.1 hc.2])
    exact ⟨r, .step (fun k => amount_readDay_eq k _ _ _) (.ff rfl (.tt rfl r1)), r2⟩

theorem ev_rd5 (l : List UInt8) (c : Int) (hc : 1 ≤ c ∧ c ≤ 9900) (hl : l.length ≤ 140737488351232) : ∃ t, Ev (fun k => interchangeref1_ReadDay k (B l) 5 c) t ∧ ∃ r, Ev (fun k => amount_readDay k (B l) 5 c) r ∧ fA r = t := by
  obtain ⟨w1, w2⟩ := ev_rdStart (l := l) (b := 5) (by decide) hc
  have hs := sz_eq l.length 7
  rw [show ((7 : Nat) : Int) = 7 from rfl] at hs
  have aF : ∀ t, (okP [4, 2, 1] l = false → t = (0, 10)) → (l.length = 4 + 2 + 1 → digB (l.take 4) = true → digB ((l.drop 4).take 2) = true → digB (l.drop (4 + 2)) = true → ∃ r, Ev (fun k => amount_weekDay k ((dv (l.take 4) : Nat) : Int) ((dv ((l.drop 4).take 2) : Nat) : Int) ((dv (l.drop (4 + 2)) : Nat) : Int)) r ∧ fA r = t) →
      ∃ r, Ev (fun k => amount_readDay k (B l) 5 c) r ∧ fA r = t := by
    intro t hno hyes
    obtain ⟨r, r1, r2⟩ := ev_aForm (a := 4) (b := 2) (c := 1) (by decide) l (by omega) (t := t)
      (f := fun k y9 => cond (!y9.2) (some (0, false)) (cond (decide (0 < (y9.1.length : Int))) (cond (decide (1 < (y9.1.length : Int))) (cond (decide (2 < (y9.1.length : Int))) ((amount_weekDay k (y9.1.getD 0 0) (y9.1.getD 1 0) (y9.1.getD 2 0)).bind fun y10 => some y10) none) none) none))
      (fun q hq => by rw [hq]; exact .tt rfl (.pure _)) hno
      (fun h7 d1 d2 d3 => by
        obtain ⟨r, r1, r2⟩ := hyes h7 d1 d2 d3
        exact ⟨r, .ff rfl (.ck (by simp) (.ck (by simp) (.ck (by simp) (.ret r1 rfl)))), r2⟩)
    exact ⟨r, .step (fun k => amount_readDay_eq k _ _ _) (.ff rfl (.ff rfl (.ff rfl (.ff rfl r1)))), r2⟩
  by_cases h7 : l.length = 7
  · have e1 : (B l).extract 0 4 = B (l.take 4) := by rw [B_ext, List.drop_zero]
    have e2 : (B l).extract 4 6 = B ((l.drop 4).take 2) := by rw [B_ext, List.drop_take]
    have e3 : (B l).extract 6 l.length = B (l.drop 6) := by rw [B_ext, List.take_of_length_le (Nat.le_refl _)]
    have rS : ∀ t, Ev (fun k => cond (cond (cond (cond (cond (decide (nmL (l.take 4) < 0)) true (decide (nmL (l.take 4) > 9999))) true (decide (nmL ((l.drop 4).take 2) < 1))) true (decide (nmL (l.drop 6) < 1))) true (decide (nmL (l.drop 6) > 7))) (some (0, (10 : Int))) (
        (interchangeref1_before k (nmL (l.take 4))).bind fun y3 => cond (nmL (l.take 4) == 0) (some (0, 10)) (interchangeref1_readWeek_c8 k (nmL (l.take 4)) (nmL ((l.drop 4).take 2)) (nmL (l.drop 6)) (wi64 (y3 + 1)) (maxI 1 (wi64 ((wi64 (y3 + 1)) - 7)))))) t → Ev (fun k => interchangeref1_ReadDay k (B l) 5 c) t := by
      intro t ht
      refine .step (fun k => interchangeref1_ReadDay_eq k _ _ _) (.bind w1 (.ff rfl (.bind w2 (.ff rfl (.ff rfl (.ff rfl (.ff rfl (.tt rfl (.tt rfl (.tt rfl (.tt rfl (.ff rfl (.tt ?_ (.ret (.step (fun k => interchangeref1_readWeek_eq k _) ?_) rfl))))))))))))))
      · rw [size_B, hs, decide_eq_true h7]; rfl
      · simp only [size_B, e1, e2, e3]
        exact .ck (by omega) (.bind (ev_numB _ (by rw [List.length_take]; omega)) (.ck (by omega) (.bind (ev_numB _ (by rw [List.length_take]; omega)) (.ck (by omega) (.bind (ev_numB _ (by rw [List.length_drop]; omega)) ht)))))
    cases hok : okP [4, 2, 1] l with
    | false =>
      have := okP3_no hok h7
      refine ⟨(0, 10), rS _ (.tt ?_ (.pure _)), aF _ (fun _ => rfl) (fun h d1 d2 d3 => by rw [okP3.2 ⟨h, d1, d2, d3⟩] at hok; cases hok)⟩
      rcases this with h | h | h
      · rw [h]; rfl
      · rw [h, decide_eq_true (by decide : (-1 : Int) < 1)]
        cases (cond (decide (nmL (l.take 4) < 0)) true (decide (nmL (l.take 4) > 9999))) <;> rfl
      · have h' : nmL (l.drop 6) = -1 := h
        rw [h', decide_eq_true (by decide : (-1 : Int) < 1)]
        cases (cond (cond (decide (nmL (l.take 4) < 0)) true (decide (nmL (l.take 4) > 9999))) true (decide (nmL ((l.drop 4).take 2) < 1))) <;> rfl
    | true =>
      obtain ⟨_, d1, d2, d3⟩ := okP3.1 hok
      have b1 := dv_lt (digB_all d1)
      have b2 := dv_lt (digB_all d2)
      have b3 := dv_lt (digB_all d3)
      rw [List.length_take, Nat.min_eq_left (by omega)] at b1
      rw [List.length_take, List.length_drop, Nat.min_eq_left (by omega)] at b2
      rw [List.length_drop, h7] at b3
      have d3' : digB (l.drop 6) = true := d3
      have b3' : dv (l.drop 6) < 10 ^ (7 - (4 + 2)) := b3
      rw [nmL_yes d1, nmL_yes d2, nmL_yes d3'] at rS
      have p4 : (10 : Nat) ^ 4 = 10000 := by decide
      have p2 : (10 : Nat) ^ 2 = 100 := by decide
      have p1 : (10 : Nat) ^ (7 - (4 + 2)) = 10 := by decide
      rw [p4] at b1
      rw [p2] at b2
      rw [p1] at b3'
      obtain ⟨r, r1, r2⟩ := ev_aweek ((dv (l.take 4) : Nat) : Int) ((dv ((l.drop 4).take 2) : Nat) : Int) ((dv (l.drop 6) : Nat) : Int) (by omega) (by omega) (by omega)
      have aT : ∀ t, fA r = t → ∃ r, Ev (fun k => amount_readDay k (B l) 5 c) r ∧ fA r = t := fun t ht => aF t (fun z => by rw [hok] at z; cases z) (fun _ _ _ _ => ⟨r, r1, ht⟩)
      have g1 : (0 : Int) ≤ ((dv (l.take 4) : Nat) : Int) ∧ ((dv (l.take 4) : Nat) : Int) ≤ 9999 := by omega
      generalize ((dv (l.take 4) : Nat) : Int) = y at *
      generalize ((dv ((l.drop 4).take 2) : Nat) : Int) = w at *
      generalize ((dv (l.drop 6) : Nat) : Int) = d at *
      have small : ∀ n, wkOk y w d n → 1 ≤ y ∧ y ≤ 9999 ∧ 1 ≤ w ∧ 1 ≤ d ∧ d ≤ 7 := by
        rintro n ⟨t, v, ht, hv, e1, e2, e3, e4, e5⟩
        have := hv.y1
        have := hv.y2
        have := (wk_w hv e2).2.1
        omega
      by_cases hg : 1 ≤ y ∧ y ≤ 9999 ∧ 1 ≤ w ∧ 1 ≤ d ∧ d ≤ 7
      · obtain ⟨q1, q2⟩ := ev_rweek_c8 y w d (by omega)
        have hb := bef_small (y := y) (by omega) (by omega)
        have go : ∀ t, Ev (fun k => interchangeref1_readWeek_c8 k y w d (bef y + 1) (maxI 1 (wi64 (bef y + 1 - 7)))) t → Ev (fun k => interchangeref1_ReadDay k (B l) 5 c) t := fun t ht => by
          refine rS t (.ff ?_ (.bind (ev_rbefore (by omega) (by omega)) (.ff ?_ ?_)))
          · rw [decide_eq_false (by omega : ¬ y < 0), decide_eq_false (by omega : ¬ y > 9999), decide_eq_false (by omega : ¬ w < 1), decide_eq_false (by omega : ¬ d < 1), decide_eq_false (by omega : ¬ d > 7)]; rfl
          · have : y ≠ 0 := by omega
            simpa using this
          · rw [show wi64 (bef y + 1) = bef y + 1 from wi64_id (by omega) (by omega)]
            exact ht
        rcases r2 with ⟨rfl, hw⟩ | ⟨hr, hw⟩
        · exact ⟨_, go _ (q2 hw), aT _ rfl⟩
        · exact ⟨_, go _ (q1 hw), aT _ (by unfold fA; rw [hr]; rfl)⟩
      · have hno : ∀ n, ¬ wkOk y w d n := fun n hn => hg (small n hn)
        have hr : fA r = (0, 10) := by
          rcases r2 with ⟨rfl, hw⟩ | ⟨hr, hw⟩
          · exact absurd hw (hno _)
          · unfold fA; rw [hr]; rfl
        refine ⟨(0, 10), rS _ ?_, aT _ hr⟩
        by_cases h1 : 1 ≤ w ∧ 1 ≤ d ∧ d ≤ 7
        · have hy : y = 0 := by omega
          subst hy
          refine .ff ?_ (.bind (.step (fun k => interchangeref1_before_eq k _) (.pure _)) (.tt rfl (.pure _)))
          rw [decide_eq_false (by omega : ¬ w < 1), decide_eq_false (by omega : ¬ d < 1), decide_eq_false (by omega : ¬ d > 7)]; rfl
        · refine .tt ?_ (.pure _)
          by_cases h2 : w < 1
          · rw [decide_eq_true h2]
            cases (cond (decide (y < 0)) true (decide (y > 9999))) <;> rfl
          · by_cases h3 : d < 1
            · rw [decide_eq_true h3]
              cases (cond (cond (decide (y < 0)) true (decide (y > 9999))) true (decide (w < 1))) <;> rfl
            · rw [decide_eq_true (by omega : d > 7)]
              cases (cond (cond (cond (decide (y < 0)) true (decide (y > 9999))) true (decide (w < 1))) true (decide (d < 1))) <;> rfl
  · refine ⟨(0, 10), .step (fun k => interchangeref1_ReadDay_eq k _ _ _) (.bind w1 (.ff rfl (.bind w2 (.ff rfl (.ff rfl (.ff rfl (.ff rfl (.tt rfl (.tt rfl (.tt rfl (.tt rfl (.ff rfl (.ff ?_ ev_rEnd))))))))))))), aF _ (fun _ => rfl) (fun h _ _ _ => absurd h h7)⟩
    rw [size_B, hs, decide_eq_false h7]; rfl
end Go.Proofs.YtognnibmcifjeaaGreatDoor.Eq
namespace Go.Proofs.YtognnibmcifjeaaGreatDoor.Eq
open Go Go.Ra
set_option linter.unusedVariables false
set_option linter.unusedSimpArgs false

theorem ev_rd4 (l : List UInt8) (c : Int) (hc : 1 ≤ c ∧ c ≤ 9900) (hl : l.length ≤ 140737488351232) : ∃ t, Ev (fun k => interchangeref1_ReadDay k (B l) 4 c) t ∧ ∃ r, Ev (fun k => amount_readDay k (B l) 4 c) r ∧ fA r = t := by
  obtain ⟨w1, w2⟩ := ev_rdStart (l := l) (b := 4) (by decide) hc
  have hs := sz_eq l.length 10
  rw [show ((10 : Nat) : Int) = 10 from rfl] at hs
  refine ⟨if l.length = 10 ∧ l.getD 4 0 = 45 ∧ l.getD 7 0 = 45 then finD (nmL (l.take 4)) (nmL ((l.drop 5).take 2)) (nmL (l.drop 8)) else (0, 10), .step (fun k => interchangeref1_ReadDay_eq k _ _ _) (.bind w1 (.ff rfl (.bind w2 (.ff rfl (.ff rfl (.ff rfl (.ff rfl ?_))))))), ?_⟩
  · simp only [size_B, hs]
    by_cases h10 : l.length = 10
    · have b4 : bt (B l) 4 = (((l.getD 4 0).toNat : Nat) : Int) := bt_B (i := 4) (by omega)
      have b7 : bt (B l) 7 = (((l.getD 7 0).toNat : Nat) : Int) := bt_B (i := 7) (by omega)
      have e45 : ∀ b : UInt8, ((((b.toNat : Nat) : Int)) == 45) = decide (b = 45) := fun b => by
        by_cases h : b = 45
        · rw [h]; rfl
        · rw [decide_eq_false h]
          have : ((b.toNat : Nat) : Int) ≠ 45 := fun z => h (UInt8.toNat_inj.1 (by rw [show (45 : UInt8).toNat = 45 from rfl]; omega))
          simpa using this
      rw [b4, b7, e45, e45, decide_eq_true h10]
      have e1 : (B l).extract 0 4 = B (l.take 4) := by rw [B_ext, List.drop_zero]
      have e2 : (B l).extract 5 7 = B ((l.drop 5).take 2) := by rw [B_ext, List.drop_take]
      have e3 : (B l).extract 8 l.length = B (l.drop 8) := by rw [B_ext, List.take_of_length_le (Nat.le_refl _)]
      rw [e1, e2, e3]
      by_cases h4 : l.getD 4 0 = 45
      · by_cases h7 : l.getD 7 0 = 45
        · rw [if_pos ⟨h10, h4, h7⟩, decide_eq_true h4, decide_eq_true h7]
          exact .tt rfl (.tt (by rw [h10]; rfl) (.tt rfl (.tt (by rw [h10]; rfl) (.tt rfl (.ck (by omega) (.bind (ev_numB _ (by rw [List.length_take]; omega)) (.ck (by omega) (.bind (ev_numB _ (by rw [List.length_take]; omega)) (.ck (by omega) (.bind (ev_numB _ (by rw [List.length_drop]; omega)) (ev_rFin _ _ _)))))))))))
        · rw [if_neg (fun z => h7 z.2.2), decide_eq_true h4, decide_eq_false h7]
          exact .tt rfl (.tt (by rw [h10]; rfl) (.tt rfl (.tt (by rw [h10]; rfl) (.ff rfl (.ff rfl ev_rEnd)))))
      · rw [if_neg (fun z => h4 z.2.1), decide_eq_false h4]
        exact .tt rfl (.tt (by rw [h10]; rfl) (.tt rfl (.tt rfl (.ff rfl (.ff rfl ev_rEnd)))))
    · rw [if_neg (fun z => h10 z.1), decide_eq_false h10]
      exact .tt rfl (.tt rfl (.tt rfl (.tt rfl (.ff rfl (.ff rfl ev_rEnd)))))
  · have hm : (l.filter fun b => b != 45).length ≤ l.length := List.length_filter_le _ _
    have e45 : bs [45] = B [45] := rfl
    -- what the three blocks are, if the text is right
    have good : (l.length = 10 ∧ l.getD 4 0 = 45 ∧ l.getD 7 0 = 45) → digB (l.take 4) = true → digB ((l.drop 5).take 2) = true → digB (l.drop 8) = true →
        l.filter (fun b => b != 45) = l.take 4 ++ ((l.drop 5).take 2 ++ l.drop 8) := fun h d1 d2 d3 => by
      conv => lhs; rw [dash_split h.1 h.2.1 h.2.2]
      exact dash_filter d1 d2 d3
    have bad : ¬ (digB (l.take 4) = true ∧ digB ((l.drop 5).take 2) = true ∧ digB (l.drop 8) = true) → finD (nmL (l.take 4)) (nmL ((l.drop 5).take 2)) (nmL (l.drop 8)) = (0, 10) := fun h => by
      refine finD_no ?_
      cases h1 : digB (l.take 4) with
      | false => exact .inl (nmL_no h1)
      | true =>
        cases h2 : digB ((l.drop 5).take 2) with
        | false => exact .inr (.inl (nmL_no h2))
        | true =>
          cases h3 : digB (l.drop 8) with
          | false => exact .inr (.inr (nmL_no h3))
          | true => exact absurd ⟨h1, h2, h3⟩ h
    have hrep := ev_Repl l 45 (by omega)
    generalize hmm : (l.filter fun b => b != 45) = m at hm good hrep
    obtain ⟨r, r1, r2⟩ := ev_aForm (a := 4) (b := 2) (c := 2) (by decide) m (by omega) (t := if l.length = 10 ∧ l.getD 4 0 = 45 ∧ l.getD 7 0 = 45 then finD (nmL (l.take 4)) (nmL ((l.drop 5).take 2)) (nmL (l.drop 8)) else (0, 10))
      (f := fun k y7 =>
          cond ((!(!(!y7.2))) || true) (
          cond ((!(!(!y7.2))) || (decide (4 ≤ ((B m).size : Int)))) (
          cond ((!(!(!y7.2))) || (decide (((B m).extract 0 4).size + 1 ≤ 9223372036854775807))) (
          cond ((!(!(!y7.2))) || true) (
          cond ((!(!(!y7.2))) || true) (
          cond ((!(!(!y7.2))) || (decide (6 ≤ ((B m).size : Int)))) (
          cond ((!(!(!y7.2))) || (decide ((((B m).extract 0 4) ++ (bs [45])).size + ((B m).extract 4 6).size ≤ 9223372036854775807))) (
          cond ((!(!(!y7.2))) || (decide (((((B m).extract 0 4) ++ (bs [45])) ++ ((B m).extract 4 6)).size + 1 ≤ 9223372036854775807))) (
          cond ((!(!(!y7.2))) || true) (
          cond ((!(!(!y7.2))) || (decide (6 ≤ ((B m).size : Int)))) (
          cond ((!(!(!y7.2))) || (decide ((((((B m).extract 0 4) ++ (bs [45])) ++ ((B m).extract 4 6)) ++ (bs [45])).size + ((B m).extract 6 (B m).size).size ≤ 9223372036854775807))) (
          cond (cond (!y7.2) true (!(eqS (B l) ((((((B m).extract 0 4) ++ (bs [45])) ++ ((B m).extract 4 6)) ++ (bs [45])) ++ ((B m).extract 6 (B m).size))))) (
            some (0, false)) (
            cond (decide (0 < (y7.1.length : Int))) (
            cond (decide (1 < (y7.1.length : Int))) (
            cond (decide (2 < (y7.1.length : Int))) (
            (amount_dayOf k (y7.1.getD 0 0) (y7.1.getD 1 0) (y7.1.getD 2 0)).bind fun y8 =>
            some y8) none) none) none)) none) none) none) none) none) none) none) none) none) none) none)
      (fun q hq => by rw [hq]; exact .tt rfl (.tt rfl (.tt rfl (.tt rfl (.tt rfl (.tt rfl (.tt rfl (.tt rfl (.tt rfl (.tt rfl (.tt rfl (.tt rfl (.pure _)))))))))))))
      (fun hno => by
        split
        · rename_i h
          refine bad fun ⟨d1, d2, d3⟩ => ?_
          have hx : (l.take 4).length = 4 := by rw [List.length_take]; omega
          have hy : ((l.drop 5).take 2).length = 2 := by rw [List.length_take, List.length_drop]; omega
          have hz : (l.drop 8).length = 2 := by rw [List.length_drop]; omega
          rw [good h d1 d2 d3] at hno
          have : okP [4, 2, 2] (l.take 4 ++ ((l.drop 5).take 2 ++ l.drop 8)) = true := by
            refine okP3.2 ⟨by rw [List.length_append, List.length_append, hx, hy, hz], ?_, ?_, ?_⟩
            · rw [List.take_append_of_le_length (by omega), List.take_of_length_le (by omega)]; exact d1
            · rw [List.drop_append, List.drop_of_length_le (by omega), hx, List.nil_append, List.drop_zero, List.take_append_of_le_length (by omega), List.take_of_length_le (by omega)]; exact d2
            · rw [← List.append_assoc, List.drop_append, List.drop_of_length_le (by rw [List.length_append]; omega), List.length_append, hx, hy, List.nil_append]; exact d3
          rw [this] at hno
          cases hno
        · rfl)
      (fun h8 d1 d2 d3 => by
        have e1 : (B m).extract 0 4 = B (m.take 4) := by rw [B_ext, List.drop_zero]
        have e2 : (B m).extract 4 6 = B ((m.drop 4).take 2) := by rw [B_ext, List.drop_take]
        have e3 : (B m).extract 6 (B m).size = B (m.drop 6) := by rw [size_B, B_ext, List.take_of_length_le (Nat.le_refl _)]
        rw [e1, e2, e3, e45]
        have hx : (m.take 4).length = 4 := by rw [List.length_take]; omega
        have hy : ((m.drop 4).take 2).length = 2 := by rw [List.length_take, List.length_drop]; omega
        have hz : (m.drop 6).length = 2 := by rw [List.length_drop]; omega
        have d3' : digB (m.drop 6) = true := d3
        have he6 : m.drop (4 + 2) = m.drop 6 := rfl
        rw [he6]
        simp only [B_app, size_B]
        rw [h8]
        generalize hgx : m.take 4 = x at d1 hx ⊢
        generalize hgy : (m.drop 4).take 2 = y at d2 hy ⊢
        generalize hgz : m.drop 6 = z at d3' hz ⊢
        have hE : ((((x ++ [45]) ++ y) ++ [45]) ++ z) = x ++ ([45] ++ (y ++ ([45] ++ z))) := by simp
        rw [hE]
        simp only [List.length_append, List.length_singleton, hx, hy, hz]
        by_cases he : l = x ++ ([45] ++ (y ++ ([45] ++ z)))
        · obtain ⟨r, r1, r2⟩ := ev_aFin ((dv x : Nat) : Int) ((dv y : Nat) : Int) ((dv z : Nat) : Int)
          obtain ⟨p1, p2, p3, p4, p5, p6⟩ := dash_parts hx hy hz
          refine ⟨r, .tt rfl (.tt rfl (.tt rfl (.tt rfl (.tt rfl (.tt rfl (.tt rfl (.tt rfl (.tt rfl (.tt rfl (.tt rfl (.ff ?_ (.ck (by simp) (.ck (by simp) (.ck (by simp) (.ret r1 rfl))))))))))))))), ?_⟩
          · rw [← he, eqS_self]; rfl
          · rw [r2]
            rw [← he] at p1 p2 p3 p4 p5 p6
            rw [if_pos ⟨p1, p2, p3⟩, p4, p5, p6, nmL_yes d1, nmL_yes d2, nmL_yes d3']
        · refine ⟨(0, false), .tt rfl (.tt rfl (.tt rfl (.tt rfl (.tt rfl (.tt rfl (.tt rfl (.tt rfl (.tt rfl (.tt rfl (.tt rfl (.tt ?_ (.pure _)))))))))))), ?_⟩
          · rw [eqS_ne (fun q => he (by have := congrArg L q; rwa [L_B, L_B] at this))]; rfl
          · show (0, (10 : Int)) = _
            split
            · rename_i h
              refine (bad fun ⟨q1, q2, q3⟩ => he ?_).symm
              have hf := good h q1 q2 q3
              have hx' : (l.take 4).length = 4 := by rw [List.length_take]; omega
              have hy' : ((l.drop 5).take 2).length = 2 := by rw [List.length_take, List.length_drop]; omega
              rw [hf, List.take_append_of_le_length (by omega), List.take_of_length_le (by omega)] at hgx
              rw [hf, List.drop_append, List.drop_of_length_le (by omega), hx', List.nil_append, List.drop_zero, List.take_append_of_le_length (by omega), List.take_of_length_le (by omega)] at hgy
              rw [hf, ← List.append_assoc, List.drop_append, List.drop_of_length_le (by rw [List.length_append]; omega), List.length_append, hx', hy', List.nil_append] at hgz
              rw [← hgx, ← hgy, ← hgz]
              exact dash_split h.1 h.2.1 h.2.2
            · rfl)
    refine ⟨r, .step (fun k => amount_readDay_eq k _ _ _) (.ff rfl (.ff rfl (.ff rfl (.tt rfl ?_)))), r2⟩
    rw [e45]
    exact .bind hrep r1
theorem ev_law_dayRead (a : ByteArray) (b c : Int) (ha : a.size ≤ 140737488351232) : Ev (fun k => interchangelaw1_AmountDayReadsMatchSpec k a b c) true := by
  have e1 : a = B (L a) := (B_L a).symm
  have s1 : (L a).length = a.size := size_L a
  rw [e1]
  have hl : (L a).length ≤ 140737488351232 := by omega
  generalize L a = l at hl
  have key : ∃ t, Ev (fun k => interchangeref1_ReadDay k (B l) b c) t ∧ Ev (fun k => amount_ReadDay k (B l) b c) t := by
    have hf : Ev (fun k => amount_isForm k b) (decide (1 ≤ b ∧ b ≤ 5)) := by
      refine .step (fun k => amount_isForm_eq k _) (.bind (ev_Outside' _ _ _) (.to (.pure _) ?_))
      by_cases h : 1 ≤ b ∧ b ≤ 5
      · rw [decide_eq_true h, decide_eq_false (by omega)]; rfl
      · rw [decide_eq_false h, decide_eq_true (by omega)]; rfl
    have h1 := ev_within' b 1 5
    have h2 := ev_within' c 1 9900
    have h3 := ev_Outside' c 1 9900
    by_cases hb : 1 ≤ b ∧ b ≤ 5
    · rw [decide_eq_true hb] at hf h1
      by_cases hc : 1 ≤ c ∧ c ≤ 9900
      · rw [decide_eq_false (by omega)] at h3
        have hr : ∃ t, Ev (fun k => interchangeref1_ReadDay k (B l) b c) t ∧ ∃ r, Ev (fun k => amount_readDay k (B l) b c) r ∧ fA r = t := by
          have hcase : b = 1 ∨ b = 2 ∨ b = 3 ∨ b = 4 ∨ b = 5 := by omega
          rcases hcase with rfl | rfl | rfl | rfl | rfl
          · exact ev_rd1 l c hc (by omega)
          · exact ev_rd2 l c hc hl
          · exact ev_rd3 l c hc hl
          · exact ev_rd4 l c hc hl
          · exact ev_rd5 l c hc hl
        obtain ⟨t, t1, ⟨r1, r2⟩, q1, q2⟩ := hr
        refine ⟨t, t1, .step (fun k => amount_ReadDay_eq k _ _ _) (.bind hf (.ff rfl (.bind h3 (.ff rfl (.bind q1 ?_)))))⟩
        subst q2
        cases r2 with
        | true => exact .ff rfl (.pure _)
        | false => exact .tt rfl (.pure _)
      · rw [decide_eq_false hc] at h2
        rw [decide_eq_true (by omega)] at h3
        exact ⟨_, .step (fun k => interchangeref1_ReadDay_eq k _ _ _) (.bind h1 (.ff rfl (.bind h2 (.tt rfl (.pure _))))), .step (fun k => amount_ReadDay_eq k _ _ _) (.bind hf (.ff rfl (.bind h3 (.tt rfl (.pure _)))))⟩
    · rw [decide_eq_false hb] at hf h1
      exact ⟨_, .step (fun k => interchangeref1_ReadDay_eq k _ _ _) (.bind h1 (.tt rfl (.pure _))), .step (fun k => amount_ReadDay_eq k _ _ _) (.bind hf (.tt rfl (.pure _)))⟩
  obtain ⟨t, t1, t2⟩ := key
  refine .step (fun k => interchangelaw1_AmountDayReadsMatchSpec_eq k _ _ _) (.bind t1 (.bind t2 (.bind (.tt (by simp) ev_awake) (.to (.pure _) (by simp)))))
end Go.Proofs.YtognnibmcifjeaaGreatDoor.Eq
