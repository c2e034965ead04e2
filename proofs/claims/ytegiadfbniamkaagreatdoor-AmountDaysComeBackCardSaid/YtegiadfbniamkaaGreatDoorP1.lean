/- What the functions of this law compute, part 1. -/
import Derived.Test.YtegiadfbniamkaaGreatDoorRaEq
import Derived.Lib.Strings
import Derived.Lib.ItoaNum
import Derived.Lib.Repeat
import Derived.Lib.IndexBytes
import Derived.Lib.Replace
import Derived.Lib.Atoi
namespace Go.Ra
open Go Go.Ra

theorem eqS_iff (a b : ByteArray) : eqS a b = true ↔ a = b := by
  unfold eqS
  rw [beq_iff_eq, Lib.toList_data, Lib.toList_data]
  constructor
  · intro h
    rw [← Lib.mk_data a, ← Lib.mk_data b, h]
  · intro h
    rw [h]
theorem eqS_self (a : ByteArray) : eqS a a = true := (eqS_iff a a).2 rfl
theorem eqS_ne {a b : ByteArray} (h : a ≠ b) : eqS a b = false := by
  cases he : eqS a b with
  | false => rfl
  | true => exact absurd ((eqS_iff a b).1 he) h

theorem bor' {p q : Bool} (h : p = true → q = true) : ((!p) || q) = true := by
  cases p
  · rfl
  · simp [h rfl]

theorem bt_at {s : ByteArray} {i : Nat} (h : i < s.size) : bt s (i : Int) = (((s.data.toList.getD i 0).toNat : Nat) : Int) := by
  unfold bt
  rw [dif_pos (by simpa using h)]
  have h' : i < s.data.toList.length := by rw [← Lib.size_eq]; exact h
  simp [List.getD_eq_getElem?_getD, List.getElem?_eq_getElem h', ByteArray.getElem_eq_getElem_data]


/-! ### strings and lists of bytes -/
abbrev L (s : ByteArray) : List UInt8 := s.data.toList
def B (l : List UInt8) : ByteArray := ⟨l.toArray⟩
theorem L_B (l : List UInt8) : L (B l) = l := rfl
theorem B_L (s : ByteArray) : B (L s) = s := Lib.mk_data s
theorem L_app (a b : ByteArray) : L (a ++ b) = L a ++ L b := by
  simp [L, ByteArray.data_append]
theorem B_app (a b : List UInt8) : B a ++ B b = B (a ++ b) := by rw [← B_L (B a ++ B b), L_app, L_B, L_B]
theorem size_L (s : ByteArray) : s.size = (L s).length := Lib.size_eq s
theorem size_B (l : List UInt8) : (B l).size = l.length := by rw [size_L, L_B]
theorem L_ext (s : ByteArray) (i j : Nat) : L (s.extract i j) = ((L s).take j).drop i := by
  rw [List.drop_take]
  show (s.extract i j).data.toList = _
  rw [ByteArray.data_extract, Array.toList_extract]
theorem B_ext (l : List UInt8) (i j : Nat) : (B l).extract i j = B ((l.take j).drop i) := by rw [← B_L ((B l).extract i j), L_ext, L_B]
theorem L_inj {a b : ByteArray} (h : L a = L b) : a = b := by rw [← B_L a, h, B_L]
theorem eqS_L (a b : ByteArray) : eqS a b = decide (L a = L b) := by
  by_cases h : a = b
  · subst h; simp [eqS_self]
  · rw [eqS_ne h]
    simp only [Bool.false_eq, decide_eq_false_iff_not]
    exact fun z => h (L_inj z)
theorem L_bs_nil : L (bs []) = [] := rfl
end Go.Ra
namespace Go.Proofs.YtegiadfbniamkaaGreatDoor.Eq
open Go Go.Ra
theorem awake_at (k : Nat) : interchangelaw1_awake (k + 40) = some true := by kernel_rfl
theorem ev_awake : Ev (fun k => interchangelaw1_awake k) true := .off (n := 40) awake_at
end Go.Proofs.YtegiadfbniamkaaGreatDoor.Eq
namespace Go.Ra
open Go Go.Ra
/-- 1 in a year with a 29th of February. -/
def lp (y : Int) : Int := if y % 4 = 0 ∧ (y % 100 ≠ 0 ∨ y % 400 = 0) then 1 else 0
/-- The days of a month. -/
def dom (y : Int) (m : Nat) : Int := if m = 2 then 28 + lp y else if m = 4 ∨ m = 6 ∨ m = 9 ∨ m = 11 then 30 else 31
/-- The days before a year. -/
def bef (y : Int) : Int := 365 * (y - 1) + (y - 1) / 4 - (y - 1) / 100 + (y - 1) / 400
/-- The days of the first months. -/
def cum (y : Int) : Nat → Int
  | 0 => 0
  | j + 1 => cum y j + dom y (j + 1)
theorem lp_01 (y : Int) : lp y = 0 ∨ lp y = 1 := by unfold lp; split <;> simp
theorem bef_succ (y : Int) : bef (y + 1) = bef y + 365 + lp y := by
  unfold bef lp
  split <;> omega
theorem dom_pos (y : Int) (m : Nat) : 28 ≤ dom y m ∧ dom y m ≤ 31 := by
  have := lp_01 y
  unfold dom
  split
  · omega
  · split <;> omega
theorem cum_year (y : Int) : cum y 12 = 365 + lp y := by
  simp [cum, dom]
  omega
theorem cum_le {y : Int} {i j : Nat} (h : i ≤ j) : cum y i ≤ cum y j := by
  induction j with
  | zero =>
    have : i = 0 := by omega
    subst this
    exact Int.le_refl _
  | succ j ih =>
    by_cases e : i = j + 1
    · rw [e]; exact Int.le_refl _
    · have := ih (by omega)
      have := dom_pos y (j + 1)
      simp only [cum]
      omega
theorem cum_nonneg (y : Int) (j : Nat) : 0 ≤ cum y j := cum_le (y := y) (Nat.zero_le j)
/-- A date. -/
structure Dt where
  y : Int
  m : Nat
  d : Int
structure Dt.Ok (t : Dt) : Prop where
  y1 : 1 ≤ t.y
  y2 : t.y ≤ 9999
  m1 : 1 ≤ t.m
  m2 : t.m ≤ 12
  d1 : 1 ≤ t.d
  d2 : t.d ≤ dom t.y t.m
def Dt.n (t : Dt) : Int := bef t.y + cum t.y (t.m - 1) + t.d
theorem Dt.Ok.in_year {t : Dt} (h : t.Ok) : bef t.y < t.n ∧ t.n ≤ bef (t.y + 1) := by
  have h1 := cum_nonneg t.y (t.m - 1)
  have h2 : cum t.y (t.m - 1) + dom t.y t.m ≤ cum t.y 12 := by
    have e : cum t.y (t.m - 1) + dom t.y t.m = cum t.y (t.m - 1 + 1) := by
      simp only [cum]
      rw [Nat.sub_add_cancel h.m1]
    rw [e]
    exact cum_le (by have := h.m1; have := h.m2; omega)
  have := cum_year t.y
  have := bef_succ t.y
  have := h.d1
  have := h.d2
  unfold Dt.n
  omega
theorem bef_mono {a b : Int} (h : a ≤ b) : bef a ≤ bef b := by
  unfold bef
  omega
theorem Dt.Ok.bound {t : Dt} (h : t.Ok) : 1 ≤ t.n ∧ t.n ≤ 3652059 := by
  have := h.in_year
  have h1 := bef_mono (a := 1) (b := t.y) h.y1
  have h2 := bef_mono (a := t.y + 1) (b := 10000) (by have := h.y2; omega)
  have e1 : bef 1 = 0 := by decide
  have e2 : bef 10000 = 3652059 := by decide
  omega
/-- Each number is that of a date. -/
theorem Dt.ex {n : Int} (h1 : 1 ≤ n) (h2 : n ≤ 3652059) : ∃ t : Dt, t.Ok ∧ t.n = n := by
  have year : ∀ (m : Nat) (y : Int), 10000 - y = m → 1 ≤ y → y ≤ 10000 → bef y < n → ∃ z, 1 ≤ z ∧ z ≤ 9999 ∧ bef z < n ∧ n ≤ bef (z + 1) := by
    intro m
    induction m with
    | zero =>
      intro y hm h3 h4 h5
      have : y = 10000 := by omega
      subst this
      have : bef 10000 = 3652059 := by decide
      omega
    | succ m ih =>
      intro y hm h3 h4 h5
      by_cases h : n ≤ bef (y + 1)
      · exact ⟨y, h3, by omega, h5, h⟩
      · exact ih (y + 1) (by omega) (by omega) (by omega) (by omega)
  have hz : bef 1 = 0 := by decide
  obtain ⟨y, y1, y2, y3, y4⟩ := year 9999 1 (by decide) (by decide) (by decide) (by omega)
  have month : ∀ (k j : Nat), 12 - j = k → j ≤ 12 → cum y j < n - bef y → ∃ m, m < 12 ∧ cum y m < n - bef y ∧ n - bef y ≤ cum y (m + 1) := by
    intro k
    induction k with
    | zero =>
      intro j hk hj hc
      have : j = 12 := by omega
      subst this
      have := cum_year y
      have := bef_succ y
      omega
    | succ k ih =>
      intro j hk hj hc
      by_cases h : n - bef y ≤ cum y (j + 1)
      · exact ⟨j, by omega, hc, h⟩
      · exact ih (j + 1) (by omega) (by omega) (by omega)
  obtain ⟨m, m1, m2, m3⟩ := month 12 0 rfl (by decide) (by simp only [cum]; omega)
  simp only [cum] at m3
  refine ⟨⟨y, m + 1, n - bef y - cum y m⟩, ⟨y1, y2, by simp, by simp; omega, by simp; omega, by simp; omega⟩, ?_⟩
  simp only [Dt.n, Nat.add_sub_cancel]
  omega
end Go.Ra
namespace Go.Proofs.YtegiadfbniamkaaGreatDoor.Eq
open Go Go.Ra
set_option linter.unusedVariables false

theorem befW {y : Int} (h1 : 1 ≤ y) (h2 : y ≤ 100000) : wi64 ((wi64 ((wi64 ((wi64 (365 * (wi64 (y - 1)))) + (wi64 ((wi64 (y - 1)).tdiv 4)))) - (wi64 ((wi64 (y - 1)).tdiv 100)))) + (wi64 ((wi64 (y - 1)).tdiv 400))) = bef y := by
  have e0 : wi64 (y - 1) = y - 1 := wi64_id (by omega) (by omega)
  have d1 : (y - 1).tdiv 4 = (y - 1) / 4 := Int.tdiv_eq_ediv_of_nonneg (by omega)
  have d2 : (y - 1).tdiv 100 = (y - 1) / 100 := Int.tdiv_eq_ediv_of_nonneg (by omega)
  have d3 : (y - 1).tdiv 400 = (y - 1) / 400 := Int.tdiv_eq_ediv_of_nonneg (by omega)
  rw [e0, d1, d2, d3]
  rw [wi64_id (x := 365 * (y - 1)) (by omega) (by omega), wi64_id (x := (y - 1) / 4) (by omega) (by omega), wi64_id (x := (y - 1) / 100) (by omega) (by omega), wi64_id (x := (y - 1) / 400) (by omega) (by omega)]
  rw [wi64_id (x := 365 * (y - 1) + (y - 1) / 4) (by omega) (by omega), wi64_id (x := 365 * (y - 1) + (y - 1) / 4 - (y - 1) / 100) (by omega) (by omega)]
  exact wi64_id (by omega) (by omega)
theorem ev_abefore {y : Int} (h1 : 1 ≤ y) (h2 : y ≤ 100000) : Ev (fun k => amount_before k y) (bef y) := .step (fun k => amount_before_eq k _) (.to (.pure _) (befW h1 h2))
theorem bef_small {y : Int} (h1 : 1 ≤ y) (h2 : y ≤ 100000) : 0 ≤ bef y ∧ bef y ≤ 36600000 := by
  unfold bef
  omega

theorem tmod4 {y : Int} (h : 0 ≤ y) (b : Int) : y.tmod b = y % b := Int.tmod_eq_emod_of_nonneg h
theorem ev_aLeap {y : Int} (h : 0 ≤ y) : Ev (fun k => amount_isLeap k y) (decide (lp y = 1)) := by
  refine .step (fun k => amount_isLeap_eq k _) (.tt (by simp) (.tt (by simp) (.to (.pure _) ?_)))
  simp only [tmod4 h]
  unfold lp
  by_cases a : y % 4 = 0 <;> by_cases b : y % 100 = 0 <;> by_cases c : y % 400 = 0 <;> simp [a, b, c]
theorem dom_tab (y : Int) {m : Nat} (h1 : 1 ≤ m) (h2 : m ≤ 12) (h : ¬ (m = 2 ∧ lp y = 1)) : [31, 28, 31, 30, 31, 30, 31, 31, 30, 31, 30, (31 : Int)].getD (m - 1) 0 = dom y m := by
  have := lp_01 y
  obtain rfl | rfl | rfl | rfl | rfl | rfl | rfl | rfl | rfl | rfl | rfl | rfl : m = 1 ∨ m = 2 ∨ m = 3 ∨ m = 4 ∨ m = 5 ∨ m = 6 ∨ m = 7 ∨ m = 8 ∨ m = 9 ∨ m = 10 ∨ m = 11 ∨ m = 12 := by omega
  all_goals simp [dom]
  all_goals omega
theorem ev_adom {y : Int} (hy : 0 ≤ y) {m : Nat} (h1 : 1 ≤ m) (h2 : m ≤ 12) : Ev (fun k => amount_daysOf k y (m : Int)) (dom y m) := by
  refine .step (fun k => amount_daysOf_eq k _ _) ?_
  have hw : wi64 ((m : Int) - 1) = ((m - 1 : Nat) : Int) := by rw [wi64_id (by omega) (by omega)]; omega
  have rest : ¬ (m = 2 ∧ lp y = 1) → Ev (fun k => cond (decide (0 ≤ (wi64 ((m : Int) - 1)))) (cond (decide ((wi64 ((m : Int) - 1)) < 12)) (some ([31, 28, 31, 30, 31, 30, 31, 31, 30, 31, 30, (31 : Int)].getD (wi64 ((m : Int) - 1)).toNat 0)) none) none) (dom y m) := fun h => by
    rw [hw]
    refine .ck (by omega) (.ck (by omega) (.to (.pure _) ?_))
    rw [Int.toNat_natCast]
    exact dom_tab y h1 h2 h
  by_cases hm : m = 2
  · subst hm
    refine .bind (.tt rfl (ev_aLeap hy)) ?_
    by_cases hl : lp y = 1
    · refine .tt (by simp [hl]) (.to (.pure _) ?_)
      simp [dom, hl]
    · exact .ff (by simp [hl]) (rest fun z => hl z.2)
  · have hb : ((m : Int) == 2) = false := by simpa using (by omega : ¬ (m : Int) = 2)
    exact .bind (x := false) (.ff hb (.pure _)) (.ff (by simp) (rest fun z => hm z.1))
/-! ### the number of a date -/
theorem ev_aday_c5 {y : Int} (hy : 0 ≤ y) : ∀ (n m : Nat) (M : Nat) (s : Int), M - m = n → 1 ≤ m → m ≤ M → M ≤ 12 → -100000000 ≤ s → s + cum y 12 ≤ 100000000 + cum y (m - 1) → Ev (fun k => amount_dayOf_c5 k y (M : Int) s (m : Int)) (s + cum y (M - 1) - cum y (m - 1), true) := by
  intro n
  induction n with
  | zero =>
    intro m M s hn h1 h2 h3 _ _
    have : m = M := by omega
    subst this
    refine .step (fun k => amount_dayOf_c5_eq k _ _ _ _) (.nk (by omega) (.to (.pure _) ?_))
    congr 1
    omega
  | succ n ih =>
    intro m M s hn h1 h2 h3 hs hs2
    refine .step (fun k => amount_dayOf_c5_eq k _ _ _ _) (.ck (by omega) (.bind (ev_adom hy h1 (by omega)) ?_))
    have hd := dom_pos y m
    have e : cum y (m + 1 - 1) = cum y (m - 1) + dom y m := by
      obtain ⟨j, rfl⟩ : ∃ j, m = j + 1 := ⟨m - 1, by omega⟩
      simp only [cum, Nat.add_sub_cancel]
    have hl : cum y (m + 1 - 1) ≤ cum y 12 := cum_le (by omega)
    rw [wi64_id (x := s + dom y m) (by omega) (by omega), show wi64 ((m : Int) + 1) = ((m + 1 : Nat) : Int) by rw [wi64_id (by omega) (by omega)]; rfl]
    refine (ih (m + 1) M (s + dom y m) (by omega) (by omega) (by omega) h3 (by omega) (by omega)).to ?_
    rw [e]
    congr 1
    omega
/-- What DayOf computes. -/
def okDt (a b c : Int) : Prop := 1 ≤ a ∧ a ≤ 9999 ∧ 1 ≤ b ∧ b ≤ 12 ∧ 1 ≤ c ∧ c ≤ dom a b.toNat
instance (a b c : Int) : Decidable (okDt a b c) := by unfold okDt; infer_instance
theorem Dt.Ok.is {t : Dt} (h : t.Ok) : okDt t.y (t.m : Int) t.d := by
  refine ⟨h.y1, h.y2, ?_, ?_, h.d1, ?_⟩
  · have := h.m1; omega
  · have := h.m2; omega
  · rw [Int.toNat_natCast]; exact h.d2
theorem ev_Outside' (a b c : Int) : Ev (fun k => kit_Outside k a b c) (decide (a < b ∨ a > c)) := by
  refine .step (fun k => kit_Outside_eq k a b c) (.to (.pure _) ?_)
  by_cases h : a < b <;> simp [h]
theorem ev_adayOf (a b c : Int) : Ev (fun k => amount_dayOf k a b c) (if okDt a b c then ((⟨a, b.toNat, c⟩ : Dt).n, true) else (0, false)) := by
  refine .step (fun k => amount_dayOf_eq k _ _ _) (.bind (ev_Outside' _ _ _) ?_)
  by_cases h1 : a < 1 ∨ a > 9999
  · rw [decide_eq_true h1, if_neg (by unfold okDt; omega)]
    exact .bind (x := false) (.ff rfl (.pure _)) (.bind (x := 0) (.ff rfl (.pure _)) (.bind (x := false) (.ff rfl (.pure _)) (.tt rfl (.pure _))))
  · rw [decide_eq_false h1]
    refine .bind (.tt rfl (ev_Outside' _ _ _)) ?_
    by_cases h2 : b < 1 ∨ b > 12
    · rw [decide_eq_true h2, if_neg (by unfold okDt; omega)]
      exact .bind (x := 0) (.ff rfl (.pure _)) (.bind (x := false) (.ff rfl (.pure _)) (.tt rfl (.pure _)))
    · rw [decide_eq_false h2]
      obtain ⟨m, rfl⟩ : ∃ m : Nat, b = m := ⟨b.toNat, by omega⟩
      refine .bind (.tt rfl (ev_adom (by omega) (by omega) (by omega))) (.bind (.tt rfl (ev_Outside' _ _ _)) ?_)
      by_cases h3 : c < 1 ∨ c > dom a m
      · rw [decide_eq_true h3, if_neg (by unfold okDt; rw [Int.toNat_natCast]; omega)]
        exact .tt rfl (.pure _)
      · rw [decide_eq_false h3, if_pos (by unfold okDt; rw [Int.toNat_natCast]; omega)]
        have hb := bef_small (y := a) (by omega) (by omega)
        have hd := dom_pos a m
        have hc := cum_year a
        have hl := lp_01 a
        refine .ff rfl (.bind (ev_abefore (by omega) (by omega)) ?_)
        rw [wi64_id (x := bef a + c) (by omega) (by omega)]
        refine (ev_aday_c5 (by omega) _ 1 m _ rfl (by omega) (by omega) (by omega) (by omega) (by show _ + cum a 12 ≤ 100000000 + cum a 0; have c0 : cum a 0 = 0 := rfl; omega)).to ?_
        simp only [cum, Dt.n, Nat.sub_self, Int.toNat_natCast]
        congr 1
        omega
theorem ev_aDayOf (a b c : Int) : Ev (fun k => amount_DayOf k a b c) (if okDt a b c then ((⟨a, b.toNat, c⟩ : Dt).n, 0) else (0, 1)) := by
  refine .step (fun k => amount_DayOf_eq k _ _ _) (.bind (ev_adayOf a b c) ?_)
  by_cases h : okDt a b c
  · rw [if_pos h, if_pos h]
    exact .ff rfl (.pure _)
  · rw [if_neg h, if_neg h]
    exact .tt rfl (.pure _)
/-! ### the date of a number -/
theorem ev_adate_c5 {t : Dt} (h : t.Ok) : ∀ (k m : Nat), t.m - m = k → 1 ≤ m → m ≤ t.m → Ev (fun q => amount_dateOf_c5 q t.y (m : Int) (t.n - bef t.y - cum t.y (m - 1))) (t.y, ((t.m : Int), t.d)) := by
  have y1 := h.y1
  have y2 := h.y2
  have m2 := h.m2
  have d1 := h.d1
  have d2 := h.d2
  have hb := bef_small (y := t.y) (by omega) (by omega)
  have hn := h.bound
  intro k
  induction k with
  | zero =>
    intro m hk h1 h2
    have : m = t.m := by omega
    subst this
    have e : t.n - bef t.y - cum t.y (t.m - 1) = t.d := by unfold Dt.n; omega
    rw [e]
    exact .step (fun q => amount_dateOf_c5_eq q _ _ _) (.bind (ev_adom (by omega) h1 m2) (.nk (by omega) (.pure _)))
  | succ k ih =>
    intro m hk h1 h2
    have e : cum t.y (m + 1 - 1) = cum t.y (m - 1) + dom t.y m := by
      obtain ⟨j, rfl⟩ : ∃ j, m = j + 1 := ⟨m - 1, by omega⟩
      simp only [cum, Nat.add_sub_cancel]
    have hl : cum t.y (m + 1 - 1) ≤ cum t.y (t.m - 1) := cum_le (by omega)
    have hd := dom_pos t.y m
    have hc0 := cum_nonneg t.y (m - 1)
    have hn' : t.n = bef t.y + cum t.y (t.m - 1) + t.d := rfl
    refine .step (fun q => amount_dateOf_c5_eq q _ _ _) (.bind (ev_adom (by omega) h1 (by omega)) (.ck (by omega) (.bind (ev_adom (by omega) h1 (by omega)) ?_)))
    rw [show wi64 ((m : Int) + 1) = ((m + 1 : Nat) : Int) by rw [wi64_id (by omega) (by omega)]; rfl, wi64_id (by omega) (by omega)]
    have := ih (m + 1) (by omega) (by omega) (by omega)
    rw [e] at this
    rw [show t.n - bef t.y - cum t.y (m - 1) - dom t.y m = t.n - bef t.y - (cum t.y (m - 1) + dom t.y m) by omega]
    exact this
/-- A year from which on is looked. -/
theorem year_start {t : Dt} (h : t.Ok) : 1 ≤ t.n / 366 + 1 ∧ t.n / 366 + 1 ≤ t.y := by
  have hn := h.bound
  have hi := h.in_year
  refine ⟨by omega, ?_⟩
  refine Classical.byContradiction fun z => ?_
  have := bef_mono (a := t.y + 1) (b := t.n / 366 + 1) (by omega)
  have e : bef (t.n / 366 + 1) < t.n := by
    unfold bef
    omega
  omega
theorem ev_adateOf {t : Dt} (h : t.Ok) : Ev (fun q => amount_dateOf q t.n) (t.y, ((t.m : Int), t.d)) := by
  have y1 := h.y1
  have y2 := h.y2
  have hn := h.bound
  have hi := h.in_year
  have hs := year_start h
  have key : ∀ (k : Nat) (y : Int), t.y - y = k → 1 ≤ y → y ≤ t.y → Ev (fun q => amount_dateOf_c2 q t.n y) (t.y, ((t.m : Int), t.d)) := by
    intro k
    induction k with
    | zero =>
      intro y hk h1 h2
      have : y = t.y := by omega
      subst this
      refine .step (fun q => amount_dateOf_c2_eq q _ _) ?_
      have fin : Ev (fun q => (amount_before q t.y).bind fun y1 => amount_dateOf_c5 q t.y 1 (wi64 (t.n - y1))) (t.y, ((t.m : Int), t.d)) := by
        refine .bind (ev_abefore (by omega) (by omega)) ?_
        have hb := bef_small (y := t.y) (by omega) (by omega)
        rw [wi64_id (by omega) (by omega)]
        have := ev_adate_c5 h _ 1 rfl (by omega) h.m1
        simpa [cum] using this
      by_cases hy : t.y < 9999
      · refine .bind (x := bef (t.y + 1)) (.ck hy ?_) ?_
        · rw [wi64_id (by omega) (by omega)]
          exact ev_abefore (by omega) (by omega)
        · rw [decide_eq_true hy]
          exact .ff (by simp; omega) fin
      · exact .bind (x := 0) (.nk hy (.pure _)) (.ff (by rw [decide_eq_false hy]; rfl) fin)
    | succ k ih =>
      intro y hk h1 h2
      have hb : bef (y + 1) < t.n := by
        have := bef_mono (a := y + 1) (b := t.y) (by omega)
        omega
      refine .step (fun q => amount_dateOf_c2_eq q _ _) (.bind (x := bef (y + 1)) (.ck (by omega) ?_) ?_)
      · rw [wi64_id (by omega) (by omega)]
        exact ev_abefore (by omega) (by omega)
      · refine .tt ?_ ?_
        · rw [decide_eq_true (show y < 9999 by omega)]
          simpa using hb
        · rw [wi64_id (by omega) (by omega)]
          exact ih (y + 1) (by omega) (by omega) (by omega)
  refine .step (fun q => amount_dateOf_eq q _) ?_
  rw [Int.tdiv_eq_ediv_of_nonneg (by omega), wi64_id (x := t.n / 366) (by omega) (by omega), wi64_id (by omega) (by omega)]
  obtain ⟨k, hk⟩ : ∃ k : Nat, t.y - (t.n / 366 + 1) = k := ⟨(t.y - (t.n / 366 + 1)).toNat, by omega⟩
  exact key k _ hk hs.1 hs.2
end Go.Proofs.YtegiadfbniamkaaGreatDoor.Eq
namespace Go.Ra
open Go Go.Ra
/-- A number from 0 on, with so many digits at least. -/
def pdL (n : Int) (w : Nat) : List UInt8 := List.replicate (w - (Lib.itoa n).length) 48 ++ Lib.itoa n
def pad (n : Int) (w : Nat) : ByteArray := B (pdL n w)
theorem nDig_le : ∀ (k u : Nat), 1 ≤ k → u < 10 ^ k → Lib.nDigits u ≤ k
  | 0, _, h, _ => by omega
  | k + 1, u, _, h => by
    by_cases hu : u < 10
    · rw [Lib.nDigits_small hu]; omega
    · rw [Lib.nDigits_big hu]
      have hk : 1 ≤ k := by
        rcases Nat.eq_zero_or_pos k with z | z
        · subst z; simp at h; omega
        · exact z
      have := nDig_le k (u / 10) hk (by rw [Nat.pow_succ] at h; omega)
      omega
theorem itoa_nat (n : Nat) : Lib.itoa (n : Int) = Lib.decDigits n := by
  unfold Lib.itoa
  rw [if_neg (by omega), Int.toNat_natCast]
theorem itoa_len {n : Int} {k : Nat} (h0 : 0 ≤ n) (hk : 1 ≤ k) (h : n < 10 ^ k) : (Lib.itoa n).length ≤ k := by
  obtain ⟨m, rfl⟩ : ∃ m : Nat, n = m := ⟨n.toNat, by omega⟩
  rw [itoa_nat, Lib.decDigits_length]
  exact nDig_le k m hk (by exact_mod_cast h)
theorem pdL_len {n : Int} {w : Nat} (h : (Lib.itoa n).length ≤ w) : (pdL n w).length = w := by
  unfold pdL
  rw [List.length_append, List.length_replicate]
  omega
theorem pad_size {n : Int} {w : Nat} (h : (Lib.itoa n).length ≤ w) : (pad n w).size = w := by
  unfold pad
  rw [size_B, pdL_len h]
theorem l4 {n : Int} (h0 : 0 ≤ n) (h : n ≤ 9999) : (Lib.itoa n).length ≤ 4 := itoa_len h0 (by decide) (by omega)
theorem l2 {n : Int} (h0 : 0 ≤ n) (h : n ≤ 99) : (Lib.itoa n).length ≤ 2 := itoa_len h0 (by decide) (by omega)
theorem l1 {n : Int} (h0 : 0 ≤ n) (h : n ≤ 9) : (Lib.itoa n).length ≤ 1 := itoa_len h0 (by decide) (by omega)
theorem rep48 (n : Nat) : Lib.repeatL [48] n = List.replicate n 48 := by
  have := Lib.repeatL_replicate 48 1 n
  simpa using this
/-- The Thursday of a day's week. -/
def thu (n : Int) : Int := n - (n - 1) % 7 + 3
theorem thu_in {n : Int} (h1 : 1 ≤ n) (h2 : n ≤ 3652059) : 1 ≤ thu n ∧ thu n ≤ 3652059 := by
  have e : thu n = 7 * ((n - 1) / 7) + 4 := by unfold thu; omega
  rw [e]
  omega
/-- The week's number, of a day whose Thursday is in a year. -/
def wk (y n : Int) : Int := (thu n - bef y - 1) / 7 + 1
/-- A day as a text. -/
def dtx (t v : Dt) (form : Int) : ByteArray :=
  if form = 1 then (pad t.y 4 ++ pad t.m 2) ++ pad t.d 2
  else if form = 2 then (pad (t.y % 100) 2 ++ pad t.m 2) ++ pad t.d 2
  else if form = 3 then (pad t.d 2 ++ pad t.m 2) ++ pad t.y 4
  else if form = 4 then (((pad t.y 4 ++ bs [45]) ++ pad t.m 2) ++ bs [45]) ++ pad t.d 2
  else (pad v.y 4 ++ pad (wk v.y t.n) 2) ++ pad ((t.n - 1) % 7 + 1) 1
end Go.Ra
namespace Go.Proofs.YtegiadfbniamkaaGreatDoor.Eq
open Go Go.Ra
set_option linter.unusedVariables false

theorem ev_Itoa {n : Int} (h1 : -9223372036854775808 ≤ n) (h2 : n ≤ 9223372036854775807) : Ev (fun k => strconv_Itoa k n) (B (Lib.itoa n)) := by
  refine .off (n := 0) fun k => ?_
  show strconv_Itoa (k + 0) n = _
  rw [strconv_Itoa_eq, decide_eq_true h1, decide_eq_true h2]
  rfl
theorem ev_Rep48 {n : Int} (h1 : 0 ≤ n) (h2 : n ≤ 1000000) : Ev (fun k => strings_Repeat k (bs [48]) n) (B (List.replicate n.toNat 48)) := by
  refine .off (n := 0) fun k => ?_
  show strings_Repeat (k + 0) (bs [48]) n = _
  have hs : (bs [48]).size = 1 := rfl
  rw [strings_Repeat_eq, decide_eq_true h1, decide_eq_true (show n ≤ 9223372036854775807 by omega), hs, decide_eq_true (by omega)]
  show some (B (Lib.repeatL [48] n.toNat)) = _
  rw [rep48]
theorem ev_apad {n : Int} {w : Nat} (h0 : 0 ≤ n) (h1 : n ≤ 9999) (hl : (Lib.itoa n).length ≤ w) (hw : w ≤ 10) : Ev (fun k => amount_padded k n (w : Int)) (pad n w) := by
  refine .step (fun k => amount_padded_eq k _ _) (.bind (ev_Itoa (by omega) (by omega)) ?_)
  have e : wi64 ((w : Int) - ((B (Lib.itoa n)).size : Int)) = ((w - (Lib.itoa n).length : Nat) : Int) := by
    rw [size_B, wi64_id (by omega) (by omega)]; omega
  rw [e]
  refine .bind (ev_Rep48 (by omega) (by omega)) (.ck (by rw [size_B, size_B, List.length_replicate]; omega) (.to (.pure _) ?_))
  rw [B_app, Int.toNat_natCast]
  rfl
theorem ev_kIsDay (n : Int) : Ev (fun k => kit_IsDay k n) (decide (1 ≤ n ∧ n ≤ 3652059)) := by
  refine .step (fun k => kit_IsDay_eq k _) (.bind (ev_Outside' _ _ _) (.to (.pure _) ?_))
  by_cases h : 1 ≤ n ∧ n ≤ 3652059
  · rw [decide_eq_true h, decide_eq_false (by omega)]; rfl
  · rw [decide_eq_false h, decide_eq_true (by omega)]; rfl
theorem ev_WeekDay2 {n : Int} (h1 : 1 ≤ n) (h2 : n ≤ 3652059) : Ev (fun k => amount_WeekDay k n) ((n - 1) % 7) := by
  refine .step (fun k => amount_WeekDay_eq k _) (.to (.pure _) ?_)
  rw [wi64_id (by omega) (by omega), Int.tmod_eq_emod_of_nonneg (by omega)]
theorem wk_w {v : Dt} (hv : v.Ok) {n : Int} (h : v.n = thu n) : wi64 ((wi64 ((wi64 ((wi64 ((thu n) - bef v.y)) - 1)).tdiv 7)) + 1) = wk v.y n ∧ 1 ≤ wk v.y n ∧ wk v.y n ≤ 53 := by
  have hi := hv.in_year
  have hb := bef_succ v.y
  have hl := lp_01 v.y
  have hbs := bef_small (y := v.y) hv.y1 (by have := hv.y2; omega)
  rw [h] at hi
  unfold wk
  have e1 : wi64 (thu n - bef v.y) = thu n - bef v.y := wi64_id (by omega) (by omega)
  have e2 : wi64 (thu n - bef v.y - 1) = thu n - bef v.y - 1 := wi64_id (by omega) (by omega)
  rw [e1, e2, Int.tdiv_eq_ediv_of_nonneg (by omega)]
  refine ⟨?_, by omega, by omega⟩
  rw [wi64_id (x := (thu n - bef v.y - 1) / 7) (by omega) (by omega)]
  exact wi64_id (by omega) (by omega)
theorem ev_aweekOf {t v : Dt} (ht : t.Ok) (hv : v.Ok) (h : v.n = thu t.n) : Ev (fun k => amount_weekOf k t.n) (v.y, wk v.y t.n) := by
  have hn := ht.bound
  have ht3 := thu_in hn.1 hn.2
  refine .step (fun k => amount_weekOf_eq k _) (.bind (ev_WeekDay2 hn.1 hn.2) ?_)
  have e : wi64 (wi64 (t.n - (t.n - 1) % 7) + 3) = thu t.n := by
    unfold thu at *
    rw [wi64_id (x := t.n - (t.n - 1) % 7) (by omega) (by omega), wi64_id (by omega) (by omega)]
  rw [e]
  have hd := ev_adateOf hv
  rw [h] at hd
  refine .bind hd (.bind (ev_abefore hv.y1 (by have := hv.y2; omega)) (.to (.pure _) ?_))
  rw [(wk_w hv h).1]
theorem ev_aDateOf (n : Int) : Ev (fun k => amount_DateOf k n) (0, (0, (0, 1))) ∧ ¬ (1 ≤ n ∧ n ≤ 3652059) ∨ ∃ t : Dt, t.Ok ∧ t.n = n ∧ Ev (fun k => amount_DateOf k n) (t.y, ((t.m : Int), (t.d, 0))) := by
  by_cases h : 1 ≤ n ∧ n ≤ 3652059
  · obtain ⟨t, h1, rfl⟩ := Dt.ex h.1 h.2
    refine .inr ⟨t, h1, rfl, .step (fun k => amount_DateOf_eq k _) (.bind (ev_kIsDay _) ?_)⟩
    rw [decide_eq_true h]
    exact .ff rfl (.bind (ev_adateOf h1) (.pure _))
  · refine .inl ⟨.step (fun k => amount_DateOf_eq k _) (.bind (ev_kIsDay _) ?_), h⟩
    rw [decide_eq_false h]
    exact .tt rfl (.pure _)
/-- The sizes of a day's numbers. -/
structure Szs (t v : Dt) : Prop where
  y4 : (Lib.itoa t.y).length ≤ 4
  y2 : (Lib.itoa (t.y % 100)).length ≤ 2
  m2 : (Lib.itoa (t.m : Int)).length ≤ 2
  d2 : (Lib.itoa t.d).length ≤ 2
  v4 : (Lib.itoa v.y).length ≤ 4
  w2 : (Lib.itoa (wk v.y t.n)).length ≤ 2
  e1 : (Lib.itoa ((t.n - 1) % 7 + 1)).length ≤ 1
theorem szs {t v : Dt} (ht : t.Ok) (hv : v.Ok) (h : v.n = thu t.n) : Szs t v := by
  have y1 := ht.y1
  have y2 := ht.y2
  have v1 := hv.y1
  have v2 := hv.y2
  have m2 := ht.m2
  have d1 := ht.d1
  have d2 := ht.d2
  have hd := dom_pos t.y t.m
  have hw := wk_w hv h
  exact ⟨l4 (by omega) (by omega), l2 (by omega) (by omega), l2 (by omega) (by omega), l2 (by omega) (by omega), l4 (by omega) (by omega), l2 (by omega) (by omega), l1 (by omega) (by omega)⟩
theorem beq_no {a b : Int} (h : a ≠ b) : (a == b) = false := by simpa using h

theorem pad1 {n : Int} (h0 : 0 ≤ n) (h : n ≤ 9) : pad n 1 = B (Lib.itoa n) := by
  unfold pad pdL
  have h1 := l1 h0 h
  obtain ⟨m, rfl⟩ : ∃ m : Nat, n = m := ⟨n.toNat, by omega⟩
  have : (Lib.itoa (m : Int)).length = 1 := by
    rw [itoa_nat, Lib.decDigits_length]
    exact Lib.nDigits_small (by omega)
  rw [this]
  rfl
theorem ev_aDayText {t v : Dt} (ht : t.Ok) (hv : v.Ok) (h : v.n = thu t.n) {form : Int} (hf : 1 ≤ form ∧ form ≤ 5) : Ev (fun k => amount_DayText k t.n form) (dtx t v form, 0) := by
  have z := szs ht hv h
  have y1 := ht.y1
  have y2 := ht.y2
  have v1 := hv.y1
  have v2 := hv.y2
  have m2 := ht.m2
  have d1 := ht.d1
  have d2 := ht.d2
  have hd := dom_pos t.y t.m
  have hw := wk_w hv h
  have hn := ht.bound
  have s1 := pad_size z.y4
  have s2 := pad_size z.y2
  have s3 := pad_size z.m2
  have s4 := pad_size z.d2
  have s5 := pad_size z.v4
  have s6 := pad_size z.w2
  have s7 := pad_size z.e1
  have s8 : (bs [45]).size = 1 := rfl
  have pY := ev_apad (n := t.y) (w := 4) (by omega) (by omega) z.y4 (by omega)
  have pm := ev_apad (n := (t.m : Int)) (w := 2) (by omega) (by omega) z.m2 (by omega)
  have pd := ev_apad (n := t.d) (w := 2) (by omega) (by omega) z.d2 (by omega)
  have py := ev_apad (n := t.y % 100) (w := 2) (by omega) (by omega) z.y2 (by omega)
  have pv := ev_apad (n := v.y) (w := 4) (by omega) (by omega) z.v4 (by omega)
  have pw := ev_apad (n := wk v.y t.n) (w := 2) (by omega) (by omega) z.w2 (by omega)
  refine .step (fun k => amount_DayText_eq k _ _) (.bind (.step (fun k => amount_isForm_eq k _) (.bind (ev_Outside' _ _ _) (.pure _))) ?_)
  rw [decide_eq_false (show ¬ (form < 1 ∨ form > 5) by omega)]
  refine .ff rfl (.bind (ev_kIsDay _) ?_)
  rw [decide_eq_true hn]
  refine .ff rfl (.bind (ev_adateOf ht) ?_)
  unfold dtx
  by_cases f1 : form = 1
  · rw [if_pos f1]
    exact .tt (by simp [f1]) (.bind pY (.bind pm (.ck (by omega) (.bind pd (.ck (by rw [ByteArray.size_append]; omega) (.pure _))))))
  rw [if_neg f1]
  refine .ff (beq_no f1) ?_
  by_cases f2 : form = 2
  · rw [if_pos f2]
    refine .tt (by simp [f2]) ?_
    rw [Int.tmod_eq_emod_of_nonneg (by omega)]
    exact .bind py (.bind pm (.ck (by omega) (.bind pd (.ck (by rw [ByteArray.size_append]; omega) (.pure _)))))
  rw [if_neg f2]
  refine .ff (beq_no f2) ?_
  by_cases f3 : form = 3
  · rw [if_pos f3]
    exact .tt (by simp [f3]) (.bind pd (.bind pm (.ck (by omega) (.bind pY (.ck (by rw [ByteArray.size_append]; omega) (.pure _))))))
  rw [if_neg f3]
  refine .ff (beq_no f3) ?_
  by_cases f4 : form = 4
  · rw [if_pos f4]
    exact .tt (by simp [f4]) (.bind pY (.ck (by omega) (.bind pm (.ck (by rw [ByteArray.size_append]; omega) (.ck (by rw [ByteArray.size_append, ByteArray.size_append]; omega) (.bind pd (.ck (by rw [ByteArray.size_append, ByteArray.size_append, ByteArray.size_append]; omega) (.pure _))))))))
  rw [if_neg f4]
  refine .ff (beq_no f4) (.bind (ev_aweekOf ht hv h) (.bind pv (.bind pw (.ck (by omega) (.bind (ev_WeekDay2 hn.1 hn.2) ?_)))))
  rw [wi64_id (x := (t.n - 1) % 7 + 1) (by omega) (by omega)]
  have s9 := pad_size z.e1
  rw [pad1 (by omega) (by omega)] at s9 ⊢
  exact .bind (ev_Itoa (by omega) (by omega)) (.ck (by rw [ByteArray.size_append]; omega) (.pure _))
end Go.Proofs.YtegiadfbniamkaaGreatDoor.Eq
namespace Go.Ra
open Go Go.Ra
def dgB (b : UInt8) : Bool := decide (48 ≤ b.toNat) && decide (b.toNat ≤ 57)
/-- Digits, at least one. -/
def digB (l : List UInt8) : Bool := !l.isEmpty && l.all dgB
/-- The number that digits spell. -/
def dvA (a : Nat) : List UInt8 → Nat
  | [] => a
  | b :: l => dvA (a * 10 + (b.toNat - 48)) l
def dv (l : List UInt8) : Nat := dvA 0 l
theorem dvA_app (l m : List UInt8) : ∀ a, dvA a (l ++ m) = dvA (dvA a l) m := by
  induction l with
  | nil => intro a; rfl
  | cons b l ih => intro a; exact ih _
theorem dvA_eq (l : List UInt8) : ∀ a, dvA a l = a * 10 ^ l.length + dvA 0 l := by
  induction l with
  | nil =>
    intro a
    show a = a * 10 ^ 0 + 0
    rw [Nat.pow_zero, Nat.mul_one, Nat.add_zero]
  | cons b l ih =>
    intro a
    have h1 := ih (a * 10 + (b.toNat - 48))
    have h2 := ih (0 * 10 + (b.toNat - 48))
    show dvA (a * 10 + (b.toNat - 48)) l = a * 10 ^ (l.length + 1) + dvA (0 * 10 + (b.toNat - 48)) l
    rw [h1, h2, Nat.pow_succ]
    generalize 10 ^ l.length = p
    generalize dvA 0 l = D
    generalize b.toNat - 48 = d
    rw [Nat.add_mul, Nat.zero_mul, Nat.zero_add, Nat.mul_assoc a 10 p, Nat.mul_comm 10 p, Nat.add_assoc]
theorem dv_app (l m : List UInt8) : dv (l ++ m) = dv l * 10 ^ m.length + dv m := by
  unfold dv
  rw [dvA_app, dvA_eq m]
theorem dv_one (b : UInt8) : dv [b] = b.toNat - 48 := by
  show 0 * 10 + (b.toNat - 48) = b.toNat - 48
  omega
theorem dgB_iff {b : UInt8} : dgB b = true ↔ 48 ≤ b.toNat ∧ b.toNat ≤ 57 := by simp [dgB]
theorem digB_len {l : List UInt8} (h : digB l = true) : 1 ≤ l.length := by
  cases l with
  | nil => simp [digB] at h
  | cons => simp
theorem digB_all {l : List UInt8} (h : digB l = true) : ∀ b ∈ l, dgB b = true := by
  unfold digB at h
  rw [Bool.and_eq_true] at h
  exact List.all_eq_true.1 h.2
theorem digB_iff {l : List UInt8} : digB l = true ↔ l ≠ [] ∧ ∀ b ∈ l, dgB b = true := by
  unfold digB
  rw [Bool.and_eq_true, List.all_eq_true]
  cases l <;> simp
theorem eqS_nil (s : ByteArray) : eqS s (bs []) = (L s).isEmpty := by
  rw [eqS_L, L_bs_nil]
  cases L s <;> simp
end Go.Ra
namespace Go.Proofs.YtegiadfbniamkaaGreatDoor.Eq
open Go Go.Ra
set_option linter.unusedVariables false

theorem ev_InBytes (s : ByteArray) (lo hi : Int) (hs : s.size < 1125899906842624) : Ev (fun k => kit_InBytes k s lo hi) ((L s).all fun b => decide (lo ≤ (b.toNat : Int)) && decide ((b.toNat : Int) ≤ hi)) := by
  refine .step (fun k => kit_InBytes_eq k _ _ _) ?_
  have hsz := size_L s
  have key : ∀ (m i : Nat), s.size - i = m → i ≤ s.size → Ev (fun k => kit_InBytes_c2 k s lo hi (s.size : Int) (i : Int)) (((L s).drop i).all fun b => decide (lo ≤ (b.toNat : Int)) && decide ((b.toNat : Int) ≤ hi)) := by
    intro m
    induction m with
    | zero =>
      intro i hm hi'
      refine .step (fun k => kit_InBytes_c2_eq k _ _ _ _ _) (.nk (by omega) (.to (.pure _) ?_))
      rw [List.drop_of_length_le (by omega)]
      rfl
    | succ m ih =>
      intro i hm hi'
      have hil : i < (L s).length := by omega
      have hd : (L s).drop i = (L s).getD i 0 :: (L s).drop (i + 1) := by
        rw [List.drop_eq_getElem_cons hil, List.getD_eq_getElem?_getD, List.getElem?_eq_getElem hil]
        rfl
      refine .step (fun k => kit_InBytes_c2_eq k _ _ _ _ _) (.ck (by omega) (.ck (by omega) (.ck (by omega) (.tt (bor' fun _ => by simp) (.tt (bor' fun _ => by simp; omega) ?_)))))
      rw [bt_at (by omega : i < s.size), hd, List.all_cons]
      generalize (L s).getD i 0 = b
      have hw : wi64 ((i : Int) + 1) = ((i + 1 : Nat) : Int) := by rw [wi64_id (by omega) (by omega)]; rfl
      by_cases h : lo ≤ (b.toNat : Int) ∧ (b.toNat : Int) ≤ hi
      · rw [decide_eq_true h.1, decide_eq_true h.2]
        refine .ff (by rw [decide_eq_false (by omega), decide_eq_false (by omega)]; rfl) ?_
        rw [hw]
        exact ih (i + 1) (by omega) (by omega)
      · refine .tt ?_ (.to (.pure _) ?_)
        · by_cases h1 : (b.toNat : Int) < lo
          · rw [decide_eq_true h1]; rfl
          · rw [decide_eq_false h1, decide_eq_true (by omega : (b.toNat : Int) > hi)]; rfl
        · have : (decide (lo ≤ (b.toNat : Int)) && decide ((b.toNat : Int) ≤ hi)) = false := by simpa using h
          rw [this]
          rfl
  have := key _ 0 rfl (by omega)
  simpa using this
theorem dgB_eq (b : UInt8) : (decide ((48 : Int) ≤ (b.toNat : Int)) && decide ((b.toNat : Int) ≤ 57)) = dgB b := by
  unfold dgB
  congr 1
  · exact decide_eq_decide.2 (by omega)
  · exact decide_eq_decide.2 (by omega)
theorem ev_kDig (s : ByteArray) (hs : s.size < 1125899906842624) : Ev (fun k => kit_IsDigits k s) (digB (L s)) := by
  refine .step (fun k => kit_IsDigits_eq k _) ?_
  rw [eqS_nil]
  unfold digB
  cases h : (L s).isEmpty with
  | true => exact .bind (x := false) (.ff rfl (.pure _)) (.pure _)
  | false =>
    refine .bind (.tt rfl (ev_InBytes s 48 57 hs)) (.to (.pure _) ?_)
    simp only [dgB_eq]
    rfl
/-! ### cutting -/
def cutB (l : List UInt8) (c : UInt8) : List UInt8 × List UInt8 × Bool :=
  if 0 ≤ Lib.indexByte l c then (l.take (Lib.indexByte l c).toNat, l.drop ((Lib.indexByte l c).toNat + 1), true) else (l, [], false)
theorem indexByte_none {l : List UInt8} {c : UInt8} (h : c ∉ l) : Lib.indexByte l c = -1 := by
  induction l with
  | nil => rfl
  | cons b l ih =>
    unfold Lib.indexByte
    have hb : b ≠ c := fun z => h (by simp [z])
    have := ih fun z => h (by simp [z])
    rw [this]
    simp [hb]
theorem indexByte_app {l m : List UInt8} {c : UInt8} (h : c ∉ l) : Lib.indexByte (l ++ c :: m) c = l.length := by
  induction l with
  | nil => simp [Lib.indexByte]
  | cons b l ih =>
    show Lib.indexByte (b :: (l ++ c :: m)) c = _
    unfold Lib.indexByte
    have hb : b ≠ c := fun z => h (by simp [z])
    have := ih fun z => h (by simp [z])
    rw [this]
    have hne : ¬ ((l.length : Int) == -1) = true := by simp
    simp [hb, hne]
theorem cutB_none {l : List UInt8} {c : UInt8} (h : c ∉ l) : cutB l c = (l, [], false) := by
  unfold cutB
  rw [indexByte_none h]
  rfl
theorem cutB_app {l m : List UInt8} {c : UInt8} (h : c ∉ l) : cutB (l ++ c :: m) c = (l, m, true) := by
  unfold cutB
  rw [indexByte_app h, if_pos (by omega), Int.toNat_natCast]
  simp
/-- What is cut is a text with the mark, or has none. -/
theorem cutB_cases (l : List UInt8) (c : UInt8) : (c ∉ l ∧ cutB l c = (l, [], false)) ∨ ∃ a b, l = a ++ c :: b ∧ c ∉ a ∧ cutB l c = (a, b, true) := by
  by_cases h : c ∈ l
  · obtain ⟨a, b, e, hn⟩ : ∃ a b, l = a ++ c :: b ∧ c ∉ a := by
      induction l with
      | nil => simp at h
      | cons x l ih =>
        by_cases hx : x = c
        · exact ⟨[], l, by simp [hx], by simp⟩
        · have : c ∈ l := by
            rcases List.mem_cons.1 h with z | z
            · exact absurd z.symm hx
            · exact z
          obtain ⟨a, b, rfl, q⟩ := ih this
          exact ⟨x :: a, b, rfl, by simp [q, Ne.symm hx]⟩
    subst e
    exact .inr ⟨a, b, rfl, hn, cutB_app hn⟩
  · exact .inl ⟨h, cutB_none h⟩
end Go.Proofs.YtegiadfbniamkaaGreatDoor.Eq
namespace Go.Proofs.YtegiadfbniamkaaGreatDoor.Eq
open Go Go.Ra
set_option linter.unusedVariables false

/-- Of fewer than a hundred digits. -/
def Sm (n : Int) : Prop := n.natAbs < 4294967296 ^ 100
theorem Sm.of {n : Int} (h : n.natAbs ≤ 10 ^ 130) : Sm n := Nat.lt_of_le_of_lt h (by decide)

/-! ### products -/
end Go.Proofs.YtegiadfbniamkaaGreatDoor.Eq
namespace Go.Ra
open Go Go.Ra
/-- A number's digits, the last one first. -/
def revDig : Nat → Nat → List UInt8
  | 0, _ => []
  | f + 1, n => if n = 0 then [] else UInt8.ofNat (48 + n % 10) :: revDig f (n / 10)
theorem dec_rev : ∀ (f n : Nat), n ≤ f → 0 < n → (revDig f n).reverse = Lib.decDigits n
  | 0, n, h, h0 => by omega
  | f + 1, n, h, h0 => by
    unfold revDig
    rw [if_neg (by omega)]
    by_cases h10 : n < 10
    · have e : n / 10 = 0 := Nat.div_eq_of_lt h10
      have e2 : n % 10 = n := Nat.mod_eq_of_lt h10
      rw [e, e2]
      have : revDig f 0 = [] := by cases f <;> simp [revDig]
      rw [this, Lib.decDigits_one h10]
      rfl
    · rw [List.reverse_cons, dec_rev f (n / 10) (by omega) (by omega)]
      conv => rhs; rw [Lib.decDigits]
      rw [dif_neg h10]
theorem revDig_more : ∀ (f g n : Nat), n ≤ f → n ≤ g → revDig f n = revDig g n
  | 0, 0, _, _, _ => rfl
  | 0, g + 1, n, h, _ => by
    have : n = 0 := by omega
    subst this; simp [revDig]
  | f + 1, 0, n, _, h => by
    have : n = 0 := by omega
    subst this; simp [revDig]
  | f + 1, g + 1, n, h1, h2 => by
    unfold revDig
    split
    · rfl
    · rw [revDig_more f g (n / 10) (by omega) (by omega)]
theorem revDig_step {n : Nat} (h : 0 < n) : revDig n n = UInt8.ofNat (48 + n % 10) :: revDig (n / 10) (n / 10) := by
  obtain ⟨m, rfl⟩ : ∃ m, n = m + 1 := ⟨n - 1, by omega⟩
  conv => lhs; unfold revDig
  rw [if_neg (by omega), revDig_more m ((m + 1) / 10) _ (by omega) (Nat.le_refl _)]
theorem revDig_dig : ∀ (f n : Nat), ∀ b ∈ revDig f n, dgB b = true
  | 0, _, b, h => by simp [revDig] at h
  | f + 1, n, b, h => by
    unfold revDig at h
    split at h
    · simp at h
    · rcases List.mem_cons.1 h with rfl | h
      · rw [dgB_iff, UInt8.toNat_ofNat']
        omega
      · exact revDig_dig f _ b h
theorem dv_rev : ∀ (f n : Nat), n ≤ f → dv (revDig f n).reverse = n
  | 0, n, h => by
    have : n = 0 := by omega
    subst this
    rfl
  | f + 1, n, h => by
    unfold revDig
    by_cases hn : n = 0
    · rw [if_pos hn, hn]; rfl
    · rw [if_neg hn, List.reverse_cons, dv_app, dv_rev f _ (by omega), dv_one, UInt8.toNat_ofNat']
      simp only [List.length_singleton]
      omega
/-- A number's digits. -/
theorem dec_dig (n : Nat) : digB (Lib.decDigits n) = true ∧ dv (Lib.decDigits n) = n := by
  rcases Nat.eq_zero_or_pos n with rfl | h
  · rw [Lib.decDigits_one (by decide)]
    exact ⟨rfl, rfl⟩
  · rw [← dec_rev n n (Nat.le_refl _) h]
    refine ⟨digB_iff.2 ⟨?_, fun b hb => revDig_dig n n b (by simpa using hb)⟩, dv_rev n n (Nat.le_refl _)⟩
    rw [revDig_step h]
    simp
end Go.Ra
namespace Go.Proofs.YtegiadfbniamkaaGreatDoor.Eq
open Go Go.Ra
set_option linter.unusedVariables false

end Go.Proofs.YtegiadfbniamkaaGreatDoor.Eq
namespace Go.Proofs.YtegiadfbniamkaaGreatDoor.Eq
open Go Go.Ra
set_option linter.unusedVariables false

/-- A right decimal. -/
def okD (d : Int × Int) : Prop := -1000000000000000 ≤ d.1 ∧ d.1 ≤ 1000000000000000 ∧ 0 ≤ d.2 ∧ d.2 ≤ 9
instance (d : Int × Int) : Decidable (okD d) := by unfold okD; infer_instance

end Go.Proofs.YtegiadfbniamkaaGreatDoor.Eq
namespace Go.Proofs.YtegiadfbniamkaaGreatDoor.Eq
open Go Go.Ra
set_option linter.unusedVariables false

/-- Of fewer than a hundred digits. -/
def Sr (n : Int) : Prop := n.natAbs < 1000000 ^ 100
theorem Sr.of {n : Int} (h : n.natAbs ≤ 10 ^ 130) : Sr n := Nat.lt_of_le_of_lt h (by decide)

end Go.Proofs.YtegiadfbniamkaaGreatDoor.Eq
namespace Go.Proofs.YtegiadfbniamkaaGreatDoor.Eq
open Go Go.Ra
set_option linter.unusedVariables false

/- products -/
/- as an int -/
/- long division -/
end Go.Proofs.YtegiadfbniamkaaGreatDoor.Eq
namespace Go.Proofs.YtegiadfbniamkaaGreatDoor.Eq
open Go Go.Ra
set_option linter.unusedVariables false

end Go.Proofs.YtegiadfbniamkaaGreatDoor.Eq
namespace Go.Proofs.YtegiadfbniamkaaGreatDoor.Eq
open Go Go.Ra
set_option linter.unusedVariables false

end Go.Proofs.YtegiadfbniamkaaGreatDoor.Eq
namespace Go.Proofs.YtegiadfbniamkaaGreatDoor.Eq
open Go Go.Ra
set_option linter.unusedVariables false

/-! ### a decimal's text -/
end Go.Proofs.YtegiadfbniamkaaGreatDoor.Eq
namespace Go.Proofs.YtegiadfbniamkaaGreatDoor.Eq
open Go Go.Ra
set_option linter.unusedVariables false

end Go.Proofs.YtegiadfbniamkaaGreatDoor.Eq
namespace Go.Ra
open Go Go.Ra
/-- A byte that can stand between digits. -/
def mkOk (b : Int) : Prop := ¬ ((48 ≤ b ∧ b ≤ 57) ∨ b = 45 ∨ b < 32 ∨ b > 126)
instance (b : Int) : Decidable (mkOk b) := by unfold mkOk; infer_instance
end Go.Ra
namespace Go.Proofs.YtegiadfbniamkaaGreatDoor.Eq
open Go Go.Ra
set_option linter.unusedVariables false

end Go.Proofs.YtegiadfbniamkaaGreatDoor.Eq
namespace Go.Proofs.YtegiadfbniamkaaGreatDoor.Eq
open Go Go.Ra
set_option linter.unusedVariables false

end Go.Proofs.YtegiadfbniamkaaGreatDoor.Eq
namespace Go.Proofs.YtegiadfbniamkaaGreatDoor.Eq
open Go Go.Ra
set_option linter.unusedVariables false

/- the reference -/
end Go.Proofs.YtegiadfbniamkaaGreatDoor.Eq
namespace Go.Ra
open Go Go.Ra
theorem dec_all (n : Nat) : ∀ b ∈ Lib.decDigits n, dgB b = true := digB_all (dec_dig n).1
end Go.Ra
namespace Go.Proofs.YtegiadfbniamkaaGreatDoor.Eq
open Go Go.Ra
set_option linter.unusedVariables false

/-! ### the implied point -/
end Go.Proofs.YtegiadfbniamkaaGreatDoor.Eq
namespace Go.Ra
open Go Go.Ra
theorem dv_zeros (k : Nat) (l : List UInt8) : dv (List.replicate k 48 ++ l) = dv l := by
  induction k with
  | zero => rfl
  | succ k ih =>
    rw [List.replicate_succ, List.cons_append]
    exact ih
end Go.Ra
namespace Go.Proofs.YtegiadfbniamkaaGreatDoor.Eq
open Go Go.Ra
set_option linter.unusedVariables false

theorem replaceK_one (c : UInt8) : ∀ (n : Nat) (s : List UInt8), s.length ≤ n → Lib.replaceK [c] [] (s.count c) s = s.filter (fun b => b != c)
  | n, s, hn => by
    by_cases h : c ∈ s
    · obtain ⟨a, b, rfl, ha⟩ : ∃ a b, s = a ++ c :: b ∧ c ∉ a := by
        rcases cutB_cases s c with ⟨z, _⟩ | ⟨a, b, e, ha, _⟩
        · exact absurd h z
        · exact ⟨a, b, e, ha⟩
      have e : (a ++ c :: b).count c = b.count c + 1 := by
        rw [List.count_append, List.count_cons_self, List.count_eq_zero_of_not_mem ha]; omega
      cases n with
      | zero => simp at hn
      | succ n =>
        rw [e, Lib.replaceK_hit [c] [] _ _ a.length (by rw [Lib.index_one]; exact indexByte_app ha)]
        have e2 : (a ++ c :: b).drop (a.length + [c].length) = b := by simp
        rw [e2, replaceK_one c n b (by simp at hn; omega)]
        have e3 : a.filter (fun b => b != c) = a := List.filter_eq_self.2 fun x hx => by
          have : x ≠ c := fun z => ha (z ▸ hx)
          simpa using this
        rw [List.filter_append, e3]
        simp
    · rw [List.count_eq_zero_of_not_mem h]
      show s = _
      exact (List.filter_eq_self.2 fun x hx => by
        have : x ≠ c := fun z => h (z ▸ hx)
        simpa using this).symm
theorem replaceAll_one (c : UInt8) (s : List UInt8) : Lib.replaceAll s [c] [] = s.filter (fun b => b != c) := by
  unfold Lib.replaceAll Lib.replace Lib.replaceNum
  rw [if_neg (by simp), if_pos (by left; decide), Lib.count_one]
  exact replaceK_one c s.length s (Nat.le_refl _)

end Go.Proofs.YtegiadfbniamkaaGreatDoor.Eq
namespace Go.Proofs.YtegiadfbniamkaaGreatDoor.Eq
open Go Go.Ra
set_option linter.unusedVariables false

theorem ev_Repl (l : List UInt8) (c : UInt8) (hl : l.length < 4294967281) : Ev (fun k => strings_ReplaceAll k (B l) (B [c]) (bs [])) (B (l.filter (fun b => b != c))) := by
  refine .off (n := 0) fun k => ?_
  have e1 : (bs []).size = 0 := rfl
  have e2 : (B [c]).size = 1 := rfl
  rw [strings_ReplaceAll_eq, size_B, e1, e2, Nat.mul_zero, decide_eq_true hl, decide_eq_true (Nat.le_refl 1), decide_eq_true (by omega : l.length + 0 ≤ 140737488355328)]
  show some _ = some _
  have e3 : (B l).data.toList = l := L_B l
  have e4 : (B [c]).data.toList = [c] := rfl
  have e5 : (bs []).data.toList = [] := rfl
  rw [e3, e4, e5, replaceAll_one]
  rfl
end Go.Proofs.YtegiadfbniamkaaGreatDoor.Eq
namespace Go.Proofs.YtegiadfbniamkaaGreatDoor.Eq
open Go Go.Ra
set_option linter.unusedVariables false

theorem decFrom_dvA : ∀ (l : List UInt8) (a : Nat), (∀ b ∈ l, dgB b = true) → Lib.decFrom a l = some (dvA a l)
  | [], a, _ => rfl
  | b :: l, a, h => by
    have hb := dgB_iff.1 (h b (by simp))
    unfold Lib.decFrom
    have e : Lib.digitVal b = some (b.toNat - 48) := by
      unfold Lib.digitVal
      rw [if_pos]
      exact hb
    rw [e]
    exact decFrom_dvA l _ fun x hx => h x (by simp [hx])
theorem atoi_dg {l : List UInt8} (h : digB l = true) : Lib.atoi l = some ((dv l : Nat) : Int) := by
  have hd := digB_all h
  cases l with
  | nil => simp [digB] at h
  | cons b r =>
    have hb := dgB_iff.1 (hd b (by simp))
    unfold Lib.atoi
    have h45 : (b == 45) = false := by
      have : b ≠ 45 := fun z => by rw [z] at hb; exact absurd hb.1 (by decide)
      simpa using this
    have h43 : (b == 43) = false := by
      have : b ≠ 43 := fun z => by rw [z] at hb; exact absurd hb.1 (by decide)
      simpa using this
    have e : Lib.decNat (b :: r) = some (dv (b :: r)) := decFrom_dvA (b :: r) 0 hd
    simp only [h45, h43, Bool.false_eq_true, if_false, e]
    rfl
theorem ev_Atoi (l : List UInt8) (h : digB l = true) (hl : l.length ≤ 18) : Ev (fun k => strconv_Atoi k (B l)) ((dv l : Int), true) := by
  refine .off (n := 0) fun k => ?_
  have e3 : (B l).data.toList = l := L_B l
  rw [strconv_Atoi_eq, e3, atoi_dg h, size_B, decide_eq_true hl]
  rfl
theorem ev_parts_step {x rest : List UInt8} {acc ws : List Int} {n i : Nat} {r : List Int × Bool} (hi : i < n) (hn : n = ws.length) (hx : digB x = true) (hw : ws.getD i 0 = (x.length : Int)) (hl : x.length ≤ 18) (hs : (x ++ rest).length ≤ 1000) (ha : acc.length ≤ 100) (hn2 : n ≤ 100)
    (next : Ev (fun k => amount_parts_c3 k (B rest) (acc ++ [((dv x : Nat) : Int)]) ws (n : Int) ((i + 1 : Nat) : Int)) r) : Ev (fun k => amount_parts_c3 k (B (x ++ rest)) acc ws (n : Int) (i : Int)) r := by
  have hlen : (x ++ rest).length = x.length + rest.length := List.length_append
  have hk := ev_kDig (B x) (by rw [size_B]; omega)
  rw [L_B, hx] at hk
  have e1 : (B (x ++ rest)).extract 0 ((x.length : Nat) : Int).toNat = B x := by
    rw [Int.toNat_natCast, B_ext]; simp
  have e2 : (B (x ++ rest)).extract ((x.length : Nat) : Int).toNat (B (x ++ rest)).size = B rest := by
    rw [Int.toNat_natCast, size_B, B_ext, List.take_of_length_le (Nat.le_refl _)]; simp
  refine .step (fun k => amount_parts_c3_eq k _ _ _ _ _) (.ck (by omega) (.ck (by omega) (.ck (by rw [← hn]; omega) ?_)))
  rw [Int.toNat_natCast, hw, e1, e2]
  simp only [size_B]
  have h1 : ¬ (((x ++ rest).length : Int) < (x.length : Int)) := by omega
  rw [decide_eq_false h1]
  refine .tt (by simp) (.tt (by simp; omega) (.bind (.tt rfl hk) (.ff rfl (.ck (by omega) (.ck (by omega) (.bind (ev_Atoi x hx hl) (.ck (by omega) (.ck (by omega) (.ck (by omega) ?_)))))))))
  rw [show wi64 ((i : Int) + 1) = ((i + 1 : Nat) : Int) by rw [wi64_id (by omega) (by omega)]; rfl]
  exact next
theorem ev_parts3 (x y z : List UInt8) (hx : digB x = true) (hy : digB y = true) (hz : digB z = true) (lx : x.length ≤ 18) (ly : y.length ≤ 18) (lz : z.length ≤ 18) :
    Ev (fun k => amount_parts k (B (x ++ (y ++ z))) [(x.length : Int), (y.length : Int), (z.length : Int)]) ([((dv x : Nat) : Int), ((dv y : Nat) : Int), ((dv z : Nat) : Int)], true) := by
  refine .step (fun k => amount_parts_eq k _ _) ?_
  refine ev_parts_step (i := 0) (n := 3) (by decide) rfl hx rfl lx (by simp; omega) (by simp) (by decide) ?_
  refine ev_parts_step (i := 1) (n := 3) (by decide) rfl hy rfl ly (by simp; omega) (by simp) (by decide) ?_
  have e : z = z ++ [] := (List.append_nil z).symm
  rw [e]
  refine ev_parts_step (i := 2) (n := 3) (by decide) rfl hz (by simp) lz (by simp; omega) (by simp) (by decide) ?_
  rw [List.append_nil]
  exact .step (fun k => amount_parts_c3_eq k _ _ _ _ _) (.nk (by decide) (.to (.pure _) (by rw [show B [] = bs [] from rfl, eqS_self]; rfl)))
/-- A padded number is digits, and spells the number. -/
theorem pdL_dg {n : Int} (h : 0 ≤ n) (w : Nat) : digB (pdL n w) = true ∧ dv (pdL n w) = n.toNat := by
  obtain ⟨m, rfl⟩ : ∃ m : Nat, n = m := ⟨n.toNat, by omega⟩
  unfold pdL
  rw [itoa_nat, dv_zeros, (dec_dig m).2, Int.toNat_natCast]
  refine ⟨digB_iff.2 ⟨fun z => ?_, fun b hb => ?_⟩, rfl⟩
  · have := digB_len (dec_dig m).1
    have h2 := (List.append_eq_nil_iff.1 z).2
    rw [h2] at this
    simp at this
  · rcases List.mem_append.1 hb with h | h
    · rw [(List.mem_replicate.1 h).2]; rfl
    · exact dec_all m b h
theorem dv_pd {n : Int} (h : 0 ≤ n) (w : Nat) : ((dv (pdL n w) : Nat) : Int) = n := by rw [(pdL_dg h w).2]; omega
theorem ev_partsP {a b c : Int} {u v w : Nat} (ha : 0 ≤ a) (hb : 0 ≤ b) (hc : 0 ≤ c) (la : (Lib.itoa a).length ≤ u) (lb : (Lib.itoa b).length ≤ v) (lc : (Lib.itoa c).length ≤ w) (hu : u ≤ 18) (hv : v ≤ 18) (hw : w ≤ 18) :
    Ev (fun k => amount_parts k ((pad a u ++ pad b v) ++ pad c w) [(u : Int), (v : Int), (w : Int)]) ([a, b, c], true) := by
  have := ev_parts3 (pdL a u) (pdL b v) (pdL c w) (pdL_dg ha u).1 (pdL_dg hb v).1 (pdL_dg hc w).1 (by rw [pdL_len la]; exact hu) (by rw [pdL_len lb]; exact hv) (by rw [pdL_len lc]; exact hw)
  rw [pdL_len la, pdL_len lb, pdL_len lc, dv_pd ha, dv_pd hb, dv_pd hc] at this
  unfold pad
  rw [B_app, B_app, List.append_assoc]
  exact this

theorem tmod_any (a : Int) : a.tmod 100 = if 0 ≤ a then a % 100 else -((-a) % 100) := by
  split
  · rename_i h; exact Int.tmod_eq_emod_of_nonneg h
  · rename_i h
    have e : a.tmod 100 = -((-a).tmod 100) := by rw [Int.neg_tmod, Int.neg_neg]
    rw [e, Int.tmod_eq_emod_of_nonneg (by omega)]
theorem short_year {y c : Int} (hy : 1 ≤ y) (hy2 : y ≤ 9999) (hc : 1 ≤ c) (hc2 : c ≤ 9900) (h1 : c ≤ y) (h2 : y ≤ c + 99) : wi64 (c + (wi64 ((wi64 (y % 100 - c)).tmod 100 + 100)).tmod 100) = y := by
  rw [wi64_id (x := y % 100 - c) (by omega) (by omega), tmod_any (y % 100 - c)]
  have hr : -100 < (if 0 ≤ y % 100 - c then (y % 100 - c) % 100 else -((-(y % 100 - c)) % 100)) ∧ (if 0 ≤ y % 100 - c then (y % 100 - c) % 100 else -((-(y % 100 - c)) % 100)) < 100 := by split <;> omega
  rw [wi64_id (x := _ + 100) (by omega) (by omega), Int.tmod_eq_emod_of_nonneg (by omega), wi64_id (by omega) (by omega)]
  split <;> omega

theorem ev_weekBack {t v : Dt} (ht : t.Ok) (hv : v.Ok) (h : v.n = thu t.n) : Ev (fun k => amount_weekDay k v.y (wk v.y t.n) ((t.n - 1) % 7 + 1)) (t.n, true) := by
  have b1 := ht.bound
  have v1 := hv.y1
  have v2 := hv.y2
  have hiy := hv.in_year
  have hw := wk_w hv h
  have hb := bef_small (y := v.y) (by omega) (by omega)
  have hbs := bef_succ v.y
  have hlp := lp_01 v.y
  have hmax := bef_mono (a := v.y + 1) (b := 10000) (by omega)
  have h10 : bef 10000 = 3652059 := by decide
  refine .step (fun k => amount_weekDay_eq k _ _ _) (.bind (ev_Outside' _ _ _) ?_)
  rw [decide_eq_false (by omega)]
  refine .bind (.tt rfl (ev_Outside' _ _ _)) ?_
  rw [decide_eq_false (by omega)]
  refine .ff rfl (.bind (ev_abefore (by omega) (by omega)) ?_)
  have w0 : wi64 (bef v.y + 4) = bef v.y + 4 := wi64_id (by omega) (by omega)
  rw [w0]
  refine .bind (ev_WeekDay2 (n := bef v.y + 4) (by omega) (by omega)) ?_
  have e : wi64 ((wi64 ((wi64 ((wi64 ((bef v.y + 4) - ((bef v.y + 4 - 1) % 7))) + (wi64 ((wi64 (wk v.y t.n - 1)) * 7)))) + ((t.n - 1) % 7 + 1))) - 1) = t.n := by
    rw [wi64_id (x := bef v.y + 4 - _) (by omega) (by omega), wi64_id (x := wk v.y t.n - 1) (by omega) (by omega), wi64_id (x := (wk v.y t.n - 1) * 7) (by omega) (by omega), wi64_id (x := _ + (wk v.y t.n - 1) * 7) (by omega) (by omega), wi64_id (x := _ + ((t.n - 1) % 7 + 1)) (by omega) (by omega), wi64_id (by omega) (by omega)]
    unfold wk
    have ht2 : thu t.n = 7 * ((t.n - 1) / 7) + 4 := by unfold thu; omega
    omega
  rw [e]
  refine .bind (ev_kIsDay _) ?_
  rw [decide_eq_true b1]
  refine .ff rfl (.bind (ev_aweekOf ht hv h) (.to (.pure _) ?_))
  simp

theorem ev_dayBack {t v : Dt} (ht : t.Ok) (hv : v.Ok) (h : v.n = thu t.n) {form c : Int} (hf : 1 ≤ form ∧ form ≤ 5) (hc : 1 ≤ c) (hc2 : c ≤ 9900) (hs : form = 2 → c ≤ t.y ∧ t.y ≤ c + 99) :
    Ev (fun k => amount_readDay k (dtx t v form) form c) (t.n, true) := by
  have y1 := ht.y1
  have y2 := ht.y2
  have v1 := hv.y1
  have v2 := hv.y2
  have m2 := ht.m2
  have d1 := ht.d1
  have d2 := ht.d2
  have hd := dom_pos t.y t.m
  have S := szs ht hv h
  have hw := wk_w hv h
  have hday : Ev (fun k => amount_dayOf k t.y (t.m : Int) t.d) (t.n, true) := by
    have := ev_adayOf t.y (t.m : Int) t.d
    rw [if_pos (Dt.Ok.is ht), Int.toNat_natCast] at this
    exact this
  have g0 : (0 : Int) < (([t.y, t.y, t.y] : List Int).length : Int) := by simp
  refine .step (fun k => amount_readDay_eq k _ _ _) ?_
  have hcase : form = 1 ∨ form = 2 ∨ form = 3 ∨ form = 4 ∨ form = 5 := by omega
  rcases hcase with rfl | rfl | rfl | rfl | rfl
  · refine .tt rfl ?_
    exact .bind (ev_partsP (u := 4) (v := 2) (w := 2) (by omega) (by omega) (by omega) S.y4 S.m2 S.d2 (by decide) (by decide) (by decide)) (.ff rfl (.ck (by simp) (.ck (by simp) (.ck (by simp) (.ret hday rfl)))))
  · refine .ff rfl (.tt rfl ?_)
    refine .bind (ev_partsP (a := t.y % 100) (u := 2) (v := 2) (w := 2) (by omega) (by omega) (by omega) S.y2 S.m2 S.d2 (by decide) (by decide) (by decide)) (.ff rfl (.ck (by simp) (.ck (by simp) (.ck (by simp) ?_))))
    have := hs rfl
    show Ev (fun k => (amount_dayOf k (wi64 (c + (wi64 ((wi64 (t.y % 100 - c)).tmod 100 + 100)).tmod 100)) (t.m : Int) t.d).bind fun y3 => some y3) _
    rw [short_year y1 y2 hc hc2 this.1 this.2]
    exact .ret hday rfl
  · refine .ff rfl (.ff rfl (.tt rfl ?_))
    exact .bind (ev_partsP (a := t.d) (c := t.y) (u := 2) (v := 2) (w := 4) (by omega) (by omega) (by omega) S.d2 S.m2 S.y4 (by decide) (by decide) (by decide)) (.ff rfl (.ck (by simp) (.ck (by simp) (.ck (by simp) (.ret hday rfl)))))
  · refine .ff rfl (.ff rfl (.ff rfl (.tt rfl ?_)))
    have e45 : bs [45] = B [45] := rfl
    have ey := pdL_len S.y4
    have em := pdL_len S.m2
    have ed := pdL_len S.d2
    have hne : ∀ {n : Int} {w : Nat}, 0 ≤ n → (pdL n w).filter (fun b => b != 45) = pdL n w := fun {n w} hn => List.filter_eq_self.2 fun x hx => by
      have := digB_all (pdL_dg hn w).1 x hx
      have h2 : x ≠ 45 := fun z => by rw [z] at this; exact absurd this (by decide)
      simpa using h2
    have etx : dtx t v 4 = B (pdL t.y 4 ++ ([45] ++ (pdL t.m 2 ++ ([45] ++ pdL t.d 2)))) := by
      unfold dtx pad
      rw [if_neg (by decide), if_neg (by decide), if_neg (by decide), if_pos rfl, e45]
      simp only [B_app, List.append_assoc]
    rw [etx, e45]
    refine .bind (ev_Repl _ 45 (by simp only [List.length_append, List.length_singleton]; omega)) ?_
    have ef : (pdL t.y 4 ++ ([45] ++ (pdL t.m 2 ++ ([45] ++ pdL t.d 2)))).filter (fun b => b != 45) = pdL t.y 4 ++ (pdL t.m 2 ++ pdL t.d 2) := by
      rw [List.filter_append, List.filter_append, List.filter_append, List.filter_append, hne (by omega), hne (by omega), hne (by omega)]
      rfl
    rw [ef]
    have hp := ev_partsP (u := 4) (v := 2) (w := 2) (show 0 ≤ t.y by omega) (show 0 ≤ (t.m : Int) by omega) (show 0 ≤ t.d by omega) S.y4 S.m2 S.d2 (by decide) (by decide) (by decide)
    unfold pad at hp
    rw [B_app, B_app, List.append_assoc] at hp
    refine .bind hp ?_
    have x1 : (B (pdL t.y 4 ++ (pdL t.m 2 ++ pdL t.d 2))).extract 0 4 = B (pdL t.y 4) := by
      rw [B_ext, List.drop_zero, List.take_append_of_le_length (by omega), List.take_of_length_le (by omega)]
    have x2 : (B (pdL t.y 4 ++ (pdL t.m 2 ++ pdL t.d 2))).extract 4 6 = B (pdL t.m 2) := by
      rw [B_ext, List.take_append, List.take_of_length_le (by omega), ey, List.take_append_of_le_length (by omega), List.take_of_length_le (by omega), List.drop_append_of_le_length (by omega), List.drop_of_length_le (by omega)]
      rfl
    have x3 : (B (pdL t.y 4 ++ (pdL t.m 2 ++ pdL t.d 2))).extract 6 (B (pdL t.y 4 ++ (pdL t.m 2 ++ pdL t.d 2))).size = B (pdL t.d 2) := by
      rw [size_B, B_ext, List.take_of_length_le (Nat.le_refl _), ← List.append_assoc, List.drop_append, List.drop_of_length_le (by rw [List.length_append]; omega), List.length_append, ey, em]
      rfl
    rw [x1, x2, x3]
    simp only [B_app, size_B, List.length_append, List.length_singleton, ey, em, ed]
    refine .tt rfl (.tt rfl (.tt rfl (.tt rfl (.tt rfl (.tt rfl (.tt rfl (.tt rfl (.tt rfl (.tt rfl (.tt rfl (.ff ?_ (.ck (by simp) (.ck (by simp) (.ck (by simp) (.ret hday rfl)))))))))))))))
    simp [eqS_self]
  · refine .ff rfl (.ff rfl (.ff rfl (.ff rfl ?_)))
    exact .bind (ev_partsP (a := v.y) (b := wk v.y t.n) (c := (t.n - 1) % 7 + 1) (u := 4) (v := 2) (w := 1) (by omega) (by omega) (by omega) S.v4 S.w2 S.e1 (by decide) (by decide) (by decide)) (.ff rfl (.ck (by simp) (.ck (by simp) (.ck (by simp) (.ret (ev_weekBack ht hv h) rfl)))))

theorem ev_law_dayBack (a b c : Int) : Ev (fun k => interchangelaw1_AmountDaysComeBack k a b c) true := by
  refine .step (fun k => interchangelaw1_AmountDaysComeBack_eq k _ _ _) ?_
  rcases ev_aDateOf a with ⟨h1, _⟩ | ⟨t, ht, rfl, h1⟩
  · exact .bind h1 (.tt rfl (.bind (.tt rfl ev_awake) (.pure _)))
  · refine .bind h1 (.ff rfl ?_)
    have hdo := ev_aDayOf t.y (t.m : Int) t.d
    rw [if_pos (Dt.Ok.is ht), Int.toNat_natCast] at hdo
    refine .bind hdo (.bind (.tt (by simp) ev_awake) (.ff (by simp) ?_))
    have hb := ht.bound
    have htu := thu_in hb.1 hb.2
    obtain ⟨v, hv, hvn⟩ := Dt.ex htu.1 htu.2
    by_cases hf : 1 ≤ b ∧ b ≤ 5
    · refine .bind (ev_aDayText ht hv hvn hf) ?_
      by_cases hc : 1 ≤ c ∧ c ≤ 9900
      · have y1 := ht.y1
        have y2 := ht.y2
        have hw : wi64 (c + 99) = c + 99 := wi64_id (by omega) (by omega)
        rw [hw]
        have key : (b = 2 → c ≤ t.y ∧ t.y ≤ c + 99) → Ev (fun k => (amount_ReadDay k (dtx t v b) b c).bind fun y5 => some (cond (y5.2 == 0) (y5.1 == t.n) false)) true := fun hs => by
          refine .bind (x := (t.n, 0)) (.step (fun k => amount_ReadDay_eq k _ _ _) (.bind (x := true) (.step (fun k => amount_isForm_eq k _) (.bind (ev_Outside' _ _ _) (.to (.pure _) (by rw [decide_eq_false (by omega)]; rfl)))) (.ff rfl (.bind (ev_Outside' _ _ _) ?_)))) (.to (.pure _) (by simp))
          rw [decide_eq_false (by omega)]
          exact .ff rfl (.bind (ev_dayBack ht hv hvn hf hc.1 hc.2 hs) (.ff rfl (.pure _)))
        by_cases hg : cond (cond (cond (decide (c < 1)) true (decide (c > 9900))) true (cond (b == 2) (cond (decide (t.y < c)) true (decide (t.y > c + 99))) false)) true false = true
        · refine .tt ?_ (.pure _)
          cases h5 : decide (c < 1) <;> cases h6 : decide (c > 9900) <;> cases h7 : (b == 2) <;> cases h8 : decide (t.y < c) <;> cases h9 : decide (t.y > c + 99) <;> simp_all
        · refine .ff ?_ (key ?_)
          · cases h5 : decide (c < 1) <;> cases h6 : decide (c > 9900) <;> cases h7 : (b == 2) <;> cases h8 : decide (t.y < c) <;> cases h9 : decide (t.y > c + 99) <;> simp_all
          · intro hb2
            subst hb2
            by_cases h8 : t.y < c
            · simp [h8] at hg
            · by_cases h9 : t.y > c + 99
              · simp [h9] at hg
              · omega
      · refine .tt ?_ (.pure _)
        by_cases h1 : c < 1
        · simp [h1]
        · have h2 : c > 9900 := by omega
          simp [h2]
    · refine .bind (x := (bs [], 4)) (.step (fun k => amount_DayText_eq k _ _) (.bind (x := false) (.step (fun k => amount_isForm_eq k _) (.bind (ev_Outside' _ _ _) (.to (.pure _) (by rw [decide_eq_true (by omega)]; rfl)))) (.tt rfl (.pure _)))) (.tt (by simp) (.pure _))
end Go.Proofs.YtegiadfbniamkaaGreatDoor.Eq
