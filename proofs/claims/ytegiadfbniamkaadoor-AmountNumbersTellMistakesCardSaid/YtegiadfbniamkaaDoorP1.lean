/- What the functions of this law compute, part 1. -/
import Derived.Test.YtegiadfbniamkaaDoorRaEq
import Derived.Lib.Strings
import Derived.Lib.ItoaNum
import Derived.Lib.Repeat
import Derived.Lib.SlTrimSet
namespace Go.Proofs.YtegiadfbniamkaaDoor.Eq
open Go Go.Ra
set_option linter.unusedVariables false

/-- Of fewer than a hundred digits. -/
def Sm (n : Int) : Prop := n.natAbs < 4294967296 ^ 100
theorem Sm.of {n : Int} (h : n.natAbs ≤ 10 ^ 130) : Sm n := Nat.lt_of_le_of_lt h (by decide)

/-! ### products -/
end Go.Proofs.YtegiadfbniamkaaDoor.Eq
namespace Go.Ra
open Go Go.Ra

theorem eqS_iff (a b : ByteArray) : eqS a b = true ↔ a = b := by
  unfold eqS
  rw [beq_iff_eq, Lib.toList_data, Lib.toList_data]
  constructor
  · intro h
    rw [← Lib.mk_data a, ← Lib.mk_data b, h]
  · intro h
    rw [h]
theorem eqS_self (a : ByteArray) : eqS a a = true := (eqS_iff a a).2 rfl
theorem eqS_ne {a b : ByteArray} (h : a ≠ b) : eqS a b = false := by
  cases he : eqS a b with
  | false => rfl
  | true => exact absurd ((eqS_iff a b).1 he) h

theorem bor' {p q : Bool} (h : p = true → q = true) : ((!p) || q) = true := by
  cases p
  · rfl
  · simp [h rfl]

theorem bt_at {s : ByteArray} {i : Nat} (h : i < s.size) : bt s (i : Int) = (((s.data.toList.getD i 0).toNat : Nat) : Int) := by
  unfold bt
  rw [dif_pos (by simpa using h)]
  have h' : i < s.data.toList.length := by rw [← Lib.size_eq]; exact h
  simp [List.getD_eq_getElem?_getD, List.getElem?_eq_getElem h', ByteArray.getElem_eq_getElem_data]


/-! ### strings and lists of bytes -/
abbrev L (s : ByteArray) : List UInt8 := s.data.toList
def B (l : List UInt8) : ByteArray := ⟨l.toArray⟩
theorem L_B (l : List UInt8) : L (B l) = l := rfl
theorem B_L (s : ByteArray) : B (L s) = s := Lib.mk_data s
theorem L_app (a b : ByteArray) : L (a ++ b) = L a ++ L b := by
  simp [L, ByteArray.data_append]
theorem B_app (a b : List UInt8) : B a ++ B b = B (a ++ b) := by rw [← B_L (B a ++ B b), L_app, L_B, L_B]
theorem size_L (s : ByteArray) : s.size = (L s).length := Lib.size_eq s
theorem size_B (l : List UInt8) : (B l).size = l.length := by rw [size_L, L_B]
theorem L_ext (s : ByteArray) (i j : Nat) : L (s.extract i j) = ((L s).take j).drop i := by
  rw [List.drop_take]
  show (s.extract i j).data.toList = _
  rw [ByteArray.data_extract, Array.toList_extract]
theorem B_ext (l : List UInt8) (i j : Nat) : (B l).extract i j = B ((l.take j).drop i) := by rw [← B_L ((B l).extract i j), L_ext, L_B]
theorem L_inj {a b : ByteArray} (h : L a = L b) : a = b := by rw [← B_L a, h, B_L]
theorem eqS_L (a b : ByteArray) : eqS a b = decide (L a = L b) := by
  by_cases h : a = b
  · subst h; simp [eqS_self]
  · rw [eqS_ne h]
    simp only [Bool.false_eq, decide_eq_false_iff_not]
    exact fun z => h (L_inj z)
theorem L_bs_nil : L (bs []) = [] := rfl
theorem bt_B {l : List UInt8} {i : Nat} (h : i < l.length) : bt (B l) (i : Int) = (((l.getD i 0).toNat : Nat) : Int) := bt_at (by rw [size_B]; exact h)
end Go.Ra
namespace Go.Ra
open Go Go.Ra

end Go.Ra

namespace Go.Proofs.YtegiadfbniamkaaDoor.Eq
open Go Go.Ra
set_option linter.unusedVariables false

theorem wj {i n : Nat} (h : i < n) (hn : n < 1125899906842624) : wi64 ((i : Int) + 1) = ((i + 1 : Nat) : Int) := by
  rw [wi64_id (by omega) (by omega)]; rfl
abbrev UN : Type := ByteArray × ByteArray × Int × Int
abbrev u0 : UN := (bs [], (bs [], (0, 0)))
/-! ### names -/
end Go.Proofs.YtegiadfbniamkaaDoor.Eq
namespace Go.Proofs.YtegiadfbniamkaaDoor.Eq
open Go Go.Ra
set_option linter.unusedVariables false

theorem ev_OutsideU (a b c : Int) : Ev (fun k => kit_Outside k a b c) (decide (a < b ∨ a > c)) := by
  refine .step (fun k => kit_Outside_eq k a b c) (.to (.pure _) ?_)
  by_cases h : a < b <;> simp [h]
def unum (l : List UN) (i : Nat) : Int := (l.getD i u0).2.2.1
def uden (l : List UN) (i : Nat) : Int := (l.getD i u0).2.2.2
/-! ### searching -/
/-! ### each unit by itself -/
def okU (l : List UN) (i : Nat) : Prop := 1 ≤ unum l i ∧ unum l i ≤ 1000000 ∧ 1 ≤ uden l i ∧ uden l i ≤ 1000000
instance (l : List UN) (i : Nat) : Decidable (okU l i) := by unfold okU; infer_instance
/-! ### ways to the base -/
theorem ev_Index45 (l : List Int) (x : Int) (hn : l.length < 1000000) : ∃ r : Int, Ev (fun k => slices_Index_Lint_int k l x) r ∧ (r ≥ 0 ↔ x ∈ l) := by
  have key : ∀ (m i : Nat), l.length - i = m → i ≤ l.length → ∃ r : Int, Ev (fun k => slices_Index_Lint_int_c2 k l x (l.length : Int) (i : Int)) r ∧ (r ≥ 0 ↔ x ∈ l.drop i) := by
    intro m
    induction m with
    | zero =>
      intro i hm hi
      refine ⟨-1, .step (fun k => slices_Index_Lint_int_c2_eq k _ _ _ _) (.nk (by omega) (.pure _)), ?_⟩
      rw [List.drop_of_length_le (by omega)]
      simp
    | succ m ih =>
      intro i hm hi
      have hil : i < l.length := by omega
      rw [drop_consI hil]
      by_cases he : x = l.getD i 0
      · refine ⟨(i : Int), .step (fun k => slices_Index_Lint_int_c2_eq k _ _ _ _) (.ck (by omega) (.ck (by omega) (.ck (by omega) (.tt (by rw [Int.toNat_natCast]; simpa using he) (.pure _))))), ?_⟩
        simp [he]
      · obtain ⟨r, r1, r2⟩ := ih (i + 1) (by omega) (by omega)
        refine ⟨r, .step (fun k => slices_Index_Lint_int_c2_eq k _ _ _ _) (.ck (by omega) (.ck (by omega) (.ck (by omega) (.ff (by rw [Int.toNat_natCast]; simpa using he) ?_)))), ?_⟩
        · rw [wj hil (by omega)]
          exact r1
        · rw [r2, List.mem_cons]
          constructor
          · exact .inr
          · rintro (q | q)
            · exact absurd q he
            · exact q
  obtain ⟨r, r1, r2⟩ := key _ 0 rfl (by omega)
  exact ⟨r, .step (fun k => slices_Index_Lint_int_eq k _ _) r1, by simpa using r2⟩
theorem ev_Contains (l : List Int) (x : Int) (hn : l.length < 1000000) : Ev (fun k => slices_Contains_Lint_int k l x) (decide (x ∈ l)) := by
  obtain ⟨r, r1, r2⟩ := ev_Index45 l x hn
  refine .step (fun k => slices_Contains_Lint_int_eq k _ _) (.bind r1 (.to (.pure _) ?_))
  by_cases h : x ∈ l
  · simp [h, r2.2 h]
  · have : ¬ r ≥ 0 := fun z => h (r2.1 z)
    rw [decide_eq_false this, decide_eq_false h]

end Go.Proofs.YtegiadfbniamkaaDoor.Eq
namespace Go.Proofs.YtegiadfbniamkaaDoor.Eq
open Go Go.Ra
theorem awake_at (k : Nat) : interchangelaw1_awake (k + 40) = some true := by kernel_rfl
theorem ev_awake : Ev (fun k => interchangelaw1_awake k) true := .off (n := 40) awake_at
end Go.Proofs.YtegiadfbniamkaaDoor.Eq
namespace Go.Ra
open Go Go.Ra
/-- 1 in a year with a 29th of February. -/
def lp (y : Int) : Int := if y % 4 = 0 ∧ (y % 100 ≠ 0 ∨ y % 400 = 0) then 1 else 0
/-- The days of a month. -/
def dom (y : Int) (m : Nat) : Int := if m = 2 then 28 + lp y else if m = 4 ∨ m = 6 ∨ m = 9 ∨ m = 11 then 30 else 31
/-- The days before a year. -/
def bef (y : Int) : Int := 365 * (y - 1) + (y - 1) / 4 - (y - 1) / 100 + (y - 1) / 400
/-- The days of the first months. -/
def cum (y : Int) : Nat → Int
  | 0 => 0
  | j + 1 => cum y j + dom y (j + 1)
theorem bef_succ (y : Int) : bef (y + 1) = bef y + 365 + lp y := by
  unfold bef lp
  split <;> omega
theorem cum_year (y : Int) : cum y 12 = 365 + lp y := by
  simp [cum, dom]
  omega
/-- A date. -/
structure Dt where
  y : Int
  m : Nat
  d : Int
structure Dt.Ok (t : Dt) : Prop where
  y1 : 1 ≤ t.y
  y2 : t.y ≤ 9999
  m1 : 1 ≤ t.m
  m2 : t.m ≤ 12
  d1 : 1 ≤ t.d
  d2 : t.d ≤ dom t.y t.m
def Dt.n (t : Dt) : Int := bef t.y + cum t.y (t.m - 1) + t.d
/-- Each number is that of a date. -/
theorem Dt.ex {n : Int} (h1 : 1 ≤ n) (h2 : n ≤ 3652059) : ∃ t : Dt, t.Ok ∧ t.n = n := by
  have year : ∀ (m : Nat) (y : Int), 10000 - y = m → 1 ≤ y → y ≤ 10000 → bef y < n → ∃ z, 1 ≤ z ∧ z ≤ 9999 ∧ bef z < n ∧ n ≤ bef (z + 1) := by
    intro m
    induction m with
    | zero =>
      intro y hm h3 h4 h5
      have : y = 10000 := by omega
      subst this
      have : bef 10000 = 3652059 := by decide
      omega
    | succ m ih =>
      intro y hm h3 h4 h5
      by_cases h : n ≤ bef (y + 1)
      · exact ⟨y, h3, by omega, h5, h⟩
      · exact ih (y + 1) (by omega) (by omega) (by omega) (by omega)
  have hz : bef 1 = 0 := by decide
  obtain ⟨y, y1, y2, y3, y4⟩ := year 9999 1 (by decide) (by decide) (by decide) (by omega)
  have month : ∀ (k j : Nat), 12 - j = k → j ≤ 12 → cum y j < n - bef y → ∃ m, m < 12 ∧ cum y m < n - bef y ∧ n - bef y ≤ cum y (m + 1) := by
    intro k
    induction k with
    | zero =>
      intro j hk hj hc
      have : j = 12 := by omega
      subst this
      have := cum_year y
      have := bef_succ y
      omega
    | succ k ih =>
      intro j hk hj hc
      by_cases h : n - bef y ≤ cum y (j + 1)
      · exact ⟨j, by omega, hc, h⟩
      · exact ih (j + 1) (by omega) (by omega) (by omega)
  obtain ⟨m, m1, m2, m3⟩ := month 12 0 rfl (by decide) (by simp only [cum]; omega)
  simp only [cum] at m3
  refine ⟨⟨y, m + 1, n - bef y - cum y m⟩, ⟨y1, y2, by simp, by simp; omega, by simp; omega, by simp; omega⟩, ?_⟩
  simp only [Dt.n, Nat.add_sub_cancel]
  omega
end Go.Ra
namespace Go.Proofs.YtegiadfbniamkaaDoor.Eq
open Go Go.Ra
set_option linter.unusedVariables false

/-! ### the number of a date -/
/-- What DayOf computes. -/
def okDt (a b c : Int) : Prop := 1 ≤ a ∧ a ≤ 9999 ∧ 1 ≤ b ∧ b ≤ 12 ∧ 1 ≤ c ∧ c ≤ dom a b.toNat
instance (a b c : Int) : Decidable (okDt a b c) := by unfold okDt; infer_instance
theorem Dt.Ok.is {t : Dt} (h : t.Ok) : okDt t.y (t.m : Int) t.d := by
  refine ⟨h.y1, h.y2, ?_, ?_, h.d1, ?_⟩
  · have := h.m1; omega
  · have := h.m2; omega
  · rw [Int.toNat_natCast]; exact h.d2
/-! ### the date of a number -/
end Go.Proofs.YtegiadfbniamkaaDoor.Eq
namespace Go.Ra
open Go Go.Ra
def dgB (b : UInt8) : Bool := decide (48 ≤ b.toNat) && decide (b.toNat ≤ 57)
/-- Digits, at least one. -/
def digB (l : List UInt8) : Bool := !l.isEmpty && l.all dgB
theorem dgB_iff {b : UInt8} : dgB b = true ↔ 48 ≤ b.toNat ∧ b.toNat ≤ 57 := by simp [dgB]
theorem digB_all {l : List UInt8} (h : digB l = true) : ∀ b ∈ l, dgB b = true := by
  unfold digB at h
  rw [Bool.and_eq_true] at h
  exact List.all_eq_true.1 h.2
theorem digB_iff {l : List UInt8} : digB l = true ↔ l ≠ [] ∧ ∀ b ∈ l, dgB b = true := by
  unfold digB
  rw [Bool.and_eq_true, List.all_eq_true]
  cases l <;> simp
theorem eqS_nil (s : ByteArray) : eqS s (bs []) = (L s).isEmpty := by
  rw [eqS_L, L_bs_nil]
  cases L s <;> simp
end Go.Ra
namespace Go.Proofs.YtegiadfbniamkaaDoor.Eq
open Go Go.Ra
set_option linter.unusedVariables false

theorem wu8_dig {b : UInt8} (h : dgB b = true) : wi64 (wu8 (((b.toNat : Nat) : Int) - 48)) = ((b.toNat - 48 : Nat) : Int) := by
  have := dgB_iff.1 h
  rw [wu8_id (by omega) (by omega), wi64_id (by omega) (by omega)]
  omega
theorem ev_InBytes (s : ByteArray) (lo hi : Int) (hs : s.size < 1125899906842624) : Ev (fun k => kit_InBytes k s lo hi) ((L s).all fun b => decide (lo ≤ (b.toNat : Int)) && decide ((b.toNat : Int) ≤ hi)) := by
  refine .step (fun k => kit_InBytes_eq k _ _ _) ?_
  have hsz := size_L s
  have key : ∀ (m i : Nat), s.size - i = m → i ≤ s.size → Ev (fun k => kit_InBytes_c2 k s lo hi (s.size : Int) (i : Int)) (((L s).drop i).all fun b => decide (lo ≤ (b.toNat : Int)) && decide ((b.toNat : Int) ≤ hi)) := by
    intro m
    induction m with
    | zero =>
      intro i hm hi'
      refine .step (fun k => kit_InBytes_c2_eq k _ _ _ _ _) (.nk (by omega) (.to (.pure _) ?_))
      rw [List.drop_of_length_le (by omega)]
      rfl
    | succ m ih =>
      intro i hm hi'
      have hil : i < (L s).length := by omega
      have hd : (L s).drop i = (L s).getD i 0 :: (L s).drop (i + 1) := by
        rw [List.drop_eq_getElem_cons hil, List.getD_eq_getElem?_getD, List.getElem?_eq_getElem hil]
        rfl
      refine .step (fun k => kit_InBytes_c2_eq k _ _ _ _ _) (.ck (by omega) (.ck (by omega) (.ck (by omega) (.tt (bor' fun _ => by simp) (.tt (bor' fun _ => by simp; omega) ?_)))))
      rw [bt_at (by omega : i < s.size), hd, List.all_cons]
      generalize (L s).getD i 0 = b
      have hw : wi64 ((i : Int) + 1) = ((i + 1 : Nat) : Int) := by rw [wi64_id (by omega) (by omega)]; rfl
      by_cases h : lo ≤ (b.toNat : Int) ∧ (b.toNat : Int) ≤ hi
      · rw [decide_eq_true h.1, decide_eq_true h.2]
        refine .ff (by rw [decide_eq_false (by omega), decide_eq_false (by omega)]; rfl) ?_
        rw [hw]
        exact ih (i + 1) (by omega) (by omega)
      · refine .tt ?_ (.to (.pure _) ?_)
        · by_cases h1 : (b.toNat : Int) < lo
          · rw [decide_eq_true h1]; rfl
          · rw [decide_eq_false h1, decide_eq_true (by omega : (b.toNat : Int) > hi)]; rfl
        · have : (decide (lo ≤ (b.toNat : Int)) && decide ((b.toNat : Int) ≤ hi)) = false := by simpa using h
          rw [this]
          rfl
  have := key _ 0 rfl (by omega)
  simpa using this
theorem dgB_eq (b : UInt8) : (decide ((48 : Int) ≤ (b.toNat : Int)) && decide ((b.toNat : Int) ≤ 57)) = dgB b := by
  unfold dgB
  congr 1
  · exact decide_eq_decide.2 (by omega)
  · exact decide_eq_decide.2 (by omega)
theorem ev_kDig (s : ByteArray) (hs : s.size < 1125899906842624) : Ev (fun k => kit_IsDigits k s) (digB (L s)) := by
  refine .step (fun k => kit_IsDigits_eq k _) ?_
  rw [eqS_nil]
  unfold digB
  cases h : (L s).isEmpty with
  | true => exact .bind (x := false) (.ff rfl (.pure _)) (.pure _)
  | false =>
    refine .bind (.tt rfl (ev_InBytes s 48 57 hs)) (.to (.pure _) ?_)
    simp only [dgB_eq]
    rfl
/-! ### cutting -/
end Go.Proofs.YtegiadfbniamkaaDoor.Eq
namespace Go.Ra
open Go Go.Ra
/-- A number from 0 on, with so many digits at least. -/
def pdL (n : Int) (w : Nat) : List UInt8 := List.replicate (w - (Lib.itoa n).length) 48 ++ Lib.itoa n
def pad (n : Int) (w : Nat) : ByteArray := B (pdL n w)
theorem nDig_le : ∀ (k u : Nat), 1 ≤ k → u < 10 ^ k → Lib.nDigits u ≤ k
  | 0, _, h, _ => by omega
  | k + 1, u, _, h => by
    by_cases hu : u < 10
    · rw [Lib.nDigits_small hu]; omega
    · rw [Lib.nDigits_big hu]
      have hk : 1 ≤ k := by
        rcases Nat.eq_zero_or_pos k with z | z
        · subst z; simp at h; omega
        · exact z
      have := nDig_le k (u / 10) hk (by rw [Nat.pow_succ] at h; omega)
      omega
theorem itoa_nat (n : Nat) : Lib.itoa (n : Int) = Lib.decDigits n := by
  unfold Lib.itoa
  rw [if_neg (by omega), Int.toNat_natCast]
theorem itoa_len {n : Int} {k : Nat} (h0 : 0 ≤ n) (hk : 1 ≤ k) (h : n < 10 ^ k) : (Lib.itoa n).length ≤ k := by
  obtain ⟨m, rfl⟩ : ∃ m : Nat, n = m := ⟨n.toNat, by omega⟩
  rw [itoa_nat, Lib.decDigits_length]
  exact nDig_le k m hk (by exact_mod_cast h)
theorem l2 {n : Int} (h0 : 0 ≤ n) (h : n ≤ 99) : (Lib.itoa n).length ≤ 2 := itoa_len h0 (by decide) (by omega)
theorem rep48 (n : Nat) : Lib.repeatL [48] n = List.replicate n 48 := by
  have := Lib.repeatL_replicate 48 1 n
  simpa using this
end Go.Ra
namespace Go.Proofs.YtegiadfbniamkaaDoor.Eq
open Go Go.Ra
set_option linter.unusedVariables false

theorem ev_Itoa {n : Int} (h1 : -9223372036854775808 ≤ n) (h2 : n ≤ 9223372036854775807) : Ev (fun k => strconv_Itoa k n) (B (Lib.itoa n)) := by
  refine .off (n := 0) fun k => ?_
  show strconv_Itoa (k + 0) n = _
  rw [strconv_Itoa_eq, decide_eq_true h1, decide_eq_true h2]
  rfl
theorem ev_Rep48 {n : Int} (h1 : 0 ≤ n) (h2 : n ≤ 1000000) : Ev (fun k => strings_Repeat k (bs [48]) n) (B (List.replicate n.toNat 48)) := by
  refine .off (n := 0) fun k => ?_
  show strings_Repeat (k + 0) (bs [48]) n = _
  have hs : (bs [48]).size = 1 := rfl
  rw [strings_Repeat_eq, decide_eq_true h1, decide_eq_true (show n ≤ 9223372036854775807 by omega), hs, decide_eq_true (by omega)]
  show some (B (Lib.repeatL [48] n.toNat)) = _
  rw [rep48]
theorem ev_apad {n : Int} {w : Nat} (h0 : 0 ≤ n) (h1 : n ≤ 9999) (hl : (Lib.itoa n).length ≤ w) (hw : w ≤ 10) : Ev (fun k => amount_padded k n (w : Int)) (pad n w) := by
  refine .step (fun k => amount_padded_eq k _ _) (.bind (ev_Itoa (by omega) (by omega)) ?_)
  have e : wi64 ((w : Int) - ((B (Lib.itoa n)).size : Int)) = ((w - (Lib.itoa n).length : Nat) : Int) := by
    rw [size_B, wi64_id (by omega) (by omega)]; omega
  rw [e]
  refine .bind (ev_Rep48 (by omega) (by omega)) (.ck (by rw [size_B, size_B, List.length_replicate]; omega) (.to (.pure _) ?_))
  rw [B_app, Int.toNat_natCast]
  rfl
end Go.Proofs.YtegiadfbniamkaaDoor.Eq
namespace Go.Ra
open Go Go.Ra
/-- Bytes as the program's numbers. -/
def bl (l : List UInt8) : List Int := l.map fun b => ((b.toNat : Nat) : Int)
theorem strOf_bl (l : List UInt8) : strOf (bl l) = B l := by
  unfold strOf bl B
  congr 1
  rw [List.map_map]
  congr 1
  conv => rhs; rw [← List.map_id l]
  apply List.map_congr_left
  intro b _
  simp
theorem bl_len (l : List UInt8) : (bl l).length = l.length := by simp [bl]
end Go.Ra
namespace Go.Proofs.YtegiadfbniamkaaDoor.Eq
open Go Go.Ra
set_option linter.unusedVariables false

end Go.Proofs.YtegiadfbniamkaaDoor.Eq
namespace Go.Proofs.YtegiadfbniamkaaDoor.Eq
open Go Go.Ra
set_option linter.unusedVariables false

/-- A right decimal. -/
def okD (d : Int × Int) : Prop := -1000000000000000 ≤ d.1 ∧ d.1 ≤ 1000000000000000 ∧ 0 ≤ d.2 ∧ d.2 ≤ 9
instance (d : Int × Int) : Decidable (okD d) := by unfold okD; infer_instance

end Go.Proofs.YtegiadfbniamkaaDoor.Eq
namespace Go.Proofs.YtegiadfbniamkaaDoor.Eq
open Go Go.Ra
set_option linter.unusedVariables false

/-- Of fewer than a hundred digits. -/
def Sr (n : Int) : Prop := n.natAbs < 1000000 ^ 100
theorem Sr.of {n : Int} (h : n.natAbs ≤ 10 ^ 130) : Sr n := Nat.lt_of_le_of_lt h (by decide)

end Go.Proofs.YtegiadfbniamkaaDoor.Eq
namespace Go.Proofs.YtegiadfbniamkaaDoor.Eq
open Go Go.Ra
set_option linter.unusedVariables false

/- products -/
/- as an int -/
/- long division -/
end Go.Proofs.YtegiadfbniamkaaDoor.Eq
namespace Go.Proofs.YtegiadfbniamkaaDoor.Eq
open Go Go.Ra
set_option linter.unusedVariables false

end Go.Proofs.YtegiadfbniamkaaDoor.Eq
namespace Go.Proofs.YtegiadfbniamkaaDoor.Eq
open Go Go.Ra
set_option linter.unusedVariables false

end Go.Proofs.YtegiadfbniamkaaDoor.Eq
namespace Go.Proofs.YtegiadfbniamkaaDoor.Eq
open Go Go.Ra
set_option linter.unusedVariables false

/-! ### a decimal's text -/
theorem ev_Rep48' (n : Nat) (h2 : n ≤ 1000000) : Ev (fun k => strings_Repeat k (bs [48]) (n : Int)) (B (List.replicate n 48)) := by
  have := ev_Rep48 (n := (n : Int)) (by omega) (by omega)
  rwa [Int.toNat_natCast] at this
end Go.Proofs.YtegiadfbniamkaaDoor.Eq
namespace Go.Proofs.YtegiadfbniamkaaDoor.Eq
open Go Go.Ra
set_option linter.unusedVariables false

end Go.Proofs.YtegiadfbniamkaaDoor.Eq
namespace Go.Ra
open Go Go.Ra
/-- A byte that can stand between digits. -/
def mkOk (b : Int) : Prop := ¬ ((48 ≤ b ∧ b ≤ 57) ∨ b = 45 ∨ b < 32 ∨ b > 126)
instance (b : Int) : Decidable (mkOk b) := by unfold mkOk; infer_instance
end Go.Ra
namespace Go.Proofs.YtegiadfbniamkaaDoor.Eq
open Go Go.Ra
set_option linter.unusedVariables false

end Go.Proofs.YtegiadfbniamkaaDoor.Eq
namespace Go.Ra
open Go Go.Ra
theorem tmodN (a b : Nat) : ((a : Int).tmod (b : Int)) = ((a % b : Nat) : Int) := by
  rw [Int.tmod_eq_emod_of_nonneg (by omega)]; rfl
/-- A capital letter or a digit. -/
def bdB (b : UInt8) : Bool := (decide (65 ≤ b.toNat) && decide (b.toNat ≤ 90)) || dgB b
def ltB (b : UInt8) : Bool := decide (65 ≤ b.toNat) && decide (b.toNat ≤ 90)
/-- Digits weighed by 1 and 3 in turn. -/
def thrS : Nat → List UInt8 → Nat
  | _, [] => 0
  | i, b :: l => (b.toNat - 48) * (if i % 2 = 1 then 3 else 1) + thrS (i + 1) l
def thr (l : List UInt8) : Bool := decide (thrS 0 l.reverse % 10 = 0)
/-- The rest by 97, letters as two digits. -/
def rsL : Nat → List UInt8 → Nat
  | r, [] => r
  | r, b :: l => rsL ((if 65 ≤ b.toNat then r * 100 + (b.toNat - 65 + 10) else r * 10 + (b.toNat - 48)) % 97) l
theorem rsL_app (l m : List UInt8) : ∀ r, rsL r (l ++ m) = rsL (rsL r l) m := by
  induction l with
  | nil => intro r; rfl
  | cons b l ih => intro r; exact ih _
/-- The tax number's check sum. -/
def txS : Nat → List UInt8 → Nat
  | s, [] => s
  | s, b :: l => txS (if (b.toNat - 48 + s) % 10 = 0 then 9 else 2 * ((b.toNat - 48 + s) % 10) % 11) l
theorem txS_le : ∀ (l : List UInt8) (s : Nat), s ≤ 10 → txS s l ≤ 10
  | [], s, h => h
  | b :: l, s, h => by
    unfold txS
    apply txS_le l
    split <;> omega
/-- An account's number. -/
def bankB (l : List UInt8) : Bool := (decide (15 ≤ l.length) && decide (l.length ≤ 34)) && ((l.take 2).all ltB && (digB ((l.drop 2).take 2) && ((l.drop 4).all bdB && (decide (rsL 0 (l.drop 4 ++ l.take 4) = 1) && (!(ltS (B ((l.drop 2).take 2)) (bs [48, 50])) && (ltS (B ((l.drop 2).take 2)) (bs [57, 56]) || eqS (B ((l.drop 2).take 2)) (bs [57, 56])))))))
def taxB (l : List UInt8) : Bool := (decide (l.length = 11) && digB l) && (decide (l.getD 0 0 ≠ 48) && decide (48 + (11 - txS 10 (l.take 10)) % 10 = (l.getD 10 0).toNat))
def numB (kind : Int) (l : List UInt8) : Bool :=
  if kind = 4 then bankB l else if kind = 5 then taxB l
  else (if kind = 1 then decide (l.length = 8 ∨ 12 ≤ l.length ∧ l.length ≤ 14) else if kind = 2 then decide (l.length = 13) else decide (l.length = 18)) && (digB l && thr l)
end Go.Ra
namespace Go.Proofs.YtegiadfbniamkaaDoor.Eq
open Go Go.Ra
set_option linter.unusedVariables false

theorem drop_getD {l : List UInt8} {i : Nat} (h : i < l.length) : l.drop i = l.getD i 0 :: l.drop (i + 1) := by
  rw [List.drop_eq_getElem_cons h, List.getD_eq_getElem?_getD, List.getElem?_eq_getElem h]
  rfl
theorem dg_getD {l : List UInt8} (hd : ∀ b ∈ l, dgB b = true) {i : Nat} (h : i < l.length) : dgB (l.getD i 0) = true := by
  rw [List.getD_eq_getElem?_getD, List.getElem?_eq_getElem h]
  exact hd _ (List.getElem_mem h)
theorem rev_getD {l : List UInt8} {i : Nat} (h : i < l.length) : l.reverse.getD i 0 = l.getD (l.length - 1 - i) 0 := by
  rw [List.getD_eq_getElem?_getD, List.getElem?_reverse h, List.getD_eq_getElem?_getD]

/-- What both sums do at one digit. -/
theorem sum_step {f : Nat → ByteArray → Int → Int → Int → Option Bool}
    (heq : ∀ k s0 s3 s7 s8, f (k + 1) s0 s3 s7 s8 = cond (decide (s8 < s7)) (
      cond (decide (0 ≤ (wi64 ((wi64 ((s0.size : Int) - 1)) - s8)))) (
      cond (decide ((wi64 ((wi64 ((s0.size : Int) - 1)) - s8)) < (s0.size : Int))) (
      cond ((s8.tmod 2) == 1) (
        f k s0 (wi64 (s3 + (wi64 ((wi64 (wu8 ((bt s0 (wi64 ((wi64 ((s0.size : Int) - 1)) - s8))) - 48))) * 3)))) s7 (wi64 (s8 + 1))) (
        f k s0 (wi64 (s3 + (wi64 (wu8 ((bt s0 (wi64 ((wi64 ((s0.size : Int) - 1)) - s8))) - 48))))) s7 (wi64 (s8 + 1)))) none) none) (
      some ((s3.tmod 10) == 0)))
    (l : List UInt8) (hd : ∀ b ∈ l, dgB b = true) (hn : l.length ≤ 1000) : Ev (fun k => f k (B l) 0 (l.length : Int) 0) (thr l) := by
  have key : ∀ (j i acc : Nat), l.length - i = j → i ≤ l.length → acc ≤ 27 * i → Ev (fun k => f k (B l) (acc : Int) (l.length : Int) (i : Int)) (decide ((acc + thrS i (l.reverse.drop i)) % 10 = 0)) := by
    intro j
    induction j with
    | zero =>
      intro i acc hj hi ha
      refine .step (fun k => heq k _ _ _ _) (.nk (by omega) (.to (.pure _) ?_))
      rw [List.drop_of_length_le (by rw [List.length_reverse]; omega), show (10 : Int) = ((10 : Nat) : Int) from rfl, tmodN]
      show _ = decide ((acc + 0) % 10 = 0)
      rw [Nat.add_zero]
      by_cases h : acc % 10 = 0
      · rw [h]; rfl
      · rw [decide_eq_false h]
        have : (((acc % 10 : Nat) : Int)) ≠ 0 := by omega
        simpa using this
    | succ j ih =>
      intro i acc hj hi ha
      have hil : i < l.length := by omega
      have hix : wi64 (wi64 (((B l).size : Int) - 1) - (i : Int)) = ((l.length - 1 - i : Nat) : Int) := by
        rw [size_B, wi64_id (x := (l.length : Int) - 1) (by omega) (by omega), wi64_id (by omega) (by omega)]; omega
      have hdg := dg_getD hd (i := l.length - 1 - i) (by omega)
      have hb := dgB_iff.1 hdg
      refine .step (fun k => heq k _ _ _ _) (.ck (by omega) ?_)
      rw [hix, bt_B (by omega), wu8_dig hdg, show wi64 ((i : Int) + 1) = ((i + 1 : Nat) : Int) by rw [wi64_id (by omega) (by omega)]; rfl, show (2 : Int) = ((2 : Nat) : Int) from rfl, tmodN]
      have hr : l.reverse.drop i = l.getD (l.length - 1 - i) 0 :: l.reverse.drop (i + 1) := by
        rw [drop_getD (by rw [List.length_reverse]; exact hil), rev_getD hil]
      rw [hr]
      show Ev _ (decide ((acc + ((_ - 48) * (if i % 2 = 1 then 3 else 1) + thrS (i + 1) _)) % 10 = 0))
      refine .ck (by omega) (.ck (by rw [size_B]; omega) ?_)
      generalize l.getD (l.length - 1 - i) 0 = b at hb
      by_cases hp : i % 2 = 1
      · refine .tt (by rw [hp]; rfl) ?_
        rw [if_pos hp]
        have e : wi64 ((acc : Int) + wi64 (((b.toNat - 48 : Nat) : Int) * 3)) = ((acc + (b.toNat - 48) * 3 : Nat) : Int) := by
          rw [wi64_id (x := _ * 3) (by omega) (by omega), wi64_id (by omega) (by omega)]; omega
        rw [e, ← Nat.add_assoc]
        exact ih (i + 1) _ (by omega) (by omega) (by omega)
      · refine .ff (by rw [show i % 2 = 0 by omega]; rfl) ?_
        rw [if_neg hp, Nat.mul_one]
        have e : wi64 ((acc : Int) + (((b.toNat - 48 : Nat) : Int))) = ((acc + (b.toNat - 48) : Nat) : Int) := by
          rw [wi64_id (by omega) (by omega)]; omega
        rw [e, ← Nat.add_assoc]
        exact ih (i + 1) _ (by omega) (by omega) (by omega)
  have := key _ 0 0 rfl (Nat.zero_le _) (Nat.le_refl _)
  rw [Nat.zero_add] at this
  exact this
theorem ev_isSum (l : List UInt8) (hd : ∀ b ∈ l, dgB b = true) (hn : l.length ≤ 1000) : Ev (fun k => amount_isSum k (B l)) (thr l) :=
  .step (fun k => amount_isSum_eq k _) (by rw [size_B]; exact sum_step amount_isSum_c3_eq l hd hn)
/-! ### letters -/
theorem ev_aLetters (l : List UInt8) (hn : l.length < 1125899906842624) : Ev (fun k => amount_isLetters k (B l)) (l.all ltB) := by
  have := ev_InBytes (B l) 65 90 (by rw [size_B]; exact hn)
  rw [L_B] at this
  refine .step (fun k => amount_isLetters_eq k _) (.ret (.to this ?_) rfl)
  congr 1
  funext b
  unfold ltB
  congr 1 <;> simp <;> omega
def alnum : List UInt8 := [65, 66, 67, 68, 69, 70, 71, 72, 73, 74, 75, 76, 77, 78, 79, 80, 81, 82, 83, 84, 85, 86, 87, 88, 89, 90, 48, 49, 50, 51, 52, 53, 54, 55, 56, 57]
theorem alnum_iff (b : UInt8) : alnum.contains b = bdB b := by
  have : ∀ k : Fin 256, alnum.contains (UInt8.ofNat k.val) = bdB (UInt8.ofNat k.val) := by decide +kernel
  have h := this ⟨b.toNat, b.toNat_lt⟩
  simpa using h
theorem dropW_nil {p : UInt8 → Bool} : ∀ l : List UInt8, l.dropWhile p = [] ↔ l.all p = true
  | [] => by simp
  | b :: l => by
    rw [List.dropWhile_cons, List.all_cons]
    cases h : p b with
    | true => simpa using dropW_nil (p := p) l
    | false => simp
theorem trimS_nil (l cs : List UInt8) : Lib.trimS l cs = [] ↔ l.all (cs.contains ·) = true := by
  unfold Lib.trimS Lib.trimLeftS Lib.trimRightS
  constructor
  · intro h
    have h1 := (dropW_nil _).1 h
    have h2 : l.reverse.dropWhile (cs.contains ·) = [] := by
      cases hd : l.reverse.dropWhile (cs.contains ·) with
      | nil => rfl
      | cons b t =>
        have h1 := List.all_eq_true.1 h1 b (by rw [hd]; simp)
        have h2 : cs.contains b = false := by
          have := List.head?_dropWhile_not (cs.contains ·) l.reverse
          rw [hd] at this
          simpa using this
        rw [h2] at h1
        cases h1
    have h3 := (dropW_nil _).1 h2
    rw [List.all_reverse] at h3
    exact h3
  · intro h
    refine (dropW_nil _).2 (List.all_eq_true.2 fun x hx => List.all_eq_true.1 h x ?_)
    have := List.mem_reverse.1 hx
    exact List.mem_reverse.1 ((List.dropWhile_sublist _).subset this)
theorem ev_isBody (l : List UInt8) (hn : l.length ≤ 9223372036854775807) : Ev (fun k => amount_isBody k (B l)) (l.all bdB) := by
  refine .step (fun k => amount_isBody_eq k _) (.ret (.step (fun k => kit_IsTagPart_eq k _) (.bind (x := B (Lib.trimS l alnum)) ?_ (.to (.pure _) ?_))) rfl)
  · refine .off (n := 0) fun k => ?_
    have e3 : (B l).data.toList = l := L_B l
    rw [strings_Trim_eq, size_B, e3, decide_eq_true hn]
    rfl
  · have ha : (fun x => alnum.contains x) = bdB := funext alnum_iff
    have := trimS_nil l alnum
    rw [ha] at this
    rw [eqS_nil, L_B]
    cases hl : l.all bdB with
    | true => rw [this.2 hl]; rfl
    | false =>
      have h2 : Lib.trimS l alnum ≠ [] := fun z => by rw [this.1 z] at hl; cases hl
      cases ht : Lib.trimS l alnum with
      | nil => exact absurd ht h2
      | cons => rfl

/-! ### rests -/
theorem bd_cases {b : UInt8} (h : bdB b = true) : (65 ≤ b.toNat ∧ b.toNat ≤ 90) ∨ (48 ≤ b.toNat ∧ b.toNat ≤ 57) := by
  unfold bdB dgB at h
  simpa using h
theorem bd_getD {l : List UInt8} (hd : ∀ b ∈ l, bdB b = true) {i : Nat} (h : i < l.length) : bdB (l.getD i 0) = true := by
  rw [List.getD_eq_getElem?_getD, List.getElem?_eq_getElem h]
  exact hd _ (List.getElem_mem h)
theorem byts_B (l : List UInt8) : byts (B l) = bl l := rfl
theorem bl_getD {l : List UInt8} {i : Nat} (h : i < l.length) : (bl l).getD i 0 = (((l.getD i 0).toNat : Nat) : Int) := by
  unfold bl
  rw [List.getD_eq_getElem?_getD, List.getElem?_map, List.getElem?_eq_getElem h, List.getD_eq_getElem?_getD, List.getElem?_eq_getElem h]
  rfl
theorem ev_brest_c3 (l : List UInt8) (hd : ∀ b ∈ l, bdB b = true) (hn : l.length ≤ 1000) : Ev (fun k => amount_bankRestOf_c3 k 0 (bl l) ((bl l).length : Int) 0) ((rsL 0 l : Nat) : Int) := by
  rw [bl_len]
  have key : ∀ (j i r : Nat), l.length - i = j → i ≤ l.length → r < 97 → Ev (fun k => amount_bankRestOf_c3 k (r : Int) (bl l) (l.length : Int) (i : Int)) ((rsL r (l.drop i) : Nat) : Int) := by
    intro j
    induction j with
    | zero =>
      intro i r hj hi hr
      refine .step (fun k => amount_bankRestOf_c3_eq k _ _ _ _) (.nk (by omega) (.to (.pure _) ?_))
      rw [List.drop_of_length_le (by omega)]; rfl
    | succ j ih =>
      intro i r hj hi hr
      have hil : i < l.length := by omega
      have hb := bd_cases (bd_getD hd hil)
      refine .step (fun k => amount_bankRestOf_c3_eq k _ _ _ _) (.ck (by omega) (.ck (by omega) (.ck (by rw [bl_len]; omega) ?_)))
      rw [Int.toNat_natCast, bl_getD hil, drop_getD hil, show wi64 ((i : Int) + 1) = ((i + 1 : Nat) : Int) by rw [wi64_id (by omega) (by omega)]; rfl]
      generalize l.getD i 0 = b at hb
      show Ev _ ((rsL ((if 65 ≤ b.toNat then r * 100 + (b.toNat - 65 + 10) else r * 10 + (b.toNat - 48)) % 97) _ : Nat) : Int)
      by_cases h65 : 65 ≤ b.toNat
      · rw [if_pos h65]
        refine .ck (by omega) ?_
        have e : (wi64 (wi64 (wi64 (wi64 ((r : Int) * 10) * 10) + wi64 (wu8 ((b.toNat : Int) - 65))) + 10)).tmod 97 = (((r * 100 + (b.toNat - 65 + 10)) % 97 : Nat) : Int) := by
          rw [wu8_id (by omega) (by omega), wi64_id (x := (b.toNat : Int) - 65) (by omega) (by omega), wi64_id (x := (r : Int) * 10) (by omega) (by omega), wi64_id (x := (r : Int) * 10 * 10) (by omega) (by omega), wi64_id (x := (r : Int) * 10 * 10 + _) (by omega) (by omega), wi64_id (by omega) (by omega), Int.tmod_eq_emod_of_nonneg (by omega)]
          omega
        rw [e]
        exact ih (i + 1) _ (by omega) (by omega) (Nat.mod_lt _ (by decide))
      · rw [if_neg h65]
        refine .nk (by omega) ?_
        have e : (wi64 (wi64 ((r : Int) * 10) + wi64 (wu8 ((b.toNat : Int) - 48)))).tmod 97 = (((r * 10 + (b.toNat - 48)) % 97 : Nat) : Int) := by
          rw [wu8_id (by omega) (by omega), wi64_id (x := (b.toNat : Int) - 48) (by omega) (by omega), wi64_id (x := (r : Int) * 10) (by omega) (by omega), wi64_id (by omega) (by omega), Int.tmod_eq_emod_of_nonneg (by omega)]
          omega
        rw [e]
        exact ih (i + 1) _ (by omega) (by omega) (Nat.mod_lt _ (by decide))
  exact key _ 0 0 rfl (Nat.zero_le _) (by decide)
theorem ev_brest (l : List UInt8) (hd : ∀ b ∈ l.drop 4 ++ l.take 4, bdB b = true) (hn : l.length ≤ 900) (h4 : 4 ≤ l.length) : Ev (fun k => amount_bankRestOf k (B l)) ((rsL 0 (l.drop 4 ++ l.take 4) : Nat) : Int) := by
  refine .step (fun k => amount_bankRestOf_eq k _) ?_
  have e1 : (B l).extract 4 (B l).size = B (l.drop 4) := by rw [size_B, B_ext, List.take_of_length_le (Nat.le_refl _)]
  have e2 : (B l).extract 0 4 = B (l.take 4) := by rw [B_ext, List.drop_zero]
  rw [e1, e2, B_app, byts_B]
  simp only [size_B]
  refine .ck (by omega) (.ck (by omega) (.ck (by rw [List.length_drop, List.length_take]; omega) ?_))
  exact ev_brest_c3 _ hd (by rw [List.length_append, List.length_drop, List.length_take]; omega)

/-! ### the tax number's digit -/
theorem ev_aTaxDigit (l : List UInt8) (hd : ∀ b ∈ l, dgB b = true) (hn : l.length ≤ 1000) : Ev (fun k => amount_taxDigit k (B l)) ((48 + (11 - txS 10 l) % 10 : Nat) : Int) := by
  refine .step (fun k => amount_taxDigit_eq k _) ?_
  rw [size_B]
  have key : ∀ (j i s : Nat), l.length - i = j → i ≤ l.length → s ≤ 10 → Ev (fun k => amount_taxDigit_c3 k (B l) (s : Int) (l.length : Int) (i : Int)) ((48 + (11 - txS s (l.drop i)) % 10 : Nat) : Int) := by
    intro j
    induction j with
    | zero =>
      intro i s hj hi hs
      refine .step (fun k => amount_taxDigit_c3_eq k _ _ _ _) (.nk (by omega) (.to (.pure _) ?_))
      rw [List.drop_of_length_le (by omega)]
      show _ = ((48 + (11 - s) % 10 : Nat) : Int)
      rw [wi64_id (by omega) (by omega), Int.tmod_eq_emod_of_nonneg (by omega), wu8_id (x := (11 - (s : Int)) % 10) (by omega) (by omega), wu8_id (by omega) (by omega)]
      omega
    | succ j ih =>
      intro i s hj hi hs
      have hil : i < l.length := by omega
      have hdg := dg_getD hd hil
      have hb := dgB_iff.1 hdg
      refine .step (fun k => amount_taxDigit_c3_eq k _ _ _ _) (.ck (by omega) (.ck (by omega) (.ck (by rw [size_B]; omega) ?_)))
      rw [bt_B hil, wu8_dig hdg, drop_getD hil, show wi64 ((i : Int) + 1) = ((i + 1 : Nat) : Int) by rw [wi64_id (by omega) (by omega)]; rfl]
      generalize l.getD i 0 = b at hb
      show Ev _ ((48 + (11 - txS (if (b.toNat - 48 + s) % 10 = 0 then 9 else 2 * ((b.toNat - 48 + s) % 10) % 11) _) % 10 : Nat) : Int)
      have e : (wi64 (((b.toNat - 48 : Nat) : Int) + (s : Int))).tmod 10 = (((b.toNat - 48 + s) % 10 : Nat) : Int) := by
        rw [wi64_id (by omega) (by omega), Int.tmod_eq_emod_of_nonneg (by omega)]
        omega
      rw [e]
      by_cases hz : (b.toNat - 48 + s) % 10 = 0
      · rw [if_pos hz]
        exact .tt (by rw [hz]; rfl) (ih (i + 1) 9 (by omega) (by omega) (by omega))
      · rw [if_neg hz]
        refine .ff (by simpa using (show (((b.toNat - 48 + s) % 10 : Nat) : Int) ≠ 0 by omega)) ?_
        have e2 : (wi64 (2 * (((b.toNat - 48 + s) % 10 : Nat) : Int))).tmod 11 = ((2 * ((b.toNat - 48 + s) % 10) % 11 : Nat) : Int) := by
          rw [wi64_id (by omega) (by omega), Int.tmod_eq_emod_of_nonneg (by omega)]
          omega
        rw [e2]
        exact ih (i + 1) _ (by omega) (by omega) (by omega)
  exact key _ 0 10 rfl (Nat.zero_le _) (by decide)
end Go.Proofs.YtegiadfbniamkaaDoor.Eq
namespace Go.Proofs.YtegiadfbniamkaaDoor.Eq
open Go Go.Ra
set_option linter.unusedVariables false

end Go.Proofs.YtegiadfbniamkaaDoor.Eq
namespace Go.Proofs.YtegiadfbniamkaaDoor.Eq
open Go Go.Ra
set_option linter.unusedVariables false

/- the reference -/
end Go.Proofs.YtegiadfbniamkaaDoor.Eq
namespace Go.Ra
open Go Go.Ra
end Go.Ra
namespace Go.Proofs.YtegiadfbniamkaaDoor.Eq
open Go Go.Ra
set_option linter.unusedVariables false

/-! ### the implied point -/
end Go.Proofs.YtegiadfbniamkaaDoor.Eq
namespace Go.Ra
open Go Go.Ra
theorem lt_bd {b : UInt8} (h : ltB b = true) : bdB b = true := by unfold bdB; unfold ltB at h; rw [h]; rfl
theorem dg_bd {b : UInt8} (h : dgB b = true) : bdB b = true := by unfold bdB; rw [h]; simp
theorem take4 (l : List UInt8) : l.take 4 = l.take 2 ++ (l.drop 2).take 2 := List.take_add (i := 2) (j := 2)
theorem bank_bd {l : List UInt8} (h1 : (l.take 2).all ltB = true) (h2 : digB ((l.drop 2).take 2) = true) (h3 : (l.drop 4).all bdB = true) : ∀ b ∈ l.drop 4 ++ l.take 4, bdB b = true := by
  intro b hb
  rcases List.mem_append.1 hb with h | h
  · exact List.all_eq_true.1 h3 b h
  · rw [take4] at h
    rcases List.mem_append.1 h with h | h
    · exact lt_bd (List.all_eq_true.1 h1 b h)
    · exact dg_bd (digB_all h2 b h)
end Go.Ra
namespace Go.Proofs.YtegiadfbniamkaaDoor.Eq
open Go Go.Ra
set_option linter.unusedVariables false
set_option linter.unusedSimpArgs false

theorem xt02 (l : List UInt8) : (B l).extract 0 2 = B (l.take 2) := by rw [B_ext, List.drop_zero]
theorem xt24 (l : List UInt8) : (B l).extract 2 4 = B ((l.drop 2).take 2) := by rw [B_ext, List.drop_take]
theorem xt4 (l : List UInt8) : (B l).extract 4 l.length = B (l.drop 4) := by rw [B_ext, List.take_of_length_le (Nat.le_refl _)]
theorem xt2 (l : List UInt8) : (B l).extract 2 l.length = B (l.drop 2) := by rw [B_ext, List.take_of_length_le (Nat.le_refl _)]
theorem ev_kDigB (l : List UInt8) (hn : l.length < 1125899906842624) : Ev (fun k => kit_IsDigits k (B l)) (digB l) := by
  have := ev_kDig (B l) (by rw [size_B]; exact hn)
  rwa [L_B] at this
theorem ev_aBank (l : List UInt8) (hn : l.length < 1125899906842624) : Ev (fun k => amount_isBank k (B l)) (bankB l) := by
  have ht2 : (l.take 2).length ≤ 2 := by rw [List.length_take]; omega
  have ht4 : ((l.drop 2).take 2).length ≤ 2 := by rw [List.length_take]; omega
  have htd : (l.drop 4).length ≤ l.length := by rw [List.length_drop]; omega
  refine .step (fun k => amount_isBank_eq k _) ?_
  simp only [size_B, xt02, xt24, xt4]
  by_cases hr : 15 ≤ l.length ∧ l.length ≤ 34
  · have hX : (cond (decide ((l.length : Int) < 15)) true (decide ((l.length : Int) > 34))) = false := by
      rw [decide_eq_false (by omega), decide_eq_false (by omega)]; rfl
    rw [hX]
    have hR : (decide (15 ≤ l.length) && decide (l.length ≤ 34)) = true := by simp [hr.1, hr.2]
    have h4 : decide (4 ≤ (l.length : Int)) = true := decide_eq_true (by omega)
    rw [h4]
    refine .tt rfl (.tt (by simp; omega) (.bind (.tt rfl (ev_aLetters _ (by omega))) ?_))
    cases hl : (l.take 2).all ltB with
    | false =>
      refine .tt rfl (.tt rfl (.tt rfl (.bind (x := false) (.ff rfl (.pure _)) (.tt rfl (.tt rfl (.bind (x := false) (.ff rfl (.pure _)) (.tt rfl (.to (.pure _) ?_))))))))
      unfold bankB; rw [hR, hl]; rfl
    | true =>
      refine .tt rfl (.tt rfl (.tt rfl (.bind (.tt rfl (ev_kDigB _ (by omega))) ?_)))
      cases hd : digB ((l.drop 2).take 2) with
      | false =>
        refine .tt rfl (.tt rfl (.bind (x := false) (.ff rfl (.pure _)) (.tt rfl (.to (.pure _) ?_))))
        unfold bankB; rw [hR, hl, hd]; rfl
      | true =>
        refine .tt rfl (.tt rfl (.bind (.tt rfl (ev_isBody _ (by omega))) ?_))
        cases hb : (l.drop 4).all bdB with
        | false =>
          refine .tt rfl (.to (.pure _) ?_)
          unfold bankB; rw [hR, hl, hd, hb]; rfl
        | true =>
          refine .ff rfl (.bind (ev_brest l (bank_bd hl hd hb) (by omega) (by omega)) ?_)
          have e1 : (((rsL 0 (l.drop 4 ++ l.take 4) : Nat) : Int) == 1) = decide (rsL 0 (l.drop 4 ++ l.take 4) = 1) := by
            by_cases h : rsL 0 (l.drop 4 ++ l.take 4) = 1
            · rw [h]; rfl
            · rw [decide_eq_false h]
              have : ((rsL 0 (l.drop 4 ++ l.take 4) : Nat) : Int) ≠ 1 := by omega
              simpa using this
          rw [e1]
          have hfin : bankB l = (decide (rsL 0 (l.drop 4 ++ l.take 4) = 1) && (!(ltS (B ((l.drop 2).take 2)) (bs [48, 50])) && (ltS (B ((l.drop 2).take 2)) (bs [57, 56]) || eqS (B ((l.drop 2).take 2)) (bs [57, 56])))) := by
            unfold bankB; rw [hR, hl, hd, hb]; rfl
          rw [hfin]
          generalize decide (rsL 0 (l.drop 4 ++ l.take 4) = 1) = p
          generalize ltS (B ((l.drop 2).take 2)) (bs [48, 50]) = q
          generalize (ltS (B ((l.drop 2).take 2)) (bs [57, 56]) || eqS (B ((l.drop 2).take 2)) (bs [57, 56])) = r
          refine .tt (by cases p <;> rfl) (.tt (by cases p <;> rfl) (.tt (by cases p <;> rfl) (.tt (by cases p <;> cases q <;> rfl) (.tt (by cases p <;> cases q <;> rfl) (.tt (by cases p <;> cases q <;> rfl) (.to (.pure _) ?_))))))
          cases p <;> cases q <;> cases r <;> rfl
  · have hX : (cond (decide ((l.length : Int) < 15)) true (decide ((l.length : Int) > 34))) = true := by
      by_cases h : (l.length : Int) < 15
      · rw [decide_eq_true h]; rfl
      · rw [decide_eq_false h, decide_eq_true (by omega)]; rfl
    have hR : (decide (15 ≤ l.length) && decide (l.length ≤ 34)) = false := by
      by_cases h : 15 ≤ l.length
      · rw [decide_eq_false (by omega : ¬ l.length ≤ 34)]; simp
      · rw [decide_eq_false h]; rfl
    rw [hX]
    refine .tt rfl (.tt rfl (.bind (x := false) (.ff rfl (.pure _)) (.tt rfl (.tt rfl (.tt rfl (.bind (x := false) (.ff rfl (.pure _)) (.tt rfl (.tt rfl (.bind (x := false) (.ff rfl (.pure _)) (.tt rfl (.to (.pure _) ?_)))))))))))
    unfold bankB; rw [hR]; rfl

theorem ev_aTax (l : List UInt8) (hn : l.length < 1125899906842624) : Ev (fun k => amount_isTax k (B l)) (taxB l) := by
  refine .step (fun k => amount_isTax_eq k _) ?_
  simp only [size_B]
  by_cases h11 : l.length = 11
  · have e11 : (((l.length : Int)) == 11) = true := by rw [h11]; rfl
    rw [e11]
    refine .bind (.tt rfl (ev_kDigB l hn)) ?_
    cases hd : digB l with
    | false =>
      refine .tt rfl (.tt rfl (.tt rfl (.tt rfl (.bind (x := 0) (.ff rfl (.pure _)) (.tt rfl (.tt rfl (.to (.pure _) ?_)))))))
      unfold taxB; rw [hd]; simp
    | true =>
      have hb0 : bt (B l) 0 = (((l.getD 0 0).toNat : Nat) : Int) := bt_B (i := 0) (by omega)
      have hb10 : bt (B l) 10 = (((l.getD 10 0).toNat : Nat) : Int) := bt_B (i := 10) (by omega)
      have ex : (B l).extract 0 10 = B (l.take 10) := by rw [B_ext, List.drop_zero]
      rw [hb0, hb10, ex]
      have hne : ((((l.getD 0 0).toNat : Nat) : Int) != 48) = decide (l.getD 0 0 ≠ 48) := by
        by_cases h : l.getD 0 0 = 48
        · rw [h]; rfl
        · have : ((((l.getD 0 0).toNat : Nat) : Int)) ≠ 48 := fun z => h (UInt8.toNat_inj.1 (by rw [show (48 : UInt8).toNat = 48 from rfl]; omega))
          rw [decide_eq_true h]; simpa using this
      rw [hne]
      have hfin : taxB l = (decide (l.getD 0 0 ≠ 48) && decide (48 + (11 - txS 10 (l.take 10)) % 10 = (l.getD 10 0).toNat)) := by
        unfold taxB; rw [hd, decide_eq_true h11]; rfl
      rw [hfin]
      cases hz : decide (l.getD 0 0 ≠ 48) with
      | false => exact .tt rfl (.tt (by rw [h11]; rfl) (.tt rfl (.tt rfl (.bind (x := 0) (.ff rfl (.pure _)) (.tt rfl (.tt rfl (.pure _)))))))
      | true =>
        have htx := ev_aTaxDigit (l.take 10) (fun b hb => digB_all hd b (List.mem_of_mem_take hb)) (by rw [List.length_take]; omega)
        refine .tt rfl (.tt (by rw [h11]; rfl) (.tt rfl (.tt (by rw [h11]; rfl) (.bind (.tt rfl htx) (.tt rfl (.tt (by rw [h11]; rfl) (.to (.pure _) ?_)))))))
        by_cases h : 48 + (11 - txS 10 (l.take 10)) % 10 = (l.getD 10 0).toNat
        · rw [decide_eq_true h, h]; simp
        · rw [decide_eq_false h]
          have : ((48 + (11 - txS 10 (l.take 10)) % 10 : Nat) : Int) ≠ (((l.getD 10 0).toNat : Nat) : Int) := by omega
          simpa using this
  · have e11 : (((l.length : Int)) == 11) = false := by
      have : (l.length : Int) ≠ 11 := by omega
      simpa using this
    rw [e11]
    refine .bind (x := false) (.ff rfl (.pure _)) (.tt rfl (.tt rfl (.tt rfl (.tt rfl (.bind (x := 0) (.ff rfl (.pure _)) (.tt rfl (.tt rfl (.to (.pure _) ?_))))))))
    unfold taxB; rw [decide_eq_false h11]; rfl

theorem ev_aNumber (kind : Int) (hk : 1 ≤ kind ∧ kind ≤ 5) (l : List UInt8) (hn : l.length < 1125899906842624) : Ev (fun k => amount_isNumber k kind (B l)) (numB kind l) := by
  refine .step (fun k => amount_isNumber_eq k _ _) ?_
  unfold numB
  by_cases h4 : kind = 4
  · rw [if_pos h4]
    exact .tt (by simp [h4]) (.ret (ev_aBank l hn) rfl)
  rw [if_neg h4]
  refine .ff (by simpa using h4) ?_
  by_cases h5 : kind = 5
  · rw [if_pos h5]
    exact .tt (by simp [h5]) (.ret (ev_aTax l hn) rfl)
  rw [if_neg h5]
  refine .ff (by simpa using h5) ?_
  have main : ∀ (w : List Int) (p : Bool), w.length < 1000 → decide ((l.length : Int) ∈ w) = p → (p = true → l.length ≤ 1000) → Ev (fun k => (some w).bind fun y2 => (slices_Contains_Lint_int k y2 ((B l).size : Int)).bind fun y3 => (cond y3 (kit_IsDigits k (B l)) (some false)).bind fun y4 => (cond (cond y3 y4 false) (amount_isSum k (B l)) (some false)).bind fun y5 => some (cond (cond y3 y4 false) y5 false)) (p && (digB l && thr l)) := by
    intro w p hw hp hs
    refine .bind (.pure _) (.bind (ev_Contains w _ (by omega)) ?_)
    rw [size_B, hp]
    cases p with
    | false => exact .bind (x := false) (.ff rfl (.pure _)) (.bind (x := false) (.ff rfl (.pure _)) (.pure _))
    | true =>
      refine .bind (.tt rfl (ev_kDigB l hn)) ?_
      cases hd : digB l with
      | false => exact .bind (x := false) (.ff rfl (.pure _)) (.pure _)
      | true => exact .bind (.tt rfl (ev_isSum l (digB_all hd) (hs rfl))) (.to (.pure _) rfl)
  by_cases h1 : kind = 1
  · rw [if_pos h1]
    refine .bind (x := [8, 12, 13, 14]) (.step (fun k => amount_lengths_eq k _) (.tt (by simp [h1]) (.pure _))) ?_
    exact main [8, 12, 13, 14] _ (by decide) (by
      apply decide_eq_decide.2
      simp
      omega) (fun h => by have := of_decide_eq_true h; omega)
  rw [if_neg h1]
  by_cases h2 : kind = 2
  · rw [if_pos h2]
    refine .bind (x := [13]) (.step (fun k => amount_lengths_eq k _) (.ff (by simpa using h1) (.tt (by simp [h2]) (.pure _)))) ?_
    exact main [13] _ (by decide) (by
      apply decide_eq_decide.2
      simp
      omega) (fun h => by have := of_decide_eq_true h; omega)
  rw [if_neg h2]
  refine .bind (x := [18]) (.step (fun k => amount_lengths_eq k _) (.ff (by simpa using h1) (.ff (by simpa using h2) (.pure _)))) ?_
  exact main [18] _ (by decide) (by
    apply decide_eq_decide.2
    simp
    omega) (fun h => by have := of_decide_eq_true h; omega)

end Go.Proofs.YtegiadfbniamkaaDoor.Eq
namespace Go.Ra
open Go Go.Ra
/-- A digit's byte. -/
def chD (d : Nat) : UInt8 := UInt8.ofNat (48 + d)
theorem ch_toNat {d : Nat} (h : d < 10) : (chD d).toNat = 48 + d := by
  unfold chD
  rw [UInt8.toNat_ofNat']
  omega
theorem ch_dg {d : Nat} (h : d < 10) : dgB (chD d) = true := by rw [dgB_iff, ch_toNat h]; omega
/-- An account's number with these check digits. -/
def bkT (l : List UInt8) (c : Nat) : List UInt8 := l.take 2 ++ ([chD (c / 10), chD (c % 10)] ++ l.drop 2)
theorem bkT_len {l : List UInt8} (h : 2 ≤ l.length) (c : Nat) : (bkT l c).length = l.length + 2 := by
  unfold bkT
  simp
  omega
theorem bkT_parts {l : List UInt8} (h : 2 ≤ l.length) (c : Nat) : (bkT l c).take 2 = l.take 2 ∧ ((bkT l c).drop 2).take 2 = [chD (c / 10), chD (c % 10)] ∧ (bkT l c).drop 4 = l.drop 2 := by
  have h2 : (l.take 2).length = 2 := by rw [List.length_take]; omega
  have d2 : (bkT l c).drop 2 = [chD (c / 10), chD (c % 10)] ++ l.drop 2 := by
    unfold bkT
    rw [List.drop_append, List.drop_of_length_le (by omega), h2]
    rfl
  refine ⟨?_, ?_, ?_⟩
  · unfold bkT
    rw [List.take_append, List.take_of_length_le (by omega), h2]
    simp
  · rw [d2]; rfl
  · rw [show (4 : Nat) = 2 + 2 from rfl, ← List.drop_drop, d2]; rfl
theorem rs_two (r c : Nat) (hc : c < 100) : rsL r [chD (c / 10), chD (c % 10)] = (100 * r + c) % 97 := by
  have h1 := ch_toNat (show c / 10 < 10 by omega)
  have h2 := ch_toNat (show c % 10 < 10 by omega)
  show rsL ((if 65 ≤ (chD (c / 10)).toNat then _ else r * 10 + ((chD (c / 10)).toNat - 48)) % 97) [chD (c % 10)] = _
  rw [if_neg (by omega), h1]
  show (if 65 ≤ (chD (c % 10)).toNat then _ else ((r * 10 + (48 + c / 10 - 48)) % 97) * 10 + ((chD (c % 10)).toNat - 48)) % 97 = _
  rw [if_neg (by omega), h2]
  omega
theorem rs_bkT {l : List UInt8} (h : 2 ≤ l.length) {c : Nat} (hc : c < 100) : rsL 0 ((bkT l c).drop 4 ++ (bkT l c).take 4) = (100 * rsL 0 (l.drop 2 ++ l.take 2) + c) % 97 := by
  obtain ⟨p1, p2, p3⟩ := bkT_parts h c
  rw [take4, p1, p2, p3, ← List.append_assoc, rsL_app, rs_two _ _ hc]
theorem two_low : ∀ c : Fin 100, ltS (B [chD (c.val / 10), chD (c.val % 10)]) (bs [48, 50]) = decide (c.val < 2) := by decide +kernel
theorem two_high : ∀ c : Fin 100, (ltS (B [chD (c.val / 10), chD (c.val % 10)]) (bs [57, 56]) || eqS (B [chD (c.val / 10), chD (c.val % 10)]) (bs [57, 56])) = decide (c.val ≤ 98) := by decide +kernel
/-- The one pair of check digits. -/
def ckN (l : List UInt8) : Nat := 98 - 100 * rsL 0 (l.drop 2 ++ l.take 2) % 97
theorem ckN_lt (l : List UInt8) : 2 ≤ ckN l ∧ ckN l ≤ 98 := by unfold ckN; omega
theorem bank_ck {l : List UInt8} (h : 2 ≤ l.length) {c : Nat} (hc : c < 100) (hb : bankB (bkT l c) = true) : c = ckN l ∧ 13 ≤ l.length ∧ l.length ≤ 32 ∧ l.all bdB = true := by
  obtain ⟨p1, p2, p3⟩ := bkT_parts h c
  have hl := bkT_len h c
  unfold bankB at hb
  rw [rs_bkT h hc, p1, p2, p3, two_low ⟨c, hc⟩, two_high ⟨c, hc⟩, hl] at hb
  simp only [Bool.and_eq_true, decide_eq_true_eq, Bool.not_eq_true', decide_eq_false_iff_not] at hb
  obtain ⟨⟨q1, q2⟩, q3, q4, q5, q6, q7, q8⟩ := hb
  refine ⟨by unfold ckN; omega, by omega, by omega, ?_⟩
  rw [← List.take_append_drop 2 l, List.all_append, q5, Bool.and_true]
  exact List.all_eq_true.2 fun b hb => lt_bd (List.all_eq_true.1 q3 b hb)
theorem pdL_two : ∀ n : Nat, n < 100 → pdL (n : Int) 2 = [chD (n / 10), chD (n % 10)] := by
  intro n hn
  unfold pdL
  rw [itoa_nat]
  by_cases h : n < 10
  · rw [Lib.decDigits_one h, show n / 10 = 0 by omega, Nat.mod_eq_of_lt h]
    rfl
  · rw [Lib.decDigits_two h hn]
    rfl
end Go.Ra
namespace Go.Proofs.YtegiadfbniamkaaDoor.Eq
open Go Go.Ra
set_option linter.unusedVariables false
set_option linter.unusedSimpArgs false

/-- The first digit that fits, from one on. -/
theorem first_digit (p : Nat → Bool) : ∀ (j d : Nat), 10 - d = j → (∃ e, d ≤ e ∧ e < 10 ∧ p e = true ∧ ∀ f, d ≤ f → f < e → p f = false) ∨ ∀ f, d ≤ f → f < 10 → p f = false := by
  intro j
  induction j with
  | zero => intro d hd; exact .inr fun f h1 h2 => by omega
  | succ j ih =>
    intro d hd
    cases hp : p d with
    | true => exact .inl ⟨d, Nat.le_refl _, by omega, hp, fun f h1 h2 => by omega⟩
    | false =>
      rcases ih (d + 1) (by omega) with ⟨e, h1, h2, h3, h4⟩ | h
      · refine .inl ⟨e, by omega, h2, h3, fun f g1 g2 => ?_⟩
        by_cases hf : f = d
        · rw [hf]; exact hp
        · exact h4 f (by omega) g2
      · refine .inr fun f g1 g2 => ?_
        by_cases hf : f = d
        · rw [hf]; exact hp
        · exact h f (by omega) g2
theorem ev_ItoaD {d : Nat} (h : d < 10) : Ev (fun k => strconv_Itoa k (d : Int)) (B [chD d]) := by
  have := ev_Itoa (n := (d : Int)) (by omega) (by omega)
  rw [itoa_nat, Lib.decDigits_one h] at this
  exact this
theorem ev_acomp (kind : Int) (hk : 1 ≤ kind ∧ kind ≤ 5) (l : List UInt8) (hn : l.length ≤ 1000) :
    (∀ e, e < 10 → numB kind (l ++ [chD e]) = true → (∀ f, f < e → numB kind (l ++ [chD f]) = false) → Ev (fun k => amount_Completed_c16 k kind (B l) 0) (B (l ++ [chD e]), 0)) ∧
    ((∀ f, f < 10 → numB kind (l ++ [chD f]) = false) → Ev (fun k => amount_Completed_c16 k kind (B l) 0) (bs [], 3)) := by
  have st : ∀ d, d < 10 → ∀ r, (numB kind (l ++ [chD d]) = true → r = (B (l ++ [chD d]), 0)) → (numB kind (l ++ [chD d]) = false → Ev (fun k => amount_Completed_c16 k kind (B l) ((d + 1 : Nat) : Int)) r) → Ev (fun k => amount_Completed_c16 k kind (B l) (d : Int)) r := by
    intro d hd r h1 h2
    refine .step (fun k => amount_Completed_c16_eq k _ _ _) (.ck (by omega) (.bind (ev_ItoaD hd) ?_))
    rw [B_app, show wi64 ((d : Int) + 1) = ((d + 1 : Nat) : Int) by rw [wi64_id (by omega) (by omega)]; rfl]
    simp only [size_B]
    refine .ck (by simp; omega) (.bind (ev_aNumber kind hk _ (by simp; omega)) ?_)
    cases hp : numB kind (l ++ [chD d]) with
    | true => rw [h1 hp]; exact .tt rfl (.pure _)
    | false => exact .ff rfl (h2 hp)
  constructor
  · intro e he hp hf
    have key : ∀ (j d : Nat), e - d = j → d ≤ e → Ev (fun k => amount_Completed_c16 k kind (B l) (d : Int)) (B (l ++ [chD e]), 0) := by
      intro j
      induction j with
      | zero =>
        intro d hj hd
        have : d = e := by omega
        subst this
        exact st d he _ (fun _ => rfl) (fun z => by rw [hp] at z; cases z)
      | succ j ih =>
        intro d hj hd
        exact st d (by omega) _ (fun z => by rw [hf d (by omega)] at z; cases z) (fun _ => ih (d + 1) (by omega) (by omega))
    exact key _ 0 rfl (Nat.zero_le _)
  · intro hf
    have key : ∀ (j d : Nat), 10 - d = j → d ≤ 10 → Ev (fun k => amount_Completed_c16 k kind (B l) (d : Int)) (bs [], 3) := by
      intro j
      induction j with
      | zero => intro d hj hd; exact .step (fun k => amount_Completed_c16_eq k _ _ _) (.nk (by omega) (.pure _))
      | succ j ih =>
        intro d hj hd
        exact st d (by omega) _ (fun z => by rw [hf d (by omega)] at z; cases z) (fun _ => ih (d + 1) (by omega) (by omega))
    exact key _ 0 rfl (Nat.zero_le _)
theorem kind_out {kind : Int} : decide (kind < 1 ∨ kind > 5) = !decide (1 ≤ kind ∧ kind ≤ 5) := by
  by_cases h : 1 ≤ kind ∧ kind ≤ 5
  · rw [decide_eq_true h, decide_eq_false (by omega)]; rfl
  · rw [decide_eq_false h, decide_eq_true (by omega)]; rfl
theorem ev_aKind (kind : Int) : Ev (fun k => amount_isKind k kind) (decide (1 ≤ kind ∧ kind ≤ 5)) :=
  .step (fun k => amount_isKind_eq k _) (.bind (ev_OutsideU _ 1 5) (.to (.pure _) (by rw [kind_out, Bool.not_not])))
theorem ev_aIsNumber (kind : Int) (l : List UInt8) (hn : l.length < 1125899906842624) : Ev (fun k => amount_IsNumber k kind (B l)) (if 1 ≤ kind ∧ kind ≤ 5 then (numB kind l, 0) else (false, 4)) := by
  refine .step (fun k => amount_IsNumber_eq k _ _) (.bind (ev_aKind kind) ?_)
  by_cases h : 1 ≤ kind ∧ kind ≤ 5
  · rw [decide_eq_true h, if_pos h]; exact .ff rfl (.bind (ev_aNumber kind h l hn) (.pure _))
  · rw [decide_eq_false h, if_neg h]; exact .tt rfl (.pure _)
theorem num_len {kind : Int} (hk : 1 ≤ kind ∧ kind ≤ 5) (h4 : kind ≠ 4) {l : List UInt8} (h : numB kind l = true) : l.length ≤ 18 := by
  unfold numB at h
  rw [if_neg h4] at h
  split at h
  · unfold taxB at h
    simp only [Bool.and_eq_true, decide_eq_true_eq] at h
    omega
  · simp only [Bool.and_eq_true] at h
    obtain ⟨h, _⟩ := h
    split at h
    · have := of_decide_eq_true h; omega
    · split at h
      · have := of_decide_eq_true h; omega
      · have := of_decide_eq_true h; omega

end Go.Proofs.YtegiadfbniamkaaDoor.Eq
namespace Go.Ra
open Go Go.Ra
def belowI (x n : Int) : Int := if x.tmod n < 0 then x.tmod n + n else x.tmod n
theorem below_in (x : Int) {n : Int} (h : 0 < n) : 0 ≤ belowI x n ∧ belowI x n < n := by
  unfold belowI
  have h1 := Int.tmod_lt_of_pos x h
  have h2 : -n < x.tmod n := by
    have := Int.tmod_lt_of_pos (-x) h
    rw [Int.neg_tmod] at this
    omega
  split <;> omega
/-- A text with another digit at a place. -/
def chgL (l : List UInt8) (p b : Int) : List UInt8 :=
  if dgB (l.getD (belowI p l.length).toNat 0) = true then l.set (belowI p l.length).toNat (chD (((l.getD (belowI p l.length).toNat 0).toNat - 48 + 1 + (belowI b 9).toNat) % 10)) else l
/-- A text with two neighbours exchanged. -/
def excL (l : List UInt8) (p : Int) : List UInt8 :=
  if (((l.getD (belowI p (l.length - 1)).toNat 0).toNat : Int) - ((l.getD ((belowI p (l.length - 1)).toNat + 1) 0).toNat : Int)) % 5 = 0 then l
  else (l.set (belowI p (l.length - 1)).toNat (l.getD ((belowI p (l.length - 1)).toNat + 1) 0)).set ((belowI p (l.length - 1)).toNat + 1) (l.getD (belowI p (l.length - 1)).toNat 0)
theorem split_at {l : List UInt8} {i : Nat} (h : i < l.length) : l = l.take i ++ l.getD i 0 :: l.drop (i + 1) := by
  rw [← Go.Proofs.YtegiadfbniamkaaDoor.Eq.drop_getD h, List.take_append_drop]
theorem set_at {l : List UInt8} {i : Nat} (h : i < l.length) (x : UInt8) : l.set i x = l.take i ++ x :: l.drop (i + 1) := by
  rw [List.set_eq_take_append_cons_drop, if_pos h]
theorem thrS_app (l m : List UInt8) : ∀ i, thrS i (l ++ m) = thrS i l + thrS (i + l.length) m := by
  induction l with
  | nil => intro i; simp [thrS]
  | cons b l ih =>
    intro i
    show _ + thrS (i + 1) (l ++ m) = _ + thrS (i + 1) l + _
    rw [ih (i + 1), List.length_cons, show i + 1 + l.length = i + (l.length + 1) by omega]
    omega
/-- Another digit is another sum. -/
theorem thr_chg {a b : List UInt8} {x y : UInt8} (hx : dgB x = true) (hy : dgB y = true) (hne : x ≠ y) (h : thr (a ++ x :: b) = true) : thr (a ++ y :: b) = false := by
  have bx := dgB_iff.1 hx
  have byy := dgB_iff.1 hy
  have hxy : x.toNat ≠ y.toNat := fun z => hne (UInt8.toNat_inj.1 z)
  unfold thr at h ⊢
  have e : ∀ z : UInt8, thrS 0 (a ++ z :: b).reverse = thrS 0 b.reverse + ((z.toNat - 48) * (if b.length % 2 = 1 then 3 else 1) + thrS (b.length + 1) a.reverse) := fun z => by
    have e1 : (a ++ z :: b).reverse = b.reverse ++ (z :: a.reverse) := by simp
    rw [e1, thrS_app, Nat.zero_add, List.length_reverse]
    rfl
  rw [e] at h ⊢
  have h' := of_decide_eq_true h
  apply decide_eq_false
  generalize thrS 0 b.reverse = u at *
  generalize thrS (b.length + 1) a.reverse = v at *
  by_cases hp : b.length % 2 = 1
  · rw [if_pos hp] at h' ⊢
    omega
  · rw [if_neg hp] at h' ⊢
    omega
/-- Exchanged neighbours are another sum, if they do not differ by 0 or 5. -/
theorem thr_exc {a b : List UInt8} {x y : UInt8} (hx : dgB x = true) (hy : dgB y = true) (hne : ¬ ((x.toNat : Int) - y.toNat) % 5 = 0) (h : thr (a ++ x :: y :: b) = true) : thr (a ++ y :: x :: b) = false := by
  have bx := dgB_iff.1 hx
  have byy := dgB_iff.1 hy
  unfold thr at h ⊢
  have e : ∀ z w : UInt8, thrS 0 (a ++ z :: w :: b).reverse = thrS 0 b.reverse + ((w.toNat - 48) * (if b.length % 2 = 1 then 3 else 1) + ((z.toNat - 48) * (if (b.length + 1) % 2 = 1 then 3 else 1) + thrS (b.length + 2) a.reverse)) := fun z w => by
    have e1 : (a ++ z :: w :: b).reverse = b.reverse ++ (w :: z :: a.reverse) := by simp
    rw [e1, thrS_app, Nat.zero_add, List.length_reverse]
    rfl
  rw [e] at h ⊢
  have h' := of_decide_eq_true h
  apply decide_eq_false
  generalize thrS 0 b.reverse = u at *
  generalize thrS (b.length + 2) a.reverse = v at *
  by_cases hp : b.length % 2 = 1
  · rw [if_pos hp, if_neg (by omega)] at h'
    rw [if_pos hp, if_neg (by omega)]
    omega
  · rw [if_neg hp, if_pos (by omega)] at h'
    rw [if_neg hp, if_pos (by omega)]
    omega
/-- The tax number's sums tell digits and sums apart. -/
theorem tx_step (s s' d d' : Nat) (h1 : 1 ≤ s) (h2 : s ≤ 10) (h3 : 1 ≤ s') (h4 : s' ≤ 10) (h5 : d ≤ 9) (h6 : d' ≤ 9) : ((if (d + s) % 10 = 0 then 9 else 2 * ((d + s) % 10) % 11) = (if (d' + s') % 10 = 0 then 9 else 2 * ((d' + s') % 10) % 11) → (d + s) % 10 = (d' + s') % 10) ∧ 1 ≤ (if (d + s) % 10 = 0 then 9 else 2 * ((d + s) % 10) % 11) := by
  generalize hu : (d + s) % 10 = u
  generalize hv : (d' + s') % 10 = v
  have hu2 : u < 10 := by omega
  have hv2 : v < 10 := by omega
  have : ∀ a b : Fin 10, ((if a.val = 0 then 9 else 2 * a.val % 11) = (if b.val = 0 then 9 else 2 * b.val % 11) → a.val = b.val) ∧ 1 ≤ (if a.val = 0 then 9 else 2 * a.val % 11) := by decide
  exact this ⟨u, hu2⟩ ⟨v, hv2⟩
theorem txS_inj : ∀ (l : List UInt8) (s s' : Nat), (∀ b ∈ l, dgB b = true) → 1 ≤ s → s ≤ 10 → 1 ≤ s' → s' ≤ 10 → txS s l = txS s' l → s = s'
  | [], s, s', _, _, _, _, _, h => h
  | b :: l, s, s', hd, h1, h2, h3, h4, h => by
    have hb := dgB_iff.1 (hd b (by simp))
    unfold txS at h
    have t := tx_step s s' (b.toNat - 48) (b.toNat - 48) h1 h2 h3 h4 (by omega) (by omega)
    have t' := tx_step s' s (b.toNat - 48) (b.toNat - 48) h3 h4 h1 h2 (by omega) (by omega)
    have := txS_inj l _ _ (fun x hx => hd x (by simp [hx])) t.2 (by split <;> omega) t'.2 (by split <;> omega) h
    have := t.1 this
    omega
theorem txS_ge : ∀ (l : List UInt8) (s : Nat), (∀ b ∈ l, dgB b = true) → 1 ≤ s → s ≤ 10 → 1 ≤ txS s l
  | [], s, _, h1, _ => h1
  | b :: l, s, hd, h1, h2 => by
    have hb := dgB_iff.1 (hd b (by simp))
    unfold txS
    have t := tx_step s s (b.toNat - 48) (b.toNat - 48) h1 h2 h1 h2 (by omega) (by omega)
    exact txS_ge l _ (fun x hx => hd x (by simp [hx])) t.2 (by split <;> omega)
theorem txS_app (l m : List UInt8) : ∀ s, txS s (l ++ m) = txS (txS s l) m := by
  induction l with
  | nil => intro s; rfl
  | cons b l ih => intro s; exact ih _
theorem txS_chg {a b : List UInt8} {x y : UInt8} (ha : ∀ z ∈ a, dgB z = true) (hb : ∀ z ∈ b, dgB z = true) (hx : dgB x = true) (hy : dgB y = true) (hne : x ≠ y) : txS 10 (a ++ x :: b) ≠ txS 10 (a ++ y :: b) := by
  intro h
  have bx := dgB_iff.1 hx
  have byy := dgB_iff.1 hy
  have hxy : x.toNat ≠ y.toNat := fun z => hne (UInt8.toNat_inj.1 z)
  rw [txS_app, txS_app] at h
  have g1 := txS_ge a 10 ha (by decide) (by decide)
  have g2 := txS_le a 10 (by decide)
  generalize txS 10 a = s at h g1 g2
  unfold txS at h
  have t := tx_step s s (x.toNat - 48) (y.toNat - 48) g1 g2 g1 g2 (by omega) (by omega)
  have t' := tx_step s s (y.toNat - 48) (x.toNat - 48) g1 g2 g1 g2 (by omega) (by omega)
  have := txS_inj b _ _ hb t.2 (by split <;> omega) t'.2 (by split <;> omega) h
  have := t.1 this
  omega
/-- The rest by 97 tells digits apart. -/
theorem rs_inj : ∀ (l : List UInt8) (r r' : Nat), (∀ b ∈ l, bdB b = true) → r < 97 → r' < 97 → rsL r l = rsL r' l → r = r'
  | [], r, r', _, _, _, h => h
  | b :: l, r, r', hd, h1, h2, h => by
    have hb := Go.Proofs.YtegiadfbniamkaaDoor.Eq.bd_cases (hd b (by simp))
    unfold rsL at h
    have := rs_inj l _ _ (fun x hx => hd x (by simp [hx])) (Nat.mod_lt _ (by decide)) (Nat.mod_lt _ (by decide)) h
    split at this <;> omega
theorem rs_chg {a b : List UInt8} {x y : UInt8} (hb : ∀ z ∈ b, bdB z = true) (hx : dgB x = true) (hy : dgB y = true) (hne : x ≠ y) : rsL 0 (a ++ x :: b) ≠ rsL 0 (a ++ y :: b) := by
  intro h
  have bx := dgB_iff.1 hx
  have byy := dgB_iff.1 hy
  have hxy : x.toNat ≠ y.toNat := fun z => hne (UInt8.toNat_inj.1 z)
  rw [rsL_app, rsL_app] at h
  generalize rsL 0 a = s at h
  unfold rsL at h
  have := rs_inj b _ _ hb (Nat.mod_lt _ (by decide)) (Nat.mod_lt _ (by decide)) h
  rw [if_neg (by omega), if_neg (by omega)] at this
  omega
end Go.Ra
namespace Go.Proofs.YtegiadfbniamkaaDoor.Eq
open Go Go.Ra
set_option linter.unusedVariables false
set_option linter.unusedSimpArgs false

/-- What completing a number comes to. -/
theorem ev_aCompX (kind : Int) (l : List UInt8) (hn : l.length < 1125899906842600) : ∃ r : ByteArray × Int, ((r.2 ≠ 0 ∧ r.1 = bs []) ∨ (r.2 = 0 ∧ (1 ≤ kind ∧ kind ≤ 5) ∧ ∃ m, r.1 = B m ∧ numB kind m = true)) ∧ Ev (fun k => amount_Completed k kind (B l)) r := by
  by_cases hk : 1 ≤ kind ∧ kind ≤ 5
  · by_cases h4 : kind = 4
    · subst h4
      have hka := ev_aKind 4
      rw [decide_eq_true hk] at hka
      by_cases h2 : 2 ≤ l.length
      · have rA : ∀ r : ByteArray × Int, r = (if bankB (bkT l (ckN l)) = true then (B (bkT l (ckN l)), 0) else (bs [], 3)) → ((r.2 ≠ 0 ∧ r.1 = bs []) ∨ (r.2 = 0 ∧ (1 ≤ (4 : Int) ∧ (4 : Int) ≤ 5) ∧ ∃ m, r.1 = B m ∧ numB 4 m = true)) := by
          rintro r rfl
          by_cases hb : bankB (bkT l (ckN l)) = true
          · rw [if_pos hb]
            exact .inr ⟨rfl, hk, _, rfl, hb⟩
          · rw [if_neg hb]
            exact .inl ⟨by decide, rfl⟩
        refine ⟨_, rA _ rfl, .step (fun k => amount_Completed_eq k _ _) (.bind hka (.ff rfl ?_))⟩
        simp only [size_B]
        by_cases h34 : l.length > 34
        · refine .ck (by omega) (.to (.pure _) ?_)
          rw [if_neg]
          intro z
          have := bank_ck h2 (show ckN l < 100 by have := ckN_lt l; omega) z
          omega
        · refine .nk (by omega) (.tt rfl ?_)
          rw [decide_eq_false (by omega : ¬ (l.length : Int) < 2)]
          refine .bind (.tt rfl (ev_isBody l (by omega))) ?_
          cases hb : l.all bdB with
          | false =>
            refine .tt rfl (.to (.pure _) ?_)
            rw [if_neg]
            intro z
            have := (bank_ck h2 (show ckN l < 100 by have := ckN_lt l; omega) z).2.2.2
            rw [hb] at this
            cases this
          | true =>
            refine .ff rfl ?_
            by_cases h13 : l.length < 13
            · refine .ck (by omega) (.to (.pure _) ?_)
              rw [if_neg]
              intro z
              have := bank_ck h2 (show ckN l < 100 by have := ckN_lt l; omega) z
              omega
            · have hl2 : (l.take 2).length = 2 := by rw [List.length_take]; omega
              have hld : (l.drop 2).length = l.length - 2 := List.length_drop
              have hb' := List.all_eq_true.1 hb
              have e48 : bs [48, 48] = B [48, 48] := rfl
              have hT0 : (l.take 2 ++ [48, 48]) ++ l.drop 2 = bkT l 0 := by
                unfold bkT
                rw [List.append_assoc]
                rfl
              have hck := ckN_lt l
              refine .nk (by omega) ?_
              simp only [xt02, xt2, e48, B_app, size_B, hT0]
              have hlen := bkT_len h2 0
              obtain ⟨p1, p2, p3⟩ := bkT_parts h2 0
              have hrest := ev_brest (bkT l 0) (fun b hb0 => by
                rcases List.mem_append.1 hb0 with q | q
                · rw [p3] at q; exact hb' b (List.mem_of_mem_drop q)
                · rw [take4, p1, p2] at q
                  rcases List.mem_append.1 q with q | q
                  · exact hb' b (List.mem_of_mem_take q)
                  · have : b = 48 := by
                      rcases List.mem_cons.1 q with q | q
                      · exact q
                      · exact List.mem_singleton.1 q
                    subst this; rfl) (by omega) (by omega)
              rw [rs_bkT h2 (by decide), Nat.add_zero] at hrest
              refine .ck (by omega) (.ck (by simp; omega) (.ck (by omega) (.ck (by simp; omega) (.bind hrest (.ck (by omega) ?_)))))
              have ew : wi64 (98 - ((100 * rsL 0 (l.drop 2 ++ l.take 2) % 97 : Nat) : Int)) = ((ckN l : Nat) : Int) := by
                unfold ckN
                rw [wi64_id (by omega) (by omega)]
                omega
              rw [ew]
              have hpad := ev_apad (n := ((ckN l : Nat) : Int)) (w := 2) (by omega) (by omega) (l2 (by omega) (by omega)) (by decide)
              unfold pad at hpad
              rw [pdL_two _ (by omega)] at hpad
              refine .bind hpad ?_
              have hT : (l.take 2 ++ [chD (ckN l / 10), chD (ckN l % 10)]) ++ l.drop 2 = bkT l (ckN l) := by
                unfold bkT
                rw [List.append_assoc]
              simp only [B_app, size_B, hT]
              refine .ck (by simp; omega) (.ck (by omega) (.ck (by simp; omega) (.bind (ev_aBank _ (by rw [bkT_len h2]; omega)) ?_)))
              cases hp : bankB (bkT l (ckN l)) with
              | true => rw [if_pos rfl]; exact .ff rfl (.pure _)
              | false => rw [if_neg (by decide)]; exact .tt rfl (.pure _)
      · refine ⟨(bs [], 3), .inl ⟨by decide, rfl⟩, .step (fun k => amount_Completed_eq k _ _) (.bind hka (.ff rfl (.nk (by rw [size_B]; omega) (.tt rfl ?_))))⟩
        · rw [size_B, decide_eq_true (by omega : (l.length : Int) < 2)]
          exact .bind (x := false) (.ff rfl (.pure _)) (.tt rfl (.pure _))
    · skip
      have hka := ev_aKind kind
      rw [decide_eq_true hk] at hka
      by_cases h34 : l.length > 34
      · have hno : ∀ f, f < 10 → numB kind (l ++ [chD f]) = false := fun f _ => by
          cases hp : numB kind (l ++ [chD f]) with
          | false => rfl
          | true =>
            have := num_len hk h4 hp
            simp at this
            omega
        exact ⟨_, .inl ⟨by decide, rfl⟩, .step (fun k => amount_Completed_eq k _ _) (.bind hka (.ff rfl (.ck (by rw [size_B]; omega) (.pure _))))⟩
      · have aA : ∀ r, Ev (fun k => amount_Completed_c16 k kind (B l) 0) r → Ev (fun k => amount_Completed k kind (B l)) r := fun r h =>
          .step (fun k => amount_Completed_eq k _ _) (.bind hka (.ff rfl (.nk (by rw [size_B]; omega) (.ff (by simpa using h4) h))))
        rcases first_digit (fun e => numB kind (l ++ [chD e])) 10 0 rfl with ⟨e, _, h2, h3, h5⟩ | h
        · exact ⟨_, .inr ⟨rfl, hk, _, rfl, h3⟩, aA _ ((ev_acomp kind hk l (by omega)).1 e h2 h3 (fun f hf => h5 f (Nat.zero_le _) hf))⟩
        · exact ⟨_, .inl ⟨by decide, rfl⟩, aA _ ((ev_acomp kind hk l (by omega)).2 (fun f hf => h f (Nat.zero_le _) hf))⟩
  · skip
    have hka := ev_aKind kind
    rw [decide_eq_false hk] at hka
    exact ⟨_, .inl ⟨by decide, rfl⟩, .step (fun k => amount_Completed_eq k _ _) (.bind hka (.tt rfl (.pure _)))⟩
/-- Another digit of a right number is not right. -/
theorem num_chg {kind : Int} (hk : 1 ≤ kind ∧ kind ≤ 5) {a b : List UInt8} {x y : UInt8} (hx : dgB x = true) (hy : dgB y = true) (hne : x ≠ y) (h : numB kind (a ++ x :: b) = true) : numB kind (a ++ y :: b) = false := by
  cases hz : numB kind (a ++ y :: b) with
  | false => rfl
  | true =>
    exfalso
    unfold numB at h hz
    by_cases h4 : kind = 4
    · rw [if_pos h4] at h hz
      have parts : ∀ l, bankB l = true → rsL 0 (l.drop 4 ++ l.take 4) = 1 ∧ (∀ q ∈ l.drop 4 ++ l.take 4, bdB q = true) ∧ 15 ≤ l.length ∧ (l.take 2).all ltB = true := fun l hl => by
        unfold bankB at hl
        simp only [Bool.and_eq_true, decide_eq_true_eq] at hl
        obtain ⟨⟨q1, q2⟩, q3, q4, q5, q6, _⟩ := hl
        exact ⟨q6, bank_bd q3 q4 q5, q1, q3⟩
      obtain ⟨p1, p2, p3, p4⟩ := parts _ h
      obtain ⟨q1, q2, q3, q4⟩ := parts _ hz
      by_cases hi : 4 ≤ a.length
      · have e : ∀ z : UInt8, (a ++ z :: b).drop 4 ++ (a ++ z :: b).take 4 = a.drop 4 ++ z :: (b ++ a.take 4) := fun z => by
          rw [List.drop_append_of_le_length hi, List.take_append_of_le_length hi]
          simp
        rw [e] at p1 p2 q1
        exact rs_chg (a := a.drop 4) (b := b ++ a.take 4) (fun z hz => p2 z (List.mem_append.2 (.inr (List.mem_cons_of_mem _ hz)))) hx hy hne (p1.trans q1.symm)
      · obtain ⟨j, hj⟩ : ∃ j, 4 = a.length + (j + 1) := ⟨4 - a.length - 1, by omega⟩
        have e : ∀ z : UInt8, (a ++ z :: b).drop 4 ++ (a ++ z :: b).take 4 = (b.drop j ++ a) ++ z :: b.take j := fun z => by
          rw [hj, List.drop_append, List.take_append, List.drop_of_length_le (by omega), List.take_of_length_le (by omega), Nat.add_sub_cancel_left]
          simp
        rw [e] at p1 p2 q1
        exact rs_chg (a := b.drop j ++ a) (b := b.take j) (fun z hz => p2 z (List.mem_append.2 (.inr (List.mem_cons_of_mem _ hz)))) hx hy hne (p1.trans q1.symm)
    · rw [if_neg h4] at h hz
      by_cases h5 : kind = 5
      · rw [if_pos h5] at h hz
        have parts : ∀ l, taxB l = true → l.length = 11 ∧ (∀ q ∈ l, dgB q = true) ∧ 48 + (11 - txS 10 (l.take 10)) % 10 = (l.getD 10 0).toNat := fun l hl => by
          unfold taxB at hl
          simp only [Bool.and_eq_true, decide_eq_true_eq] at hl
          exact ⟨hl.1.1, digB_all hl.1.2, hl.2.2⟩
        obtain ⟨p1, p2, p3⟩ := parts _ h
        obtain ⟨q1, q2, q3⟩ := parts _ hz
        have hlen : a.length + (b.length + 1) = 11 := by simpa using p1
        have hxy : x.toNat ≠ y.toNat := fun z => hne (UInt8.toNat_inj.1 z)
        by_cases hi : a.length = 10
        · have e : ∀ z : UInt8, (a ++ z :: b).take 10 = a ∧ (a ++ z :: b).getD 10 0 = z := fun z => by
            refine ⟨?_, ?_⟩
            · rw [← hi, List.take_left]
            · rw [List.getD_eq_getElem?_getD, List.getElem?_append_right (by omega), hi]; rfl
          rw [(e x).1, (e x).2] at p3
          rw [(e y).1, (e y).2] at q3
          omega
        · obtain ⟨j, hj⟩ : ∃ j, 10 = a.length + (j + 1) := ⟨10 - a.length - 1, by omega⟩
          have e : ∀ z : UInt8, (a ++ z :: b).take 10 = a ++ z :: b.take j ∧ (a ++ z :: b).getD 10 0 = b.getD j 0 := fun z => by
            refine ⟨?_, ?_⟩
            · rw [hj, List.take_append, List.take_of_length_le (by omega), Nat.add_sub_cancel_left]; rfl
            · rw [List.getD_eq_getElem?_getD, List.getElem?_append_right (by omega), show 10 - a.length = j + 1 by omega, List.getElem?_cons_succ, List.getD_eq_getElem?_getD]
          rw [(e x).1, (e x).2] at p3
          rw [(e y).1, (e y).2] at q3
          have da : ∀ z ∈ a, dgB z = true := fun z hz => p2 z (List.mem_append.2 (.inl hz))
          have db : ∀ z ∈ b.take j, dgB z = true := fun z hz => p2 z (List.mem_append.2 (.inr (List.mem_cons_of_mem _ (List.mem_of_mem_take hz))))
          have hall : ∀ w : UInt8, dgB w = true → ∀ z ∈ a ++ w :: b.take j, dgB z = true := fun w hw z hz => by
            rcases List.mem_append.1 hz with hz | hz
            · exact da z hz
            · rcases List.mem_cons.1 hz with rfl | hz
              · exact hw
              · exact db z hz
          have t1 := txS_ge _ 10 (hall x hx) (by decide) (by decide)
          have t2 := txS_le (a ++ x :: b.take j) 10 (by decide)
          have t3 := txS_ge _ 10 (hall y hy) (by decide) (by decide)
          have t4 := txS_le (a ++ y :: b.take j) 10 (by decide)
          exact txS_chg da db hx hy hne (by omega)
      · rw [if_neg h5] at h hz
        simp only [Bool.and_eq_true] at h hz
        have := thr_chg hx hy hne h.2.2
        rw [this] at hz
        cases hz.2.2
theorem num_dig {kind : Int} (hk : 1 ≤ kind ∧ kind ≤ 3) {l : List UInt8} (h : numB kind l = true) : (∀ b ∈ l, dgB b = true) ∧ thr l = true ∧ 8 ≤ l.length ∧ l.length ≤ 18 := by
  unfold numB at h
  rw [if_neg (by omega), if_neg (by omega)] at h
  simp only [Bool.and_eq_true] at h
  refine ⟨digB_all h.2.1, h.2.2, ?_⟩
  have h1 := h.1
  split at h1
  · have := of_decide_eq_true h1; omega
  · split at h1
    · have := of_decide_eq_true h1; omega
    · have := of_decide_eq_true h1; omega
theorem num_size {kind : Int} (hk : 1 ≤ kind ∧ kind ≤ 5) {l : List UInt8} (h : numB kind l = true) : 8 ≤ l.length ∧ l.length ≤ 34 := by
  by_cases h4 : kind = 4
  · unfold numB at h
    rw [if_pos h4] at h
    unfold bankB at h
    simp only [Bool.and_eq_true, decide_eq_true_eq] at h
    omega
  · by_cases h5 : kind = 5
    · unfold numB at h
      rw [if_neg h4, if_pos h5] at h
      unfold taxB at h
      simp only [Bool.and_eq_true, decide_eq_true_eq] at h
      omega
    · have := num_dig (by omega) h
      omega
/-- Exchanged neighbours: right only if nothing is exchanged. -/
theorem num_exc {kind : Int} (hk : 1 ≤ kind ∧ kind ≤ 3) {l : List UInt8} (p : Int) (h : numB kind l = true) : numB kind (excL l p) = decide (excL l p = l) := by
  obtain ⟨hd, ht, h8, _⟩ := num_dig hk h
  have hi := below_in p (n := (l.length : Int) - 1) (by omega)
  unfold excL
  generalize hI : (belowI p ((l.length : Int) - 1)).toNat = i
  have hi2 : i + 1 < l.length := by omega
  by_cases hm : (((l.getD i 0).toNat : Int) - ((l.getD (i + 1) 0).toNat : Int)) % 5 = 0
  · rw [if_pos hm, h]; simp
  · rw [if_neg hm]
    have e0 : l = l.take i ++ l.getD i 0 :: l.getD (i + 1) 0 :: l.drop (i + 2) := by
      have h1 := split_at (l := l) (i := i) (by omega)
      rw [drop_getD hi2] at h1
      exact h1
    have dx := dg_getD hd (i := i) (by omega)
    have dy := dg_getD hd hi2
    have e1 : (l.set i (l.getD (i + 1) 0)).set (i + 1) (l.getD i 0) = l.take i ++ l.getD (i + 1) 0 :: l.getD i 0 :: l.drop (i + 2) := by
      have hti : (l.take i).length = i := by rw [List.length_take]; omega
      generalize l.getD (i + 1) 0 = y at *
      generalize l.getD i 0 = x at *
      conv => lhs; rw [e0]
      rw [List.set_append_right _ _ (by omega), hti, Nat.sub_self, List.set_cons_zero, List.set_append_right _ _ (by omega), hti, Nat.add_sub_cancel_left, List.set_cons_succ, List.set_cons_zero]
    rw [e1]
    generalize l.getD (i + 1) 0 = y at *
    generalize l.getD i 0 = x at *
    have hthr : thr (l.take i ++ y :: x :: l.drop (i + 2)) = false := thr_exc dx dy hm (by rw [← e0]; exact ht)
    have hne : l.take i ++ y :: x :: l.drop (i + 2) ≠ l := fun z => by
      rw [z, ht] at hthr
      cases hthr
    rw [decide_eq_false hne]
    cases hz : numB kind (l.take i ++ y :: x :: l.drop (i + 2)) with
    | false => rfl
    | true =>
      have := (num_dig hk hz).2.1
      rw [hthr] at this
      cases this
theorem thrS_zeros : ∀ (k i : Nat), thrS i (List.replicate k 48) = 0
  | 0, _ => rfl
  | k + 1, i => by
    rw [List.replicate_succ]
    show (48 - 48) * _ + thrS (i + 1) (List.replicate k 48) = 0
    rw [thrS_zeros k]
    simp
theorem ev_aWide (l : List UInt8) (h : numB 1 l = true) : ∃ w, Ev (fun k => amount_Widened k (B l)) (B w, 0) ∧ numB 1 w = true := by
  obtain ⟨hd, ht, h8, h18⟩ := num_dig (kind := 1) (by decide) h
  have ha := ev_aNumber 1 (by decide) l (by omega)
  rw [h] at ha
  have h14 : l.length ≤ 14 := by
    unfold numB at h
    rw [if_neg (by decide), if_neg (by decide), if_pos rfl, Bool.and_eq_true] at h
    have := of_decide_eq_true h.1
    omega
  have ew : wi64 (14 - ((B l).size : Int)) = ((14 - l.length : Nat) : Int) := by rw [size_B, wi64_id (by omega) (by omega)]; omega
  refine ⟨List.replicate (14 - l.length) 48 ++ l, .step (fun k => amount_Widened_eq k _) (.bind ha (.ff rfl ?_)), ?_⟩
  · rw [ew]
    exact .bind (ev_Rep48' _ (by omega)) (.ck (by rw [size_B, size_B, List.length_replicate]; omega) (.to (.pure _) (by rw [B_app])))
  · unfold numB
    rw [if_neg (by decide), if_neg (by decide), if_pos rfl, Bool.and_eq_true, Bool.and_eq_true]
    refine ⟨decide_eq_true (.inr (by rw [List.length_append, List.length_replicate]; omega)), digB_iff.2 ⟨fun z => ?_, fun b hb => ?_⟩, ?_⟩
    · have := congrArg List.length z
      rw [List.length_append, List.length_nil] at this
      omega
    · rcases List.mem_append.1 hb with hb | hb
      · rw [(List.mem_replicate.1 hb).2]; rfl
      · exact hd b hb
    · unfold thr at ht ⊢
      rw [List.reverse_append, thrS_app, List.reverse_replicate, thrS_zeros, Nat.add_zero]
      exact ht
theorem ev_tell_c12 (hE : ∀ (l : List UInt8) (p : Int), 2 ≤ l.length → l.length ≤ 1000 → (∀ b ∈ l, dgB b = true) → Ev (fun k => interchangeref1_Exchanged k (B l) p) (B (excL l p))) {kind : Int} (hk : 1 ≤ kind ∧ kind ≤ 5) (p : Int) (l : List UInt8) (h : numB kind l = true) :
    Ev (fun k => interchangelaw1_AmountNumbersTellMistakes_c12 k kind p (B l)) true := by
  have hs := num_size hk h
  have hel : (excL l p).length = l.length := by
    unfold excL
    split
    · rfl
    · rw [List.length_set, List.length_set]
  refine .step (fun k => interchangelaw1_AmountNumbersTellMistakes_c12_eq k _ _ _) ?_
  by_cases h3 : kind > 3
  · exact .ck h3 (.pure _)
  · have hk3 : 1 ≤ kind ∧ kind ≤ 3 := by omega
    have last : Ev (fun k => (interchangeref1_Exchanged k (B l) p).bind fun y8 => (amount_IsNumber k kind y8).bind fun y9 => some (cond (y9.2 == 0) (y9.1 == (eqS y8 (B l))) false)) true := by
      refine .bind (hE l p (by omega) (by omega) (num_dig hk3 h).1) (.bind (ev_aIsNumber kind (excL l p) (by omega)) (.to (.pure _) ?_))
      rw [if_pos hk, num_exc hk3 p h, eqS_L, L_B, L_B]
      simp
    refine .nk h3 ?_
    by_cases h1 : kind = 1
    · subst h1
      obtain ⟨w, w1, w2⟩ := ev_aWide l h
      have hsw := num_size hk w2
      have hw := ev_aIsNumber 1 w (by omega)
      rw [if_pos hk, w2] at hw
      exact .tt rfl (.bind w1 (.ff rfl (.bind hw (.ff rfl last))))
    · exact .ff (by simpa using h1) last
theorem ev_law_tell (hC : ∀ (l : List UInt8) (p b : Int), 1 ≤ l.length → l.length ≤ 1000 → Ev (fun k => interchangeref1_Changed k (B l) p b) (B (chgL l p b)))
    (hE : ∀ (l : List UInt8) (p : Int), 2 ≤ l.length → l.length ≤ 1000 → (∀ b ∈ l, dgB b = true) → Ev (fun k => interchangeref1_Exchanged k (B l) p) (B (excL l p)))
    (a : Int) (b : ByteArray) (c d : Int) (hb : b.size ≤ 140737488351232) : Ev (fun k => interchangelaw1_AmountNumbersTellMistakes k a b c d) true := by
  have e1 : b = B (L b) := (B_L b).symm
  have s1 : (L b).length = b.size := size_L b
  rw [e1]
  obtain ⟨x, y2, x2⟩ := ev_aCompX a (L b) (by omega)
  refine .step (fun k => interchangelaw1_AmountNumbersTellMistakes_eq k _ _ _ _) (.bind x2 ?_)
  rcases y2 with ⟨h1, h2⟩ | ⟨h1, hk, m, h2, h3⟩
  · rw [h2]
    exact .tt (by simpa using h1) (.bind (.tt (eqS_self _) ev_awake) (.to (.pure _) (by rw [eqS_self]; rfl)))
  · rw [h1, h2]
    have hs := num_size hk h3
    have hn := ev_aIsNumber a m (by omega)
    rw [if_pos hk, h3] at hn
    refine .ff rfl (.bind hn (.bind (.tt rfl ev_awake) (.ff rfl (.bind (hC m c d (by omega) (by omega)) ?_))))
    by_cases he : chgL m c d = m
    · exact .ff (by rw [he, eqS_self]; rfl) (ev_tell_c12 hE hk c m h3)
    · have hlen : (chgL m c d).length = m.length := by
        unfold chgL
        split
        · rw [List.length_set]
        · rfl
      have hno : numB a (chgL m c d) = false := by
        have hi := below_in c (n := (m.length : Int)) (by omega)
        have hby := below_in d (n := 9) (by decide)
        unfold chgL at he ⊢
        generalize hI : (belowI c (m.length : Int)).toNat = i at *
        have hil : i < m.length := by omega
        generalize hJ : (belowI d 9).toNat = j at *
        by_cases hg : dgB (m.getD i 0) = true
        · rw [if_pos hg] at he ⊢
          have hb := dgB_iff.1 hg
          have hy := ch_dg (show ((m.getD i 0).toNat - 48 + 1 + j) % 10 < 10 from Nat.mod_lt _ (by decide))
          have hyn := ch_toNat (show ((m.getD i 0).toNat - 48 + 1 + j) % 10 < 10 from Nat.mod_lt _ (by decide))
          rw [set_at hil]
          have h3' := h3
          rw [split_at hil] at h3'
          refine num_chg hk hg hy (fun z => ?_) h3'
          have := congrArg UInt8.toNat z
          rw [hyn] at this
          omega
        · rw [if_neg hg] at he
          exact absurd rfl he
      have hn2 := ev_aIsNumber a (chgL m c d) (by omega)
      rw [if_pos hk, hno] at hn2
      refine .tt ?_ (.bind hn2 (.ff rfl (ev_tell_c12 hE hk c m h3)))
      rw [eqS_ne (fun q => he (by have := congrArg L q; rwa [L_B, L_B] at this))]; rfl
end Go.Proofs.YtegiadfbniamkaaDoor.Eq
namespace Go.Proofs.YtegiadfbniamkaaDoor.Eq
open Go Go.Ra
theorem ev_rBelowX (x n : Int) (h0 : 0 < n) (h1 : n < 1125899906842624) : Ev (fun k => interchangeref1_Below k x n) (belowI x n) := by
  have hb := below_in x h0
  refine .step (fun k => interchangeref1_Below_eq k x n) (.tt (by simp; omega) ?_)
  unfold belowI at hb ⊢
  by_cases h : x.tmod n < 0
  · rw [if_pos h] at hb ⊢
    exact .ck h (.to (.pure _) (wi64_id (by omega) (by omega)))
  · rw [if_neg h] at hb ⊢
    exact .nk h (.pure _)
theorem bl_set (l : List UInt8) (i : Nat) (c : UInt8) : (bl l).set i ((c.toNat : Nat) : Int) = bl (l.set i c) := by
  simp only [bl, List.map_set]
theorem ev_rChanged (l : List UInt8) (p b : Int) (h1 : 1 ≤ l.length) (h2 : l.length ≤ 1000) : Ev (fun k => interchangeref1_Changed k (B l) p b) (B (chgL l p b)) := by
  have hp := below_in p (n := (l.length : Int)) (by omega)
  have hb := below_in b (n := 9) (by decide)
  have e0 := ev_rBelowX p ((B l).size : Int) (by rw [size_B]; omega) (by rw [size_B]; omega)
  have e9 := ev_rBelowX b 9 (by decide) (by decide)
  rw [size_B] at e0
  unfold chgL
  generalize belowI p (l.length : Int) = y at *
  generalize belowI b 9 = j at *
  obtain ⟨i, rfl⟩ : ∃ i : Nat, y = i := ⟨y.toNat, by omega⟩
  have hi : i < l.length := by omega
  have hbt : bt (B l) (i : Int) = (((l.getD i 0).toNat : Nat) : Int) := bt_B (i := i) hi
  have hsz : (((B l).size : Nat) : Int) = (l.length : Int) := by rw [size_B]
  have hc := UInt8.toNat_lt (l.getD i 0)
  have hbl : ((byts (B l)).length : Int) = (l.length : Int) := by rw [byts_B]; simp [bl]
  refine .step (fun k => interchangeref1_Changed_eq k _ _ _) (.bind (by rw [hsz]; exact e0) ?_)
  simp only [hbt, hsz, Int.toNat_natCast]
  generalize hcc : l.getD i 0 = c at *
  refine .ck (by omega) (.ck (by omega) (.tt (by simp) (.tt (by simp; omega) ?_)))
  by_cases hd : dgB c = true
  · have hd' := dgB_iff.1 hd
    rw [if_pos hd]
    refine .ff ?_ (.ck (by omega) (.ck (by omega) (.bind e9 (.ck (by omega) (.ck (by rw [hbl]; omega) (.to (.pure _) ?_))))))
    · rw [decide_eq_false (by omega)]
      exact decide_eq_false (by omega)
    · obtain ⟨q, rfl⟩ : ∃ q : Nat, j = q := ⟨j.toNat, by omega⟩
      have e1 : wi64 (wu8 (((c.toNat : Nat) : Int) - 48)) = ((c.toNat - 48 : Nat) : Int) := by
        rw [wu8_id (by omega) (by omega), wi64_id (by omega) (by omega)]; omega
      have e2 : wi64 (((c.toNat - 48 : Nat) : Int) + 1) = ((c.toNat - 48 + 1 : Nat) : Int) := by rw [wi64_id (by omega) (by omega)]; omega
      have e3 : wi64 (((c.toNat - 48 + 1 : Nat) : Int) + (q : Int)) = ((c.toNat - 48 + 1 + q : Nat) : Int) := by rw [wi64_id (by omega) (by omega)]; omega
      have e4 : (((c.toNat - 48 + 1 + q : Nat) : Int)).tmod 10 = (((c.toNat - 48 + 1 + q) % 10 : Nat) : Int) := by
        rw [Int.tmod_eq_emod_of_nonneg (by omega)]; omega
      have hlt : (c.toNat - 48 + 1 + q) % 10 < 10 := Nat.mod_lt _ (by decide)
      have e5 : wu8 (wi64 (48 + (((c.toNat - 48 + 1 + q) % 10 : Nat) : Int))) = (((chD ((c.toNat - 48 + 1 + q) % 10)).toNat : Nat) : Int) := by
        rw [ch_toNat hlt, wi64_id (by omega) (by omega), wu8_id (by omega) (by omega)]; omega
      rw [e1, e2, e3, e4, e5, byts_B, bl_set, strOf_bl, Int.toNat_natCast]
  · rw [if_neg hd]
    have hd' : ¬ (48 ≤ c.toNat ∧ c.toNat ≤ 57) := fun z => hd (dgB_iff.2 z)
    refine .tt ?_ (.pure _)
    by_cases hlo : c.toNat < 48
    · rw [decide_eq_true (by omega)]; rfl
    · rw [decide_eq_false (by omega)]
      exact decide_eq_true (by omega)
theorem ev_rExchanged (l : List UInt8) (p : Int) (h1 : 2 ≤ l.length) (h2 : l.length ≤ 1000) (hd : ∀ b ∈ l, dgB b = true) : Ev (fun k => interchangeref1_Exchanged k (B l) p) (B (excL l p)) := by
  have hp := below_in p (n := (l.length : Int) - 1) (by omega)
  have hsz : (((B l).size : Nat) : Int) = (l.length : Int) := by rw [size_B]
  have ew : wi64 ((l.length : Int) - 1) = (l.length : Int) - 1 := wi64_id (by omega) (by omega)
  have e0 := ev_rBelowX p ((l.length : Int) - 1) (by omega) (by omega)
  unfold excL
  generalize belowI p ((l.length : Int) - 1) = y at *
  obtain ⟨i, rfl⟩ : ∃ i : Nat, y = i := ⟨y.toNat, by omega⟩
  have hi : i + 1 < l.length := by omega
  have hb0 : bt (B l) (i : Int) = (((l.getD i 0).toNat : Nat) : Int) := bt_B (i := i) (by omega)
  have hb1 : bt (B l) ((i + 1 : Nat) : Int) = (((l.getD (i + 1) 0).toNat : Nat) : Int) := bt_B (i := i + 1) hi
  have ei : wi64 ((i : Int) + 1) = ((i + 1 : Nat) : Int) := by rw [wi64_id (by omega) (by omega)]; omega
  have dx := dgB_iff.1 (dg_getD hd (i := i) (by omega))
  have dy := dgB_iff.1 (dg_getD hd hi)
  have hbl : ((byts (B l)).length : Int) = (l.length : Int) := by rw [byts_B]; simp [bl]
  refine .step (fun k => interchangeref1_Exchanged_eq k _ _) (.bind (by rw [hsz, ew]; exact e0) ?_)
  simp only [ei, hb0, hb1, hsz, Int.toNat_natCast]
  generalize l.getD i 0 = x at *
  generalize l.getD (i + 1) 0 = y at *
  have ex : wi64 (wi64 ((x.toNat : Nat) : Int) - wi64 ((y.toNat : Nat) : Int)) = ((x.toNat : Nat) : Int) - ((y.toNat : Nat) : Int) := by
    rw [wi64_id (x := ((x.toNat : Nat) : Int)) (by omega) (by omega), wi64_id (x := ((y.toNat : Nat) : Int)) (by omega) (by omega), wi64_id (by omega) (by omega)]
  rw [ex]
  refine .ck (by omega) (.ck (by omega) (.ck (by omega) (.ck (by omega) ?_)))
  generalize hdd : ((x.toNat : Nat) : Int) - ((y.toNat : Nat) : Int) = d
  by_cases hm : d % 5 = 0
  · rw [if_pos hm]
    refine .tt ?_ (.pure _)
    have : d = 0 ∨ d = 5 ∨ d = -5 := by omega
    rcases this with h | h | h <;> subst h <;> rfl
  · rw [if_neg hm]
    have n0 : (d == 0) = false := by simpa using fun h => hm (by omega)
    have n5 : (d == 5) = false := by simpa using fun h => hm (by omega)
    have n6 : (d == -5) = false := by simpa using fun h => hm (by omega)
    refine .ff (by rw [n0, n5, n6]; rfl) (.ck (by omega) (.ck (by omega) (.ck (by omega) (.ck (by omega) (.ck (by omega) (.ck (by rw [hbl]; omega) (.ck (by omega) (.ck ?_ (.to (.pure _) ?_)))))))))
    · rw [List.length_set, hbl]; omega
    · rw [byts_B, bl_set, bl_set, strOf_bl]
theorem ev_law_tells (a : Int) (b : ByteArray) (c d : Int) (hb : b.size ≤ 140737488351232) : Ev (fun k => interchangelaw1_AmountNumbersTellMistakes k a b c d) true :=
  ev_law_tell ev_rChanged ev_rExchanged a b c d hb
end Go.Proofs.YtegiadfbniamkaaDoor.Eq
