/- What the functions of this law compute, part 2. -/
import Derived.Test.YtebdajjgicfcaaaGreatDoorP1
import Derived.Lib.IndexBytes
import Derived.Lib.Replace
import Derived.Lib.Atoi
import Derived.Lib.Split
namespace Go.Ra
open Go
theorem Ev.sel {α : Type} {c e : Bool} {a b : Nat → Option α} {x y : α} (h : c = e) (h1 : e = true → Ev a x) (h2 : e = false → Ev b y) : Ev (fun k => _root_.cond c (a k) (b k)) (_root_.cond e x y) := by
  subst h
  cases c with
  | true => exact h1 rfl
  | false => exact h2 rfl
/-- A call under a guard. -/
theorem Ev.gd {α : Type} {c e : Bool} {a : Nat → Option α} {x d : α} (h : c = e) (h1 : e = true → Ev a x) : Ev (fun k => _root_.cond c (a k) (some d)) (_root_.cond e x d) := .sel h h1 fun _ => .pure _
end Go.Ra
namespace Go.Proofs.YtebdajjgicfcaaaGreatDoor.Eq
open Go Go.Ra
set_option linter.unusedVariables false
/-- A loop that goes up. -/
theorem ev_up {β : Type} (n : Nat) (sp : Nat → β) (c : Nat → Int → Option β)
    (h1 : ∀ i : Nat, i < n → Ev (fun k => c k ((i + 1 : Nat) : Int)) (sp (i + 1)) → Ev (fun k => c k (i : Int)) (sp i)) (h2 : Ev (fun k => c k (n : Int)) (sp n)) : Ev (fun k => c k 0) (sp 0) := by
  have key : ∀ m i : Nat, n - i = m → i ≤ n → Ev (fun k => c k (i : Int)) (sp i) := by
    intro m
    induction m with
    | zero =>
      intro i hm hi
      have e : i = n := by omega
      subst e
      exact h2
    | succ m ih => exact fun i hm hi => h1 i (by omega) (ih (i + 1) (by omega) (by omega))
  exact key _ 0 rfl (Nat.zero_le _)
/-- Two loops that go up, side by side. -/
theorem ev_up2 {β : Type} (n : Nat) (P : Nat → β → Prop) (c d : Nat → Int → Option β)
    (h1 : ∀ i : Nat, i < n → (∃ y, Ev (fun k => c k ((i + 1 : Nat) : Int)) y ∧ Ev (fun k => d k ((i + 1 : Nat) : Int)) y ∧ P (i + 1) y) → ∃ y, Ev (fun k => c k (i : Int)) y ∧ Ev (fun k => d k (i : Int)) y ∧ P i y)
    (h2 : ∃ y, Ev (fun k => c k (n : Int)) y ∧ Ev (fun k => d k (n : Int)) y ∧ P n y) : ∃ y, Ev (fun k => c k 0) y ∧ Ev (fun k => d k 0) y ∧ P 0 y := by
  have key : ∀ m i : Nat, n - i = m → i ≤ n → ∃ y, Ev (fun k => c k (i : Int)) y ∧ Ev (fun k => d k (i : Int)) y ∧ P i y := by
    intro m
    induction m with
    | zero =>
      intro i hm hi
      have e : i = n := by omega
      subst e
      exact h2
    | succ m ih => exact fun i hm hi => h1 i (by omega) (ih (i + 1) (by omega) (by omega))
  exact key _ 0 rfl (Nat.zero_le _)
/-- The first that is not 0, else the end's. -/
def nzF (f : Nat → Int) (d : Int) : Nat → Nat → Int
  | 0, _ => d
  | m + 1, i => cond (f i != 0) (f i) (nzF f d m (i + 1))
theorem nz_zero {f : Nat → Int} {d : Int} : ∀ {m i : Nat}, nzF f d m i = 0 → (∀ j, i ≤ j → j < i + m → f j = 0) ∧ d = 0
  | 0, i, h => ⟨fun j h1 h2 => by omega, h⟩
  | m + 1, i, h => by
    unfold nzF at h
    cases hf : (f i != 0) with
    | true =>
      rw [hf] at h
      have h' : f i = 0 := h
      rw [h'] at hf
      cases hf
    | false =>
      rw [hf] at h
      have h0 : f i = 0 := by simpa using hf
      obtain ⟨h1, h2⟩ := nz_zero (f := f) (d := d) (m := m) (i := i + 1) h
      refine ⟨fun j q1 q2 => ?_, h2⟩
      by_cases e : j = i
      · rw [e]; exact h0
      · exact h1 j (by omega) (by omega)
theorem ev_nz (n : Nat) (f : Nat → Int) (d : Int) (c : Nat → Int → Option Int)
    (h1 : ∀ i : Nat, i < n → ∀ y, Ev (fun k => c k ((i + 1 : Nat) : Int)) y → Ev (fun k => c k (i : Int)) (cond (f i != 0) (f i) y)) (h2 : Ev (fun k => c k (n : Int)) d) : Ev (fun k => c k 0) (nzF f d n 0) := by
  have := ev_up n (fun i => nzF f d (n - i) i) c (fun i hi h => by
    have e : n - i = (n - (i + 1)) + 1 := by omega
    show Ev _ (nzF f d (n - i) i)
    rw [e]
    exact h1 i hi _ h) (by
    show Ev _ (nzF f d (n - n) n)
    rw [Nat.sub_self]
    exact h2)
  exact this
def inB (a b c : Int) : Bool := decide (b ≤ a) && decide (a ≤ c)
theorem ev_outF (a b c : Int) : Ev (fun k => kit_Outside k a b c) (!inB a b c) := .step (fun k => kit_Outside_eq k _ _ _) (.to (.pure _) (by
  unfold inB
  by_cases h1 : a < b
  · rw [decide_eq_true h1, decide_eq_false (by omega : ¬ b ≤ a)]; rfl
  · rw [decide_eq_false h1, decide_eq_true (by omega : b ≤ a)]
    by_cases h2 : a > c
    · rw [decide_eq_true h2, decide_eq_false (by omega : ¬ a ≤ c)]; rfl
    · rw [decide_eq_false h2, decide_eq_true (by omega : a ≤ c)]; rfl))
/-! ### marks -/
def markB (a : Int) : Bool := cond (cond (cond (cond (cond (cond (decide (a ≥ 32)) (decide (a ≤ 126)) false) (cond (decide (a < 48)) true (decide (a > 57))) false) (cond (decide (a < 65)) true (decide (a > 90))) false) (cond (decide (a < 97)) true (decide (a > 122))) false) (a != 45) false) (a != 46) false
theorem enc_one {a : Int} (h1 : 0 ≤ a) (h2 : a < 128) : Utf8.encode a = B [UInt8.ofNat a.toNat] := by
  have : ∀ n : Fin 128, Utf8.encode (n.val : Int) = B [UInt8.ofNat n.val] := by decide +kernel
  have h := this ⟨a.toNat, by omega⟩
  have e : ((a.toNat : Nat) : Int) = a := Int.toNat_of_nonneg h1
  rw [e] at h
  exact h
theorem ev_alnum (l : List UInt8) (hn : l.length ≤ 9223372036854775807) : Ev (fun k => kit_IsTagPart k (B l)) (l.all bdB) := by
  refine .step (fun k => kit_IsTagPart_eq k _) (.bind (x := B (Lib.trimS l alnum)) ?_ (.to (.pure _) ?_))
  · refine .off (n := 0) fun k => ?_
    have e3 : (B l).data.toList = l := L_B l
    rw [strings_Trim_eq, size_B, e3, decide_eq_true hn]
    rfl
  · have ha : (fun x => alnum.contains x) = bdB := funext alnum_iff
    have := trimS_nil l alnum
    rw [ha] at this
    rw [eqS_nil, L_B]
    cases hl : l.all bdB with
    | true => rw [this.2 hl]; rfl
    | false =>
      have h2 : Lib.trimS l alnum ≠ [] := fun z => by rw [this.1 z] at hl; cases hl
      cases ht : Lib.trimS l alnum with
      | nil => exact absurd ht h2
      | cons => rfl
theorem mark_fin : ∀ n : Fin 128, (cond (cond (cond (cond (cond (decide ((n.val : Int) < 32)) true (decide ((n.val : Int) > 126))) true ([UInt8.ofNat n.val].all bdB)) true (([UInt8.ofNat n.val] : List UInt8).all fun b => decide ((97 : Int) ≤ (b.toNat : Int)) && decide ((b.toNat : Int) ≤ 122))) true ((n.val : Int) == 45)) true ((n.val : Int) == 46)) = !markB (n.val : Int) := by decide +kernel
theorem ev_mark (a : Int) : Ev (fun k => flat_markFault k a) (!markB a) := by
  refine .step (fun k => flat_markFault_eq k _) ?_
  by_cases h : a < 32 ∨ a > 126
  · have e : (cond (decide (a < 32)) true (decide (a > 126))) = true := by
      rcases h with h | h
      · rw [decide_eq_true h]; rfl
      · rw [decide_eq_true h]; cases decide (a < 32) <;> rfl
    rw [e]
    refine .bind (x := false) (.ff rfl (.pure _)) (.bind (x := false) (.ff rfl (.pure _)) (.to (.pure _) ?_))
    have : markB a = false := by
      unfold markB
      rcases h with h | h
      · rw [decide_eq_false (by omega : ¬ a ≥ 32)]; rfl
      · rw [decide_eq_false (by omega : ¬ a ≤ 126)]; cases decide (a ≥ 32) <;> rfl
    rw [this]
    rfl
  · have e : (cond (decide (a < 32)) true (decide (a > 126))) = false := by
      rw [decide_eq_false (by omega : ¬ a < 32), decide_eq_false (by omega : ¬ a > 126)]
      rfl
    have hm := mark_fin ⟨a.toNat, by omega⟩
    have ea : ((a.toNat : Nat) : Int) = a := Int.toNat_of_nonneg (by omega)
    rw [ea, e] at hm
    rw [e, enc_one (by omega) (by omega)]
    refine .bind (.tt rfl (ev_alnum _ (by simp))) ?_
    cases h1 : ([UInt8.ofNat a.toNat].all bdB) with
    | true =>
      rw [h1] at hm
      refine .bind (x := false) (.ff rfl (.pure _)) (.to (.pure _) ?_)
      rw [← hm]
      rfl
    | false =>
      rw [h1] at hm
      have h2 := ev_InBytes (B [UInt8.ofNat a.toNat]) 97 122 (by rw [size_B]; simp)
      rw [L_B] at h2
      exact .bind (.tt rfl h2) (.to (.pure _) hm)
/-- What is wrong with the marks. -/
def mk12 (a b : Int) : Bool := (a != 0) && (!markB a || ((b != 0) && !markB b) || (a == b))
def mk3 (a b : Int) : Bool := (a == 0) && (b != 0)
theorem ev_marks (a : Fmt) : Ev (fun k => flat_marksFault k a) (cond (mk12 a.1 a.2.1) 12 (cond (mk3 a.1 a.2.1) 3 0)) := by
  refine .step (fun k => flat_marksFault_eq k _) (.bind (.gd rfl fun _ => ev_mark _) (.bind (.gd rfl fun _ => ev_mark _) (.sel ?_ (fun _ => .pure _) fun _ => .sel ?_ (fun _ => .pure _) fun _ => .pure _)))
  · unfold mk12
    cases (a.1 != 0) <;> cases markB a.1 <;> cases (a.2.1 != 0) <;> cases markB a.2.1 <;> cases (a.1 == a.2.1) <;> rfl
  · unfold mk3
    cases (a.1 == 0) <;> rfl
/-! ### tags -/
def tagB (s : ByteArray) : Bool := inB (s.size : Int) 1 6 && (L s).all bdB
/-! ### columns -/
def wOf (f : Int) : Int := cond (f == 1) 8 (cond (f == 3) 8 (cond (f == 4) 10 (cond (f == 5) 7 0)))
theorem ev_formWidth (f : Int) : Ev (fun k => flat_formWidth k f) (wOf f) := by
  refine .step (fun k => flat_formWidth_eq k _) ?_
  unfold wOf
  refine .sel rfl (fun h => .tt h (.pure _)) fun _ => .sel rfl (fun _ => .pure _) fun _ => .sel rfl (fun _ => .pure _) fun _ => .sel rfl (fun _ => .pure _) fun _ => .pure _
theorem wOf_zero (f : Int) : (wOf f == 0) = (!inB f 1 5 || (f == 2)) := by
  unfold wOf inB
  by_cases h1 : f = 1
  · subst h1; rfl
  by_cases h2 : f = 2
  · subst h2; rfl
  by_cases h3 : f = 3
  · subst h3; rfl
  by_cases h4 : f = 4
  · subst h4; rfl
  by_cases h5 : f = 5
  · subst h5; rfl
  rw [beq_false_of_ne h1, beq_false_of_ne h2, beq_false_of_ne h3, beq_false_of_ne h4, beq_false_of_ne h5]
  by_cases h : 1 ≤ f
  · rw [decide_eq_true h, decide_eq_false (by omega : ¬ f ≤ 5)]; rfl
  · rw [decide_eq_false h]; rfl
def busy (m : Int) (b : Col) : Bool := (!(b.2.1 == 2) && !(b.2.2.2.1 == 0)) || (!(b.2.1 == 3) && !(b.2.2.2.2.1 == 0)) || (((b.2.1 == 3) || !(m == 0)) && (b.2.2.2.2.2.1 || !(b.2.2.2.2.2.2.1 == 0)))
/-- What is wrong with a column; own: is it the first of its name. -/
def colF (m : Int) (own : Bool) (b : Col) : Int :=
  cond (!nameB b.1) 5 (cond (!own) 7 (cond (!inB b.2.1 1 3) 4 (cond (!inB b.2.2.1 1 100) 1 (cond ((b.2.1 == 2) && !inB b.2.2.2.1 0 9) 1 (cond ((b.2.1 == 3) && (wOf b.2.2.2.2.1 == 0)) 4
    (cond (busy m b) 3 (cond (m != 0) 0 (cond (b.2.1 == 3) (cond (b.2.2.1 != wOf b.2.2.2.2.1) 12 0) (cond (!(b.2.2.2.2.2.2.1 == 32) && !((b.2.1 == 2) && (b.2.2.2.2.2.2.1 == 48) && b.2.2.2.2.2.1)) 3 0)))))))))
theorem ev_idle (a : Fmt) (b : Col) : Ev (fun k => flat_idle k a b) (!busy a.1 b) := by
  refine .step (fun k => flat_idle_eq k _ _) (.to (.pure _) ?_)
  unfold busy
  generalize (b.2.1 == 2) = x1
  generalize (b.2.2.2.1 == 0) = x2
  generalize (b.2.1 == 3) = x3
  generalize (b.2.2.2.2.1 == 0) = x4
  generalize (a.1 == 0) = x5
  generalize b.2.2.2.2.2.1 = x6
  generalize (b.2.2.2.2.2.2.1 == 0) = x7
  revert x1 x2 x3 x4 x5 x6 x7
  decide
theorem ev_column (a : Fmt) (b : Col) (c : List Col) (hc : c.length < 1125899906842624) : Ev (fun k => flat_columnFault k a b c) (colF a.1 (!decide (0 ≤ cOf c b.1)) b) := by
  refine .step (fun k => flat_columnFault_eq k _ _ _) ?_
  unfold colF
  refine .bind (ev_IsName b.1) (.sel rfl (fun _ => .pure _) fun _ => .bind (ev_hasCf c b hc) (.sel (by simp) (fun _ => .pure _) fun _ => .bind (ev_outF _ _ _) (.sel rfl (fun _ => .pure _) fun _ => .bind (ev_outF _ _ _) (.sel rfl (fun _ => .pure _) fun _ => ?_))))
  refine .bind (.gd rfl fun _ => ev_outF _ _ _) (.sel ?_ (fun _ => .pure _) fun _ => .bind (.gd rfl fun _ => ev_formWidth _) (.sel ?_ (fun _ => .pure _) fun hf => .bind (ev_idle _ _) (.sel (by simp) (fun _ => .pure _) fun _ => .sel rfl (fun _ => .pure _) fun _ => ?_)))
  · cases (b.2.1 == 2) <;> rfl
  · cases (b.2.1 == 3) <;> rfl
  · cases h3 : (b.2.1 == 3) with
    | true =>
      show Ev _ (cond (b.2.2.1 != wOf b.2.2.2.2.1) 12 0)
      exact .ff rfl (.bind (.tt rfl (ev_formWidth _)) (.sel rfl (fun _ => .pure _) fun _ => .pure _))
    | false =>
      show Ev _ (cond (!(b.2.2.2.2.2.2.1 == 32) && !((b.2.1 == 2) && (b.2.2.2.2.2.2.1 == 48) && b.2.2.2.2.2.1)) 3 0)
      refine .sel ?_ (fun _ => .pure _) fun _ => .bind (x := 0) (.ff rfl (.pure _)) (.ff rfl (.pure _))
      unfold bne
      generalize (b.2.1 == 2) = x1
      generalize b.2.2.2.2.2.1 = x6
      generalize (b.2.2.2.2.2.2.1 == 32) = x7
      generalize (b.2.2.2.2.2.2.1 == 48) = x8
      revert x1 x6 x7 x8
      decide
end Go.Proofs.YtebdajjgicfcaaaGreatDoor.Eq
namespace Go.Proofs.YtebdajjgicfcaaaGreatDoor.Eq
open Go Go.Ra
set_option linter.unusedVariables false
/-- What memory says of a format's sizes. -/
structure FitF (a : Fmt) : Prop where
  n : a.2.2.1.length < 1125899906842624
  t : ∀ kd ∈ a.2.2.1, kd.1.size < 1125899906842624
  c : ∀ kd ∈ a.2.2.1, kd.2.1.length < 1125899906842624
def colAt (m : Int) (cs : List Col) (j : Nat) : Int := colF m (cOf cs (cs.getD j col0).1 == (j : Int)) (cs.getD j col0)
def kndT (a : Fmt) (i : Nat) (kd : Knd) : Int := cond (!inB kd.2.2.1 0 2000) 1 (cond (!(eqS kd.2.2.2 (bs [])) && (decide (kOf a.2.2.1 kd.2.2.2 < 0) || decide (kOf a.2.2.1 kd.2.2.2 ≥ (i : Int)))) 5 0)
/-- What is wrong with a kind. -/
def kndF (a : Fmt) (i : Nat) (kd : Knd) : Int :=
  cond (!tagB kd.1) 3 (cond (!(kOf a.2.2.1 kd.1 == (i : Int))) 7 (cond ((a.1 == 0) && ((kd.1.size : Int) != ((a.2.2.1.getD 0 knd0).1.size : Int))) 3 (cond (decide ((kd.2.1.length : Int) > 50)) 2 (nzF (colAt a.1 kd.2.1) (kndT a i kd) kd.2.1.length 0))))
theorem getD_nat {α : Type} {l : List α} {i : Nat} (h : i < l.length) (d : α) : l.getD i d = l[i] := by
  rw [List.getD_eq_getElem?_getD, List.getElem?_eq_getElem h]
  rfl
theorem own_eq {α : Type} (p : α → Bool) (l : List α) (i : Nat) (hi : i < l.length) (h : p l[i] = true) : (!decide (0 ≤ ixI p (l.take i))) = (ixI p l == (i : Int)) := by
  have := ixI_own p l i hi h
  by_cases h2 : ixI p l = (i : Int)
  · rw [h2, beq_self_eq_true, decide_eq_false (fun z => this.2 z h2)]; rfl
  · rw [beq_false_of_ne h2, decide_eq_true (this.1 h2)]; rfl
theorem take_lt {α : Type} {l : List α} {i n : Nat} (h : l.length < n) : (l.take i).length < n := by
  rw [List.length_take]; omega
theorem ev_kind (a : Fmt) (i : Nat) (hi : i < a.2.2.1.length) (ha : FitF a) : Ev (fun k => flat_kindFault k a (i : Int)) (kndF a i a.2.2.1[i]) := by
  have hc := ha.c _ (List.getElem_mem hi)
  have ht := ha.t _ (List.getElem_mem hi)
  have hn := ha.n
  have hown := own_eq (tagP (a.2.2.1[i]).1) a.2.2.1 i hi (eqS_self _)
  refine .step (fun k => flat_kindFault_eq k _ _) (.ck (by omega) (.ck (by omega) ?_))
  rw [getD_at hi]
  generalize a.2.2.1[i] = kd at *
  unfold kndF
  have hin : (cond (decide ((kd.1.size : Int) < 1)) true (decide ((kd.1.size : Int) > 6))) = !inB (kd.1.size : Int) 1 6 := by
    unfold inB
    by_cases h1 : (kd.1.size : Int) < 1
    · rw [decide_eq_true h1, decide_eq_false (by omega : ¬ (1 : Int) ≤ (kd.1.size : Int))]; rfl
    · rw [decide_eq_false h1, decide_eq_true (by omega : (1 : Int) ≤ (kd.1.size : Int))]
      by_cases h2 : (kd.1.size : Int) > 6
      · rw [decide_eq_true h2, decide_eq_false (by omega : ¬ (kd.1.size : Int) ≤ 6)]; rfl
      · rw [decide_eq_false h2, decide_eq_true (by omega : (kd.1.size : Int) ≤ 6)]; rfl
  have htag := ev_alnum (L kd.1) (by have := size_L kd.1; omega)
  rw [B_L] at htag
  rw [hin]
  refine .bind (.gd rfl fun _ => htag) (.sel ?_ (fun _ => .pure _) fun _ => .ck (by omega) (.ck (by omega) ?_))
  · unfold tagB
    cases inB (kd.1.size : Int) 1 6 <;> cases (L kd.1).all bdB <;> rfl
  · rw [Int.toNat_natCast]
    refine .bind (ev_hasKf1 _ kd (take_lt hn)) (.sel ?_ (fun _ => .pure _) fun _ => .tt (by simp) (.tt (by simp; omega) (.sel ?_ (fun _ => .pure _) fun _ => .sel rfl (fun _ => .pure _) fun _ => ?_)))
    · show _ = !(ixI (tagP kd.1) a.2.2.1 == (i : Int))
      rw [← hown, Bool.not_not]
      rfl
    · cases (a.1 == 0) <;> rfl
    · refine ev_nz kd.2.1.length (colAt a.1 kd.2.1) (kndT a i kd) (fun k j => flat_kindFault_c12 k (i : Int) a kd kd.2.1 (kd.2.1.length : Int) j) (fun j hj y hy => ?_) ?_
      · have ho := own_eq (colP (kd.2.1[j]).1) kd.2.1 j hj (eqS_self _)
        have hcol := ev_column a kd.2.1[j] (kd.2.1.take j) (take_lt hc)
        have ho' : (!decide (0 ≤ cOf (kd.2.1.take j) (kd.2.1[j]).1)) = (cOf kd.2.1 (kd.2.1[j]).1 == (j : Int)) := ho
        rw [ho'] at hcol
        refine .step (fun k => flat_kindFault_c12_eq k _ _ _ _ _ _) (.ck (by omega) (.ck (by omega) (.ck (by omega) (.ck (by omega) (.ck (by omega) ?_)))))
        rw [getD_at hj, wj hj hc, Int.toNat_natCast]
        unfold colAt
        rw [getD_nat hj]
        exact .bind hcol (.sel rfl (fun _ => .pure _) fun _ => hy)
      · unfold kndT
        have htk := ixI_take (tagP kd.2.2.2) a.2.2.1 i (by omega)
        refine .step (fun k => flat_kindFault_c12_eq k _ _ _ _ _ _) (.nk (by omega) (.bind (ev_outF _ _ _) (.sel rfl (fun _ => .pure _) fun _ => .tt (by simp) (.tt (by simp; omega) ?_))))
        rw [Int.toNat_natCast]
        refine .bind (.gd rfl fun _ => ev_hasKf2 _ kd (take_lt hn)) (.sel ?_ (fun _ => .pure _) fun _ => .pure _)
        have e : decide (0 ≤ kOf (a.2.2.1.take i) kd.2.2.2) = !(decide (kOf a.2.2.1 kd.2.2.2 < 0) || decide (kOf a.2.2.1 kd.2.2.2 ≥ (i : Int))) := by
          unfold kOf
          by_cases h : 0 ≤ ixI (tagP kd.2.2.2) (a.2.2.1.take i)
          · have := htk.1 h
            rw [decide_eq_true h, decide_eq_false (by omega), decide_eq_false (by omega)]
            rfl
          · rw [decide_eq_false h]
            have h' : ¬ (0 ≤ ixI (tagP kd.2.2.2) a.2.2.1 ∧ ixI (tagP kd.2.2.2) a.2.2.1 < i) := fun z => h (htk.2 z)
            by_cases h1 : ixI (tagP kd.2.2.2) a.2.2.1 < 0
            · rw [decide_eq_true h1]; rfl
            · rw [decide_eq_false h1, decide_eq_true (by omega : ixI (tagP kd.2.2.2) a.2.2.1 ≥ (i : Int))]; rfl
        rw [e]
        cases eqS kd.2.2.2 (bs []) <;> cases (decide (kOf a.2.2.1 kd.2.2.2 < 0) || decide (kOf a.2.2.1 kd.2.2.2 ≥ (i : Int))) <;> rfl
/-! ### ends -/
def eB (s : ByteArray) : Bool := eqS s (bs [])
def cntB (cs : List Col) (c : ByteArray) (any : Bool) : Bool := decide (0 ≤ cOf cs c) && ((cs.getD (cOf cs c).toNat col0).2.1 == 2) && (any || ((cs.getD (cOf cs c).toNat col0).2.2.2.1 == 0))
def endF (a : Fmt) : Int :=
  cond ((!eB a.2.2.2.1 && decide (kOf a.2.2.1 a.2.2.2.1 < 0)) || (!eB a.2.2.2.2.1 && decide (kOf a.2.2.1 a.2.2.2.2.1 < 0))) 5 (cond (!eB a.2.2.2.1 && eqS a.2.2.2.1 a.2.2.2.2.1) 12 (cond (eB a.2.2.2.2.1 && (!eB a.2.2.2.2.2.1 || !eB a.2.2.2.2.2.2)) 3
    (cond ((!eB a.2.2.2.2.2.1 && !cntB (kAt a.2.2.1 a.2.2.2.2.1).1.2.1 a.2.2.2.2.2.1 false) || (!eB a.2.2.2.2.2.2 && !cntB (kAt a.2.2.1 a.2.2.2.2.1).1.2.1 a.2.2.2.2.2.2 true)) 5 (cond (!eB a.2.2.2.2.2.1 && eqS a.2.2.2.2.2.1 a.2.2.2.2.2.2) 12 0))))
theorem kAt_len (ks : List Knd) (t : ByteArray) (h : ∀ kd ∈ ks, kd.2.1.length < 1125899906842624) : (kAt ks t).1.2.1.length < 1125899906842624 := by
  unfold kAt
  split
  · rename_i h0
    obtain ⟨i, hi, e, _⟩ := ixI_get h0
    have e' : kOf ks t = (i : Int) := e
    rw [e']
    show (ks.getD ((i : Nat) : Int).toNat knd0).2.1.length < _
    rw [getD_at hi]
    exact h _ (List.getElem_mem hi)
  · exact Nat.zero_lt_succ _
theorem kAt_2 (ks : List Knd) (t : ByteArray) : (kAt ks t).2 = !decide (kOf ks t < 0) := by
  unfold kAt
  split
  · rw [decide_eq_false (by omega)]; rfl
  · rw [decide_eq_true (by omega)]; rfl
/-- One count's column, in the package. -/
theorem ev_cnt {F : Nat → Option Int} {y : Int} (kd : Knd) (hl : kd.2.1.length < 1125899906842624) (c : ByteArray) (j : Int) (any : Bool) (hj : (j == 0) = !any) (hF : (!eB c && !cntB kd.2.1 c any) = false → Ev F y) :
    Ev (fun k => cond (eqS c (bs [])) (F k) ((flat_columnAt k kd c).bind fun y2 =>
      cond ((!(!(decide (y2 < 0)))) || (decide (0 ≤ y2))) (
      cond ((!(!(decide (y2 < 0)))) || (decide (y2 < (kd.2.1.length : Int)))) (
      cond ((!((!(cond (decide (y2 < 0)) true (((kd.2.1.getD y2.toNat col0).2).1 != 2))) && (j == 0))) || (decide (0 ≤ y2))) (
      cond ((!((!(cond (decide (y2 < 0)) true (((kd.2.1.getD y2.toNat col0).2).1 != 2))) && (j == 0))) || (decide (y2 < (kd.2.1.length : Int)))) (
      cond (cond (cond (decide (y2 < 0)) true (((kd.2.1.getD y2.toNat col0).2).1 != 2)) true (cond (j == 0) (((((kd.2.1.getD y2.toNat col0).2).2).2).1 != 0) false)) (
        some 5) (F k)) none) none) none) none)) (cond (!eB c && !cntB kd.2.1 c any) 5 y) := by
  have hcl := ixI_lt (colP c) kd.2.1
  have hcl' : cOf kd.2.1 c < kd.2.1.length := hcl.2
  have hneg : decide (0 ≤ cOf kd.2.1 c) = !decide (cOf kd.2.1 c < 0) := by
    by_cases h : cOf kd.2.1 c < 0
    · rw [decide_eq_true h, decide_eq_false (by omega)]; rfl
    · rw [decide_eq_false h, decide_eq_true (by omega)]; rfl
  cases he : eqS c (bs []) with
  | true =>
    have e2 : eB c = true := he
    rw [e2]
    rw [e2] at hF
    exact hF rfl
  | false =>
    have e2 : eB c = false := he
    rw [e2]
    rw [e2] at hF
    refine .bind (ev_columnAt kd c hl) (.tt (bor' fun z => ?_) (.tt (bor' fun _ => by simpa using hcl') (.tt (bor' fun z => ?_) (.tt (bor' fun _ => by simpa using hcl') (.sel ?_ (fun _ => .pure _) fun h => hF h)))))
    · rw [hneg]; simpa using z
    · rw [hneg]
      cases h : decide (cOf kd.2.1 c < 0) with
      | false => rfl
      | true => rw [h] at z; cases z
    · unfold cntB
      rw [hneg, hj]
      unfold bne
      cases decide (cOf kd.2.1 c < 0) <;> cases any <;> cases ((kd.2.1.getD (cOf kd.2.1 c).toNat col0).2.1 == 2) <;> cases ((kd.2.1.getD (cOf kd.2.1 c).toNat col0).2.2.2.1 == 0) <;> rfl
theorem ev_ends (a : Fmt) (ha : FitF a) : Ev (fun k => flat_endsFault k a) (endF a) := by
  have hlen := kAt_len a.2.2.1 a.2.2.2.2.1 ha.c
  refine .step (fun k => flat_endsFault_eq k _) (.step (fun k => flat_endsFault_c2_eq k _ _ _ _) (.ck (by decide) (.ck (by decide) (.ck (show (0 : Int) < ((2 : Nat) : Int) by decide) (.bind (ev_kindAt a a.2.2.2.1 ha.n) ?_)))))
  rw [kAt_2]
  unfold endF
  show Ev _ (cond ((!eB a.2.2.2.1 && decide (kOf a.2.2.1 a.2.2.2.1 < 0)) || (!eB a.2.2.2.2.1 && decide (kOf a.2.2.1 a.2.2.2.2.1 < 0))) 5 _)
  have e1 : ∀ (t : ByteArray), (cond (!(eqS t (bs []))) (!(!decide (kOf a.2.2.1 t < 0))) false) = (!eB t && decide (kOf a.2.2.1 t < 0)) := fun t => by
    show (cond (!eB t) _ false) = _
    cases eB t <;> cases decide (kOf a.2.2.1 t < 0) <;> rfl
  have g0 : ([a.2.2.2.1, a.2.2.2.2.1] : List ByteArray).getD (0 : Int).toNat (bs []) = a.2.2.2.1 := rfl
  have g1 : ([a.2.2.2.1, a.2.2.2.2.1] : List ByteArray).getD (wi64 (0 + 1)).toNat (bs []) = a.2.2.2.2.1 := rfl
  rw [g0, e1]
  cases hA : (!eB a.2.2.2.1 && decide (kOf a.2.2.1 a.2.2.2.1 < 0)) with
  | true => exact .pure _
  | false =>
    rw [Bool.false_or]
    refine .ff rfl (.step (fun k => flat_endsFault_c2_eq k _ _ _ _) (.ck (by decide) (.ck (by decide) (.ck (show (1 : Int) < ((2 : Nat) : Int) by decide) (.bind (ev_kindAt a _ ha.n) ?_)))))
    rw [kAt_2, g1, e1]
    refine .sel rfl (fun _ => .pure _) fun _ => .step (fun k => flat_endsFault_c2_eq k _ _ _ _) (.nk (by decide) (.sel ?_ (fun _ => .pure _) fun _ => .sel ?_ (fun _ => .pure _) fun _ => .bind (ev_kindAt a _ ha.n) ?_))
    · show (cond _ (!eB _) false) = _
      cases eB a.2.2.2.1 <;> cases eqS a.2.2.2.1 a.2.2.2.2.1 <;> rfl
    · show (cond (eB _) (cond (!eB _) true (!eB _)) false) = _
      cases eB a.2.2.2.2.1 <;> cases eB a.2.2.2.2.2.1 <;> cases eB a.2.2.2.2.2.2 <;> rfl
    · generalize (kAt a.2.2.1 a.2.2.2.2.1).1 = kd at *
      have key := ev_cnt (y := cond (!eB a.2.2.2.2.2.2 && !cntB kd.2.1 a.2.2.2.2.2.2 true) 5 (cond (!eB a.2.2.2.2.2.1 && eqS a.2.2.2.2.2.1 a.2.2.2.2.2.2) 12 0)) (F := fun k => flat_endsFault_c14 k a kd [a.2.2.2.2.2.1, a.2.2.2.2.2.2] 2 1) kd hlen a.2.2.2.2.2.1 0 false rfl fun _ => by
        refine .step (fun k => flat_endsFault_c14_eq k _ _ _ _ _) (.ck (by decide) (.ck (by decide) (.ck (show (1 : Int) < ((2 : Nat) : Int) by decide) ?_)))
        refine ev_cnt (F := fun k => flat_endsFault_c14 k a kd [a.2.2.2.2.2.1, a.2.2.2.2.2.2] 2 2) kd hlen a.2.2.2.2.2.2 1 true rfl fun _ => ?_
        refine .step (fun k => flat_endsFault_c14_eq k _ _ _ _ _) (.nk (by decide) (.sel ?_ (fun _ => .pure _) fun _ => .pure _))
        show (cond _ (!eB _) false) = _
        cases eB a.2.2.2.2.2.1 <;> cases eqS a.2.2.2.2.2.1 a.2.2.2.2.2.2 <;> rfl
      refine .step (fun k => flat_endsFault_c14_eq k _ _ _ _ _) (.ck (by decide) (.ck (by decide) (.ck (show (0 : Int) < ((2 : Nat) : Int) by decide) (key.to ?_))))
      cases (!eB a.2.2.2.2.2.1 && !cntB kd.2.1 a.2.2.2.2.2.1 false) <;> cases (!eB a.2.2.2.2.2.2 && !cntB kd.2.1 a.2.2.2.2.2.2 true) <;> rfl
/-! ### the whole -/
/-- What is wrong with a format. -/
def fmtF (a : Fmt) : Int := cond (mk12 a.1 a.2.1) 12 (cond (mk3 a.1 a.2.1) 3 (cond ((a.2.2.1.length : Int) == 0) 9 (cond (decide ((a.2.2.1.length : Int) > 30)) 2 (nzF (fun i => kndF a i (a.2.2.1.getD i knd0)) (endF a) a.2.2.1.length 0))))
theorem ev_CheckFormat (a : Fmt) (ha : FitF a) : Ev (fun k => flat_CheckFormat k a) (fmtF a) := by
  refine .step (fun k => flat_CheckFormat_eq k _) (.bind (ev_marks a) ?_)
  unfold fmtF
  cases mk12 a.1 a.2.1 with
  | true => exact .pure _
  | false =>
    cases mk3 a.1 a.2.1 with
    | true => exact .pure _
    | false =>
      show Ev _ (cond ((a.2.2.1.length : Int) == 0) 9 _)
      refine .ff rfl (.sel rfl (fun _ => .pure _) fun _ => .sel rfl (fun _ => .pure _) fun _ => ?_)
      refine ev_nz a.2.2.1.length _ _ (fun k i => flat_CheckFormat_c9 k a (a.2.2.1.length : Int) i) (fun i hi y hy => ?_) ?_
      · refine .step (fun k => flat_CheckFormat_c9_eq k _ _ _) (.ck (by omega) (.bind (ev_kind a i hi ha) ?_))
        rw [getD_nat hi, wj hi ha.n]
        exact .sel rfl (fun _ => .pure _) fun _ => hy
      · exact .step (fun k => flat_CheckFormat_c9_eq k _ _ _) (.nk (by omega) (.ret (ev_ends a ha) rfl))
end Go.Proofs.YtebdajjgicfcaaaGreatDoor.Eq
namespace Go.Proofs.YtebdajjgicfcaaaGreatDoor.Eq
open Go Go.Ra
set_option linter.unusedVariables false

end Go.Proofs.YtebdajjgicfcaaaGreatDoor.Eq
namespace Go.Proofs.YtebdajjgicfcaaaGreatDoor.Eq
open Go Go.Ra
set_option linter.unusedVariables false

/- the reference -/
end Go.Proofs.YtebdajjgicfcaaaGreatDoor.Eq
namespace Go.Ra
open Go Go.Ra
end Go.Ra
namespace Go.Proofs.YtebdajjgicfcaaaGreatDoor.Eq
open Go Go.Ra
set_option linter.unusedVariables false

/-! ### the implied point -/
end Go.Proofs.YtebdajjgicfcaaaGreatDoor.Eq
namespace Go.Ra
open Go Go.Ra
end Go.Ra
namespace Go.Proofs.YtebdajjgicfcaaaGreatDoor.Eq
open Go Go.Ra
set_option linter.unusedVariables false

/-- What digits are read as. -/
def rdR (neg : Bool) (l m : List UInt8) : (Int × Int) × Int := if neg = true then (if dv (l ++ m) = 0 then ((0, 0), 10) else mk (-((dv (l ++ m) : Nat) : Int)) m.length) else mk ((dv (l ++ m) : Nat) : Int) m.length
theorem ev_aread (neg : Bool) (l m : List UInt8) (h : ∀ b ∈ l ++ m, dgB b = true) (hl : (l ++ m).length ≤ 60) : Ev (fun k => amount_read k neg (B l) (B m)) (rdR neg l m) := by
  have hl' := hl
  rw [List.length_append] at hl'
  refine .step (fun k => amount_read_eq k _ _ _) (.bind (ev_Of 0 (by decide) (by decide)) (.ck (by rw [size_B, size_B]; omega) ?_))
  rw [B_app, size_B]
  have sm : ∀ i, Sm ((dv ((l ++ m).take i) : Nat) : Int) := fun i => by
    refine .of ?_
    rw [Int.natAbs_natCast]
    have h1 : dv ((l ++ m).take i) < 10 ^ ((l ++ m).take i).length := dv_lt fun b hb => h b (List.mem_of_mem_take hb)
    have h2 : (10 : Nat) ^ ((l ++ m).take i).length ≤ 10 ^ 60 := Nat.pow_le_pow_right (by decide) (by rw [List.length_take]; omega)
    exact Nat.le_trans (Nat.le_of_lt h1) (Nat.le_trans h2 (by decide +kernel))
  have key : ∀ (j i : Nat), (l ++ m).length - i = j → i ≤ (l ++ m).length → Ev (fun k => amount_read_c3 k neg (B l) (B m) (0, 0) (W ((dv ((l ++ m).take i) : Nat) : Int)) ((l ++ m).length : Int) (i : Int)) (rdR neg l m) := by
    intro j
    induction j with
    | zero =>
      intro i hj hi
      have hsm := sm i
      refine .step (fun k => amount_read_c3_eq k _ _ _ _ _ _ _) (.nk (by omega) ?_)
      rw [List.take_of_length_le (by omega)] at hsm ⊢
      unfold rdR
      cases neg with
      | true =>
        rw [if_pos rfl]
        refine .tt rfl (.bind (ev_Sign _) ?_)
        by_cases hz : dv (l ++ m) = 0
        · rw [if_pos hz]
          exact .tt (by simp [hz]) (.pure _)
        · rw [if_neg hz]
          have hs : ((dv (l ++ m) : Nat) : Int).sign ≠ 0 := by
            rw [ne_eq, Int.sign_eq_zero_iff_zero]
            omega
          refine .ff (by simpa using hs) (.bind (ev_Minus _ hsm) ?_)
          rw [size_B]
          exact .ret (ev_Made _ _) rfl
      | false =>
        rw [if_neg (by decide), size_B]
        exact .ff rfl (.ret (ev_Made _ _) rfl)
    | succ j ih =>
      intro i hj hi
      have hil : i < (l ++ m).length := by omega
      have hdig : dgB ((l ++ m).getD i 0) = true := by
        rw [List.getD_eq_getElem?_getD, List.getElem?_eq_getElem hil]
        exact h _ (List.getElem_mem hil)
      have hb := dgB_iff.1 hdig
      have e : ((dv ((l ++ m).take (i + 1)) : Nat) : Int) = ((dv ((l ++ m).take i) : Nat) : Int) * 10 + ((((l ++ m).getD i 0).toNat - 48 : Nat) : Int) := by
        rw [take_succ' hil, dv_app, dv_one]
        simp
      have h10 : Sm (10 : Int) := .of (by decide +kernel)
      have s1 : Sm (((dv ((l ++ m).take i) : Nat) : Int) * 10) := by
        refine .of ?_
        have h1 : dv ((l ++ m).take i) < 10 ^ ((l ++ m).take i).length := dv_lt fun b hb => h b (List.mem_of_mem_take hb)
        have h2 : (10 : Nat) ^ ((l ++ m).take i).length ≤ 10 ^ 60 := Nat.pow_le_pow_right (by decide) (by rw [List.length_take]; omega)
        have : (((dv ((l ++ m).take i) : Nat) : Int) * 10).natAbs = dv ((l ++ m).take i) * 10 := by rw [Int.natAbs_mul, Int.natAbs_natCast]; rfl
        rw [this]
        exact Nat.le_trans (Nat.mul_le_mul_right 10 (Nat.le_trans (Nat.le_of_lt h1) h2)) (by decide +kernel)
      have s2 : Sm ((((l ++ m).getD i 0).toNat - 48 : Nat) : Int) := by
        refine .of ?_
        rw [Int.natAbs_natCast]
        exact Nat.le_trans (show _ ≤ 10 by omega) (by decide +kernel)
      refine .step (fun k => amount_read_c3_eq k _ _ _ _ _ _ _) (.ck (by omega) (.bind (ev_Of 10 (by decide) (by decide)) (.bind (ev_Times _ _ (sm i) h10) (.ck (by rw [size_B, size_B]; omega) ?_))))
      rw [B_app, size_B, bt_B hil, wu8_dig hdig]
      have hw : wi64 ((i : Int) + 1) = ((i + 1 : Nat) : Int) := by rw [wi64_id (by omega) (by omega)]; rfl
      refine .ck (by omega) (.ck (by omega) (.bind (ev_Of _ (by omega) (by omega)) (.bind (ev_Plus _ _ s1 s2) ?_)))
      rw [hw, ← e]
      exact ih (i + 1) (by omega) (by omega)
  exact key _ 0 rfl (Nat.zero_le _)

theorem ev_isWhole (l : List UInt8) (hl : l.length < 1125899906842624) : Ev (fun k => amount_isWhole k (B l)) (digB l && (decide (l.length = 1) || decide (l.head? ≠ some 48))) := by
  have hk := ev_kDig (B l) (by rw [size_B]; exact hl)
  rw [L_B] at hk
  refine .step (fun k => amount_isWhole_eq k _) (.bind hk ?_)
  rw [size_B]
  cases hd : digB l with
  | false =>
    refine .tt (by simp) (.tt (by simp) (.pure _))
  | true =>
    have hp := digB_len hd
    refine .tt (by simp) (.tt (by simp; omega) (.to (.pure _) ?_))
    have hb0 : bt (B l) 0 = (((l.getD 0 0).toNat : Nat) : Int) := bt_B (i := 0) (by omega)
    rw [hb0]
    cases l with
    | nil => simp at hp
    | cons b t =>
      by_cases h1 : t = []
      · subst h1; simp
      · have ht : 0 < t.length := List.length_pos_iff.2 h1
        have e1 : ((((b :: t).length : Nat) : Int) == 1) = false := by simp; omega
        rw [e1]
        simp only [cond_true, cond_false, List.getD_cons_zero, Bool.true_and]
        by_cases hb : b = 48
        · subst hb
          simp [h1]
        · have : ((b.toNat : Int)) ≠ 48 := fun z => hb (UInt8.toNat_inj.1 (by rw [show (48 : UInt8).toNat = 48 from rfl]; omega))
          simp [hb, this]
end Go.Proofs.YtebdajjgicfcaaaGreatDoor.Eq
namespace Go.Proofs.YtebdajjgicfcaaaGreatDoor.Eq
open Go Go.Ra
set_option linter.unusedVariables false

end Go.Proofs.YtebdajjgicfcaaaGreatDoor.Eq
namespace Go.Proofs.YtebdajjgicfcaaaGreatDoor.Eq
open Go Go.Ra
set_option linter.unusedVariables false

theorem decFrom_dvA : ∀ (l : List UInt8) (a : Nat), (∀ b ∈ l, dgB b = true) → Lib.decFrom a l = some (dvA a l)
  | [], a, _ => rfl
  | b :: l, a, h => by
    have hb := dgB_iff.1 (h b (by simp))
    unfold Lib.decFrom
    have e : Lib.digitVal b = some (b.toNat - 48) := by
      unfold Lib.digitVal
      rw [if_pos]
      exact hb
    rw [e]
    exact decFrom_dvA l _ fun x hx => h x (by simp [hx])
theorem atoi_dg {l : List UInt8} (h : digB l = true) : Lib.atoi l = some ((dv l : Nat) : Int) := by
  have hd := digB_all h
  cases l with
  | nil => simp [digB] at h
  | cons b r =>
    have hb := dgB_iff.1 (hd b (by simp))
    unfold Lib.atoi
    have h45 : (b == 45) = false := by
      have : b ≠ 45 := fun z => by rw [z] at hb; exact absurd hb.1 (by decide)
      simpa using this
    have h43 : (b == 43) = false := by
      have : b ≠ 43 := fun z => by rw [z] at hb; exact absurd hb.1 (by decide)
      simpa using this
    have e : Lib.decNat (b :: r) = some (dv (b :: r)) := decFrom_dvA (b :: r) 0 hd
    simp only [h45, h43, Bool.false_eq_true, if_false, e]
    rfl
theorem ev_Atoi (l : List UInt8) (h : digB l = true) (hl : l.length ≤ 18) : Ev (fun k => strconv_Atoi k (B l)) ((dv l : Int), true) := by
  refine .off (n := 0) fun k => ?_
  have e3 : (B l).data.toList = l := L_B l
  rw [strconv_Atoi_eq, e3, atoi_dg h, size_B, decide_eq_true hl]
  rfl
end Go.Proofs.YtebdajjgicfcaaaGreatDoor.Eq
namespace Go.Ra
open Go Go.Ra
/-- Digits in blocks, and nothing behind them. -/
def okP : List Nat → List UInt8 → Bool
  | [], l => l.isEmpty
  | w :: ws, l => decide (w ≤ l.length) && (digB (l.take w) && okP ws (l.drop w))
def valP : List Nat → List UInt8 → List Int
  | [], _ => []
  | w :: ws, l => ((dv (l.take w) : Nat) : Int) :: valP ws (l.drop w)
/-- What a block is read as. -/
def nmL (l : List UInt8) : Int := if digB l = true then ((dv l : Nat) : Int) else -1
theorem nmL_no {l : List UInt8} (h : digB l = false) : nmL l = -1 := by unfold nmL; rw [h]; rfl
theorem nmL_yes {l : List UInt8} (h : digB l = true) : nmL l = ((dv l : Nat) : Int) := if_pos h
end Go.Ra
namespace Go.Proofs.YtebdajjgicfcaaaGreatDoor.Eq
open Go Go.Ra
set_option linter.unusedVariables false

/-- What a date is read as. -/
def finD (y m d : Int) : Int × Int := if okDt y m d then ((⟨y, m.toNat, d⟩ : Dt).n, 0) else (0, 10)
theorem finD_no {y m d : Int} (h : y = -1 ∨ m = -1 ∨ d = -1) : finD y m d = (0, 10) := by
  unfold finD
  rw [if_neg]
  unfold okDt
  omega
theorem ev_partsAny (ws : List Nat) (hw : ∀ w ∈ ws, 1 ≤ w ∧ w ≤ 18) (hws : ws.length ≤ 10) : ∀ (j i : Nat) (acc : List Int) (l : List UInt8), ws.length - i = j → i ≤ ws.length → acc.length ≤ i → l.length < 1125899906842624 →
    ∃ q, Ev (fun k => amount_parts_c3 k (B l) acc (ws.map fun w => ((w : Nat) : Int)) (ws.length : Int) (i : Int)) q ∧ q.2 = okP (ws.drop i) l ∧ (q.2 = true → q.1 = acc ++ valP (ws.drop i) l) := by
  intro j
  induction j with
  | zero =>
    intro i acc l hj hi ha hl
    refine ⟨(acc, eqS (B l) (bs [])), .step (fun k => amount_parts_c3_eq k _ _ _ _ _) (.nk (by omega) (.pure _)), ?_, fun _ => ?_⟩
    · rw [List.drop_of_length_le (by omega), eqS_nil, L_B]; rfl
    · rw [List.drop_of_length_le (by omega)]
      show acc = acc ++ []
      rw [List.append_nil]
  | succ j ih =>
    intro i acc l hj hi ha hl
    have hil : i < ws.length := by omega
    have hwi := hw (ws.getD i 0) (by rw [List.getD_eq_getElem?_getD, List.getElem?_eq_getElem hil]; exact List.getElem_mem hil)
    have hg : (ws.map fun w => ((w : Nat) : Int)).getD ((i : Int)).toNat 0 = ((ws.getD i 0 : Nat) : Int) := by
      rw [Int.toNat_natCast, List.getD_eq_getElem?_getD, List.getElem?_map, List.getElem?_eq_getElem hil, List.getD_eq_getElem?_getD, List.getElem?_eq_getElem hil]
      rfl
    have hd : ws.drop i = ws.getD i 0 :: ws.drop (i + 1) := by
      rw [List.drop_eq_getElem_cons hil, List.getD_eq_getElem?_getD, List.getElem?_eq_getElem hil]
      rfl
    rw [hd]
    generalize hW : ws.getD i 0 = w at hwi hg
    have head : ∀ q, Ev (fun k => (cond (!(decide ((l.length : Int) < (w : Int)))) (kit_IsDigits k ((B l).extract 0 w)) (some false)).bind fun y0 =>
        cond (cond (decide ((l.length : Int) < (w : Int))) true (!y0)) (some ([], false)) (
          cond (decide ((0 : Int) ≤ (w : Int))) (cond (decide ((w : Int) ≤ (l.length : Int))) (
          (strconv_Atoi k ((B l).extract 0 w)).bind fun y1 =>
          cond (decide (acc.length + 1 < 17592186044416)) (cond (decide ((0 : Int) ≤ (w : Int))) (cond (decide ((w : Int) ≤ (l.length : Int))) (
          amount_parts_c3 k ((B l).extract w l.length) (acc ++ [y1.1]) (ws.map fun w => ((w : Nat) : Int)) (ws.length : Int) (wi64 ((i : Int) + 1))) none) none) none) none) none)) q →
        Ev (fun k => amount_parts_c3 k (B l) acc (ws.map fun w => ((w : Nat) : Int)) (ws.length : Int) (i : Int)) q := by
      intro q hq
      refine .step (fun k => amount_parts_c3_eq k _ _ _ _ _) (.ck (by omega) (.ck (by omega) (.ck (by rw [List.length_map]; omega) ?_)))
      rw [hg, size_B, Int.toNat_natCast]
      refine .tt (bor' fun _ => by simp) (.tt (bor' fun z => ?_) hq)
      rw [Bool.not_eq_true', decide_eq_false_iff_not] at z
      exact decide_eq_true (by omega)
    by_cases hlen : w ≤ l.length
    · have e1 : (B l).extract 0 w = B (l.take w) := by rw [B_ext, List.drop_zero]
      have e2 : (B l).extract w l.length = B (l.drop w) := by rw [B_ext, List.take_of_length_le (Nat.le_refl _)]
      rw [e1, e2, decide_eq_false (by omega : ¬ ((l.length : Int) < (w : Int)))] at head
      have htl : (l.take w).length = w := by rw [List.length_take]; omega
      have hk := ev_kDig (B (l.take w)) (by rw [size_B]; omega)
      rw [L_B] at hk
      cases hdg : digB (l.take w) with
      | false =>
        rw [hdg] at hk
        refine ⟨([], false), head _ (.bind (.tt rfl hk) (.tt rfl (.pure _))), ?_, fun z => by cases z⟩
        show false = (decide (w ≤ l.length) && (digB (l.take w) && _))
        rw [hdg]; simp
      | true =>
        rw [hdg] at hk
        obtain ⟨q, q1, q2, q3⟩ := ih (i + 1) (acc ++ [((dv (l.take w) : Nat) : Int)]) (l.drop w) (by omega) (by omega) (by simp; omega) (by rw [List.length_drop]; omega)
        refine ⟨q, head _ (.bind (.tt rfl hk) (.ff rfl (.ck (by omega) (.ck (by omega) (.bind (ev_Atoi (l.take w) hdg (by omega)) (.ck (by omega) (.ck (by omega) (.ck (by omega) ?_)))))))), ?_, fun z => ?_⟩
        · rw [show wi64 ((i : Int) + 1) = ((i + 1 : Nat) : Int) by rw [wi64_id (by omega) (by omega)]; rfl]
          exact q1
        · rw [q2]
          show _ = (decide (w ≤ l.length) && (digB (l.take w) && _))
          rw [hdg, decide_eq_true hlen]; rfl
        · rw [q3 z, List.append_assoc]; rfl
    · rw [decide_eq_true (by omega : ((l.length : Int) < (w : Int)))] at head
      refine ⟨([], false), head _ (.bind (x := false) (.ff rfl (.pure _)) (.tt rfl (.pure _))), ?_, fun z => by cases z⟩
      show false = (decide (w ≤ l.length) && _)
      rw [decide_eq_false hlen]; rfl
theorem ev_parts (a b c : Nat) (h : (1 ≤ a ∧ a ≤ 18) ∧ (1 ≤ b ∧ b ≤ 18) ∧ (1 ≤ c ∧ c ≤ 18)) (l : List UInt8) (hl : l.length < 1125899906842624) :
    ∃ q, Ev (fun k => amount_parts k (B l) [(a : Int), (b : Int), (c : Int)]) q ∧ q.2 = okP [a, b, c] l ∧ (q.2 = true → q.1 = valP [a, b, c] l) := by
  obtain ⟨q, q1, q2, q3⟩ := ev_partsAny [a, b, c] (by simp; omega) (by simp) _ 0 [] l rfl (by simp) (by simp) hl
  exact ⟨q, .step (fun k => amount_parts_eq k _ _) q1, q2, q3⟩
theorem okP3 {a b c : Nat} {l : List UInt8} : okP [a, b, c] l = true ↔ l.length = a + b + c ∧ digB (l.take a) = true ∧ digB ((l.drop a).take b) = true ∧ digB (l.drop (a + b)) = true := by
  simp only [okP, Bool.and_eq_true, decide_eq_true_eq, List.drop_drop, List.length_drop, List.isEmpty_iff, List.drop_eq_nil_iff]
  constructor
  · rintro ⟨h1, h2, h3, h4, h5, h6, h7⟩
    have hl : l.length = a + b + c := by omega
    refine ⟨hl, h2, h4, ?_⟩
    rwa [List.take_of_length_le (by rw [List.length_drop]; omega)] at h6
  · rintro ⟨h1, h2, h3, h4⟩
    refine ⟨by omega, h2, by omega, h3, by omega, ?_, by omega⟩
    rwa [List.take_of_length_le (by rw [List.length_drop]; omega)]
theorem valP3 {a b c : Nat} {l : List UInt8} (h : l.length = a + b + c) : valP [a, b, c] l = [((dv (l.take a) : Nat) : Int), ((dv ((l.drop a).take b) : Nat) : Int), ((dv (l.drop (a + b)) : Nat) : Int)] := by
  simp only [valP, List.drop_drop]
  rw [List.take_of_length_le (l := l.drop (a + b)) (by rw [List.length_drop]; omega)]
theorem ev_numB (l : List UInt8) (h : l.length ≤ 15) : Ev (fun k => interchangeref1_number k (B l)) (nmL l) := by
  have := ev_number (B l) (by rw [size_B]; exact h)
  rw [L_B] at this
  exact this
theorem ev_rFin (y m d : Int) : Ev (fun k => (interchangeref1_DayOf k y m d).bind fun y5 => cond (y5.2 != 0) (some (0, (10 : Int))) (some (y5.1, 0))) (finD y m d) := by
  refine .bind (ev_rDayOf y m d) ?_
  unfold finD
  by_cases h : okDt y m d
  · rw [if_pos h, if_pos h]; exact .ff rfl (.pure _)
  · rw [if_neg h, if_neg h]; exact .tt rfl (.pure _)
/-- The day of what is read, in package amount. -/
def fA (r : Int × Bool) : Int × Int := if r.2 = true then (r.1, 0) else (0, 10)
theorem ev_aFin (y m d : Int) : ∃ r, Ev (fun k => amount_dayOf k y m d) r ∧ fA r = finD y m d := by
  refine ⟨_, ev_adayOf y m d, ?_⟩
  unfold finD fA
  by_cases h : okDt y m d
  · rw [if_pos h, if_pos h]; rfl
  · rw [if_neg h, if_neg h]; rfl

/-- One form in package amount: three blocks and what is made of them. -/
theorem ev_aForm {a b c : Nat} (h : (1 ≤ a ∧ a ≤ 18) ∧ (1 ≤ b ∧ b ≤ 18) ∧ (1 ≤ c ∧ c ≤ 18)) (l : List UInt8) (hl : l.length < 1125899906842624) {f : Nat → List Int × Bool → Option (Int × Bool)} {t : Int × Int}
    (hf : ∀ q : List Int × Bool, q.2 = false → Ev (fun k => f k q) (0, false)) (hno : okP [a, b, c] l = false → t = (0, 10))
    (hyes : l.length = a + b + c → digB (l.take a) = true → digB ((l.drop a).take b) = true → digB (l.drop (a + b)) = true → ∃ r, Ev (fun k => f k ([((dv (l.take a) : Nat) : Int), ((dv ((l.drop a).take b) : Nat) : Int), ((dv (l.drop (a + b)) : Nat) : Int)], true)) r ∧ fA r = t) :
    ∃ r, Ev (fun k => (amount_parts k (B l) [(a : Int), (b : Int), (c : Int)]).bind fun y0 => f k y0) r ∧ fA r = t := by
  obtain ⟨⟨q1, q2⟩, e1, e2, e3⟩ := ev_parts a b c h l hl
  cases hq : q2 with
  | false =>
    subst hq
    exact ⟨(0, false), .bind e1 (hf _ rfl), (hno e2.symm).symm⟩
  | true =>
    subst hq
    obtain ⟨h1, h2, h3, h4⟩ := okP3.1 e2.symm
    obtain ⟨r, r1, r2⟩ := hyes h1 h2 h3 h4
    have e4 := e3 rfl
    rw [valP3 h1] at e4
    simp only at e4
    subst e4
    exact ⟨r, .bind e1 r1, r2⟩
theorem okP3_no {a b c : Nat} {l : List UInt8} (h : okP [a, b, c] l = false) (hl : l.length = a + b + c) : nmL (l.take a) = -1 ∨ nmL ((l.drop a).take b) = -1 ∨ nmL (l.drop (a + b)) = -1 := by
  cases h1 : digB (l.take a) with
  | false => exact .inl (nmL_no h1)
  | true =>
    cases h2 : digB ((l.drop a).take b) with
    | false => exact .inr (.inl (nmL_no h2))
    | true =>
      cases h3 : digB (l.drop (a + b)) with
      | false => exact .inr (.inr (nmL_no h3))
      | true =>
        rw [okP3.2 ⟨hl, h1, h2, h3⟩] at h
        cases h
/-! ### weeks -/
end Go.Proofs.YtebdajjgicfcaaaGreatDoor.Eq
namespace Go.Proofs.YtebdajjgicfcaaaGreatDoor.Eq
open Go Go.Ra
set_option linter.unusedVariables false
set_option linter.unusedSimpArgs false

theorem sz_eq (n m : Nat) : ((n : Int) == (m : Int)) = decide (n = m) := by
  by_cases h : n = m
  · rw [h]; simp
  · rw [decide_eq_false h]
    have : (n : Int) ≠ (m : Int) := by omega
    simpa using this
theorem ev_rEnd : Ev (fun k => (interchangeref1_DayOf k (-1) (-1) (-1)).bind fun y20 => cond (y20.2 != 0) (some (0, (10 : Int))) (some (y20.1, 0))) (0, 10) :=
  (ev_rFin (-1) (-1) (-1)).to (finD_no (.inl rfl))
theorem ev_rdStart {l : List UInt8} {b c : Int} (hb : 1 ≤ b ∧ b ≤ 5) (hc : 1 ≤ c ∧ c ≤ 9900) : Ev (fun k => interchangeref1_within k b 1 5) true ∧ Ev (fun k => interchangeref1_within k c 1 9900) true := by
  have h1 := ev_within' b 1 5
  have h2 := ev_within' c 1 9900
  rw [decide_eq_true hb] at h1
  rw [decide_eq_true hc] at h2
  exact ⟨h1, h2⟩

theorem ev_rd1T (l : List UInt8) (c : Int) (hc : 1 ≤ c ∧ c ≤ 9900) (hl : l.length ≤ 140737488351232) : Ev (fun k => interchangeref1_ReadDay k (B l) 1 c) (if l.length = 8 then finD (nmL (l.take 4)) (nmL ((l.drop 4).take 2)) (nmL (l.drop 6)) else (0, 10)) ∧ ∃ r, Ev (fun k => amount_readDay k (B l) 1 c) r ∧ fA r = (if l.length = 8 then finD (nmL (l.take 4)) (nmL ((l.drop 4).take 2)) (nmL (l.drop 6)) else (0, 10)) := by
  obtain ⟨w1, w2⟩ := ev_rdStart (l := l) (b := 1) (by decide) hc
  refine ⟨.step (fun k => interchangeref1_ReadDay_eq k _ _ _) (.bind w1 (.ff rfl (.bind w2 (.ff rfl ?_)))), ?_⟩
  · simp only [size_B]
    have hs := sz_eq l.length 8
    rw [show ((8 : Nat) : Int) = 8 from rfl] at hs
    rw [hs]
    by_cases h8 : l.length = 8
    · rw [decide_eq_true h8, if_pos h8]
      have e1 : (B l).extract 0 4 = B (l.take 4) := by rw [B_ext, List.drop_zero]
      have e2 : (B l).extract 4 6 = B ((l.drop 4).take 2) := by rw [B_ext, List.drop_take]
      have e3 : (B l).extract 6 l.length = B (l.drop 6) := by rw [B_ext, List.take_of_length_le (Nat.le_refl _)]
      rw [e1, e2, e3]
      exact .tt rfl (.ck (by omega) (.bind (ev_numB _ (by rw [List.length_take]; omega)) (.ck (by omega) (.bind (ev_numB _ (by rw [List.length_take]; omega)) (.ck (by omega) (.bind (ev_numB _ (by rw [List.length_drop]; omega)) (ev_rFin _ _ _)))))))
    · rw [decide_eq_false h8, if_neg h8]
      exact .ff rfl (.ff rfl (.ff rfl (.tt rfl (.tt rfl (.tt rfl (.tt rfl (.ff rfl (.ff rfl ev_rEnd))))))))
  · obtain ⟨r, r1, r2⟩ := ev_aForm (a := 4) (b := 2) (c := 2) (by decide) l (by omega) (t := if l.length = 8 then finD (nmL (l.take 4)) (nmL ((l.drop 4).take 2)) (nmL (l.drop 6)) else (0, 10))
      (f := fun k y0 => cond (!y0.2) (some (0, false)) (cond (decide (0 < (y0.1.length : Int))) (cond (decide (1 < (y0.1.length : Int))) (cond (decide (2 < (y0.1.length : Int))) ((amount_dayOf k (y0.1.getD 0 0) (y0.1.getD 1 0) (y0.1.getD 2 0)).bind fun y1 => some y1) none) none) none))
      (fun q hq => by rw [hq]; exact .tt rfl (.pure _))
      (fun hno => by
        split
        · rename_i h8
          exact finD_no (okP3_no hno h8)
        · rfl)
      (fun h8 d1 d2 d3 => by
        obtain ⟨r, r1, r2⟩ := ev_aFin ((dv (l.take 4) : Nat) : Int) ((dv ((l.drop 4).take 2) : Nat) : Int) ((dv (l.drop (4 + 2)) : Nat) : Int)
        refine ⟨r, .ff rfl (.ck (by simp) (.ck (by simp) (.ck (by simp) (.ret r1 rfl)))), ?_⟩
        rw [r2, if_pos h8, nmL_yes d1, nmL_yes d2, nmL_yes d3])
    exact ⟨r, .step (fun k => amount_readDay_eq k _ _ _) (.tt rfl r1), r2⟩

end Go.Proofs.YtebdajjgicfcaaaGreatDoor.Eq
namespace Go.Ra
open Go Go.Ra
end Go.Ra
namespace Go.Proofs.YtebdajjgicfcaaaGreatDoor.Eq
open Go Go.Ra
set_option linter.unusedVariables false
set_option linter.unusedSimpArgs false

theorem ev_kDigB (l : List UInt8) (hn : l.length < 1125899906842624) : Ev (fun k => kit_IsDigits k (B l)) (digB l) := by
  have := ev_kDig (B l) (by rw [size_B]; exact hn)
  rwa [L_B] at this
end Go.Proofs.YtebdajjgicfcaaaGreatDoor.Eq
namespace Go.Ra
open Go Go.Ra
end Go.Ra
namespace Go.Proofs.YtebdajjgicfcaaaGreatDoor.Eq
open Go Go.Ra
set_option linter.unusedVariables false
set_option linter.unusedSimpArgs false

end Go.Proofs.YtebdajjgicfcaaaGreatDoor.Eq
namespace Go.Proofs.YtebdajjgicfcaaaGreatDoor.Eq
open Go Go.Ra
set_option linter.unusedVariables false
set_option linter.unusedSimpArgs false
/-- What a text is read as. -/
def bad : (Int × Int) × Int := ((0, 0), 10)
def wholeL (w : List UInt8) : Bool := digB w && (decide (w.length = 1) || decide (w.head? ≠ some 48))
def rtc (neg : Bool) (w f : List UInt8) (has : Bool) : (Int × Int) × Int := if (wholeL w && (!has || (digB f && decide (f.length ≤ 9)))) = true then rdR neg w f else bad
def rtx (l : List UInt8) : (Int × Int) × Int := if 40 < l.length then bad else rtc (cutP l).2 (cutB (cutP l).1 46).1 (cutB (cutP l).1 46).2.1 (cutB (cutP l).1 46).2.2
theorem cutP_le (l : List UInt8) : (cutP l).1.length ≤ l.length := by
  unfold cutP
  split
  · simp
  · exact Nat.le_refl _
theorem cutB_le (l : List UInt8) (c : UInt8) : (cutB l c).1.length + (cutB l c).2.1.length ≤ l.length := by
  rcases cutB_cases l c with ⟨_, h⟩ | ⟨a, b, rfl, _, h⟩
  · rw [h]; simp
  · rw [h]; simp
theorem cutB_no (l : List UInt8) (c : UInt8) (h : (cutB l c).2.2 = false) : (cutB l c).2.1 = [] := by
  rcases cutB_cases l c with ⟨_, e⟩ | ⟨a, b, rfl, _, e⟩
  · rw [e]
  · rw [e] at h; cases h
theorem rdR_bad {neg : Bool} {w f : List UInt8} : rdR neg w f = (if neg = true ∧ dv (w ++ f) = 0 then bad else if dv (w ++ f) ≤ 1000000000000000 then (((if neg = true then -((dv (w ++ f) : Nat) : Int) else ((dv (w ++ f) : Nat) : Int)), ((f.length : Nat) : Int)), 0) else ((0, 0), 1)) := by
  unfold rdR mk bad
  cases neg with
  | true =>
    rw [if_pos rfl]
    by_cases hz : dv (w ++ f) = 0
    · rw [if_pos hz, if_pos ⟨rfl, hz⟩]
    · rw [if_neg hz, if_neg (show ¬ (true = true ∧ dv (w ++ f) = 0) from fun z => hz z.2)]
      by_cases hl : dv (w ++ f) ≤ 1000000000000000
      · rw [if_pos (by omega), if_pos hl, if_pos rfl]
      · rw [if_neg (by omega), if_neg hl]
  | false =>
    rw [if_neg (by decide), if_neg (show ¬ (false = true ∧ dv (w ++ f) = 0) from fun z => by cases z.1)]
    by_cases hl : dv (w ++ f) ≤ 1000000000000000
    · rw [if_pos (by omega), if_pos hl, if_neg (by decide)]
    · rw [if_neg (by omega), if_neg hl]
theorem whole_dg {w : List UInt8} (h : wholeL w = true) : digB w = true := by
  unfold wholeL at h
  rw [Bool.and_eq_true] at h
  exact h.1
theorem dg_both {w f : List UInt8} {has : Bool} (hw : wholeL w = true) (hf : (!has || (digB f && decide (f.length ≤ 9))) = true) (hno : has = false → f = []) : ∀ b ∈ w ++ f, dgB b = true := by
  intro b hb
  rcases List.mem_append.1 hb with hb | hb
  · exact digB_all (whole_dg hw) b hb
  · cases has with
    | false => rw [hno rfl] at hb; cases hb
    | true =>
      simp only [Bool.not_true, Bool.false_or, Bool.and_eq_true] at hf
      exact digB_all hf.1 b hb
theorem ev_aRead (l : List UInt8) (hl : l.length ≤ 140737488351232) : Ev (fun k => amount_ReadText k (B l)) (rtx l) := by
  have hcp := ev_CutPre (B l)
  rw [L_B] at hcp
  have hle := cutP_le l
  have hcb := ev_Cut (B (cutP l).1) 46 (by rw [size_B]; omega)
  rw [L_B] at hcb
  have hle2 := cutB_le (cutP l).1 46
  have hno := cutB_no (cutP l).1 46
  refine .step (fun k => amount_ReadText_eq k _) (.bind hcp (.bind hcb ?_))
  unfold rtx
  generalize (cutP l).2 = neg
  generalize (cutB (cutP l).1 46).2.2 = has at hno
  generalize (cutB (cutP l).1 46).2.1 = f at hno hle2
  generalize (cutB (cutP l).1 46).1 = w at hle2
  simp only [size_B]
  by_cases hX : 40 < l.length
  · rw [if_pos hX, decide_eq_true (by omega : ((l.length : Nat) : Int) > 40)]
    exact .bind (x := false) (.ff rfl (.pure _)) (.bind (x := false) (.ff rfl (.pure _)) (.tt rfl (.pure _)))
  · rw [if_neg hX, decide_eq_false (by omega : ¬ ((l.length : Nat) : Int) > 40)]
    refine .bind (.tt rfl (ev_isWhole w (by omega))) ?_
    have hwd : (digB w && (decide (w.length = 1) || decide (w.head? ≠ some 48))) = wholeL w := rfl
    rw [hwd]
    unfold rtc
    cases hw : wholeL w with
    | false =>
      exact .bind (x := false) (.ff rfl (.pure _)) (.tt rfl (.pure _))
    | true =>
      cases has with
      | false =>
        have hf := hno rfl
        subst hf
        refine .bind (x := false) (.ff rfl (.pure _)) (.ff rfl (.ret ?_ rfl))
        exact ev_aread neg w [] (dg_both (has := false) hw rfl (fun _ => rfl)) (by simp; omega)
      | true =>
        refine .bind (.tt rfl (ev_kDigB f (by omega))) ?_
        cases hd : digB f with
        | false => exact .tt rfl (.pure _)
        | true =>
          by_cases h9 : f.length ≤ 9
          · rw [decide_eq_false (by omega : ¬ ((f.length : Nat) : Int) > 9), decide_eq_true h9]
            refine .ff rfl (.ret ?_ rfl)
            exact ev_aread neg w f (dg_both (has := true) hw (by rw [hd, decide_eq_true h9]; rfl) (fun z => by cases z)) (by rw [List.length_append]; omega)
          · rw [decide_eq_true (by omega : ((f.length : Nat) : Int) > 9), decide_eq_false h9]
            exact .tt rfl (.pure _)
/-! ### the implied point -/
end Go.Proofs.YtebdajjgicfcaaaGreatDoor.Eq
namespace Go.Proofs.YtebdajjgicfcaaaGreatDoor.Eq
open Go Go.Ra
set_option linter.unusedVariables false
/-- The text of a number below 0. -/
theorem ev_WTextN (n : Nat) (hn : 0 < n) (ha : Sm (-(n : Int))) : Ev (fun k => whole_Int_Text k (true, digs 4294967296 n)) (B (45 :: Lib.decDigits n)) := by
  have hlen := ha.len
  have hW : W (-(n : Int)) = (true, digs 4294967296 n) := by unfold W; simp; omega
  have hne := digs_ne (b := 4294967296) (by decide) hn
  rw [hW] at hlen
  simp only at hlen
  refine .step (fun k => whole_Int_Text_eq k _) ?_
  have hl0 : (((digs 4294967296 n).length : Int) == 0) = false := by
    have := List.length_pos_iff.2 hne
    simpa using hne
  refine .ff hl0 (.bind (ev_CloneU _ (by simp only; omega)) ?_)
  have key : ∀ (m c : Nat) (acc : List UInt8), c ≤ m → c ≤ n → acc.length + c ≤ acc.length + n → acc.length ≤ 1000 → acc ++ revDig c c = revDig n n → Ev (fun k => whole_Int_Text_c5 k (true, digs 4294967296 n) (bl acc) (digs 4294967296 c)) (B (45 :: Lib.decDigits n)) := by
    intro m
    induction m with
    | zero =>
      intro c acc h1 h2 _ h3 h4
      have : c = 0 := by omega
      subst this
      have e : acc = revDig n n := by simpa [revDig] using h4
      refine .step (fun k => whole_Int_Text_c5_eq k _ _ _) (.nk (by simp [digs_zero]) (.tt rfl (.ck (by rw [bl_len]; omega) (.bind (ev_ReverseB _ (by rw [List.length_append, bl_len]; simp; omega)) (.to (.pure _) ?_)))))
      have e45 : bl acc ++ [45] = bl (acc ++ [45]) := by rw [bl_app]; rfl
      rw [e45, bl_rev, strOf_bl, List.reverse_append, e, dec_rev n n (Nat.le_refl _) hn]
      rfl
    | succ m ih =>
      intro c acc h1 h2 _ h3 h4
      rcases Nat.eq_zero_or_pos c with rfl | hc
      · exact ih 0 acc (by omega) (by omega) (by omega) h3 h4
      · have hcn : (digs 4294967296 c).length ≤ 100 := by
          refine digs_len (by decide) 100 c (Nat.lt_of_le_of_lt h2 ?_)
          have := ha
          unfold Sm at this
          rw [Int.natAbs_neg, Int.natAbs_natCast] at this
          exact this
        have hcp := List.length_pos_iff.2 (digs_ne (b := 4294967296) (by decide) hc)
        refine .step (fun k => whole_Int_Text_c5_eq k _ _ _) (.ck (by omega) (ev_Text_c8 _ _ _ (dD c) (by omega) (by rw [bl_len]; omega) ?_))
        rw [dV c]
        have e1 : ((c : Int) / 10).toNat = c / 10 := by omega
        have e2 : bl acc ++ [48 + (c : Int) % 10] = bl (acc ++ [UInt8.ofNat (48 + c % 10)]) := by
          rw [bl_app]
          congr 1
          show _ = [((((UInt8.ofNat (48 + c % 10)).toNat : Nat)) : Int)]
          rw [dig_byte]
        rw [e1, e2]
        have hlen2 : acc.length + 1 ≤ (revDig n n).length := by
          rw [← h4, List.length_append, revDig_step hc]
          simp
        have hrl : (revDig n n).length ≤ 1000 := by
          have : (revDig n n).length = (Lib.decDigits n).length := by rw [← dec_rev n n (Nat.le_refl _) hn, List.length_reverse]
          rw [this, Lib.decDigits_length]
          refine nDig_le 1000 n (by decide) (Nat.lt_of_lt_of_le (m := 4294967296 ^ 100) ?_ (by decide +kernel))
          have := ha
          unfold Sm at this
          rw [Int.natAbs_neg, Int.natAbs_natCast] at this
          exact this
        refine ih (c / 10) _ (by omega) (by omega) (by omega) (by rw [List.length_append]; simp; omega) ?_
        rw [List.append_assoc, List.singleton_append, ← revDig_step hc]
        exact h4
  exact key n n [] (Nat.le_refl _) (Nat.le_refl _) (by omega) (by simp) (by simp)

theorem ev_WTextA (a : Int) (ha : Sm a) : Ev (fun k => whole_Int_Text k (W a)) (B (Lib.itoa a)) := by
  by_cases h : 0 ≤ a
  · exact ev_WText a ha h
  · obtain ⟨n, rfl⟩ : ∃ n : Nat, a = -(n : Int) := ⟨a.natAbs, by omega⟩
    have hW : W (-(n : Int)) = (true, digs 4294967296 n) := by unfold W; simp; omega
    have := ev_WTextN n (by omega) ha
    rw [hW]
    refine this.to ?_
    unfold Lib.itoa
    rw [if_pos (by omega)]
    have : (-(n : Int)).natAbs = n := by omega
    rw [this]
/-! ### decimals -/
theorem ev_norms : ∀ (n : Nat) (d s : Int × Int), okD d → d.2.toNat = n → ∃ y, Ev (fun k => interchangeref1_Normal_c1 k d s) y ∧ Ev (fun k => amount_Least_c1 k d s) y := by
  intro n
  induction n with
  | zero =>
    intro d s h hn
    have h2 := h.2.2.1
    exact ⟨d, .step (fun k => interchangeref1_Normal_c1_eq k _ _) (.tt (bor' fun _ => rfl) (.ff (by rw [decide_eq_false (by omega)]; rfl) (.pure _))), .step (fun k => amount_Least_c1_eq k _ _) (.tt (bor' fun _ => rfl) (.ff (by rw [decide_eq_false (by omega)]; rfl) (.pure _)))⟩
  | succ n ih =>
    intro d s h hn
    have h' := h
    unfold okD at h'
    cases hc : (cond (decide (d.2 > 0)) ((d.1.tmod 10) == 0) false) with
    | false => exact ⟨d, .step (fun k => interchangeref1_Normal_c1_eq k _ _) (.tt (bor' fun _ => rfl) (.ff hc (.pure _))), .step (fun k => amount_Least_c1_eq k _ _) (.tt (bor' fun _ => rfl) (.ff hc (.pure _)))⟩
    | true =>
      have hb : -1000000000000000 ≤ d.1.tdiv 10 ∧ d.1.tdiv 10 ≤ 1000000000000000 := by
        have := Int.natAbs_tdiv d.1 10
        have h3 : (d.1.tdiv 10).natAbs ≤ d.1.natAbs := by
          rw [Int.natAbs_tdiv]
          exact Nat.div_le_self _ _
        omega
      have e1 : wi64 (d.1.tdiv 10) = d.1.tdiv 10 := wi64_id (by omega) (by omega)
      have e2 : wi64 (d.2 - 1) = d.2 - 1 := wi64_id (by omega) (by omega)
      obtain ⟨y, y1, y2⟩ := ih (d.1.tdiv 10, d.2 - 1) s (by unfold okD; simp only; omega) (by simp only; omega)
      refine ⟨y, .step (fun k => interchangeref1_Normal_c1_eq k _ _) (.tt (bor' fun _ => rfl) (.tt hc ?_)), .step (fun k => amount_Least_c1_eq k _ _) (.tt (bor' fun _ => rfl) (.tt hc ?_))⟩
      · rw [e1, e2]; exact y1
      · rw [e1, e2]; exact y2
theorem ev_norm (d : Int × Int) (h : okD d) : ∃ y, Ev (fun k => interchangeref1_Normal k d) y ∧ Ev (fun k => amount_Least k d) y := by
  obtain ⟨y, y1, y2⟩ := ev_norms _ d (0, 0) h rfl
  exact ⟨y, .step (fun k => interchangeref1_Normal_eq k _) y1, .step (fun k => amount_Least_eq k _) y2⟩
theorem rtx_ok (l : List UInt8) (h : (rtx l).2 = 0) : okD (rtx l).1 := by
  unfold rtx rtc at *
  split
  · rename_i h1
    rw [if_pos h1] at h
    exact absurd h (by decide)
  · rename_i h1
    rw [if_neg h1] at h
    split
    · rename_i h2
      rw [if_pos h2, rdR_bad] at h
      rw [rdR_bad]
      have hf : (cutB (cutP l).1 46).2.1.length ≤ 9 := by
        cases hh : (cutB (cutP l).1 46).2.2 with
        | false => rw [cutB_no _ _ hh]; simp
        | true =>
          rw [hh] at h2
          simp only [Bool.not_true, Bool.false_or, Bool.and_eq_true, decide_eq_true_eq] at h2
          exact h2.2.2
      split
      · rename_i h3
        rw [if_pos h3] at h
        exact absurd h (by decide)
      · rename_i h3
        rw [if_neg h3] at h
        split
        · rename_i h4
          unfold okD
          simp only
          split <;> omega
        · rename_i h4
          rw [if_neg h4] at h
          exact absurd h (by decide)
    · rename_i h2
      rw [if_neg h2] at h
      exact absurd h (by decide)
/-! ### plain texts -/
def prB (b : UInt8) : Bool := decide ((32 : Int) ≤ (b.toNat : Int)) && decide ((b.toNat : Int) ≤ 126)
theorem dropW_self {p : UInt8 → Bool} : ∀ {l : List UInt8}, l.dropWhile p = l → ∀ b, l.head? = some b → p b = false
  | [], _, _, h => by cases h
  | x :: l, h, b, hb => by
    have e : x = b := by simpa using hb
    subst e
    cases hp : p x with
    | false => rfl
    | true =>
      rw [List.dropWhile_cons_of_pos hp] at h
      have := congrArg List.length h
      have h2 := (List.dropWhile_sublist p (l := l)).length_le
      simp at this
      omega
theorem dropW_id {p : UInt8 → Bool} : ∀ {l : List UInt8}, (∀ b, l.head? = some b → p b = false) → l.dropWhile p = l
  | [], _ => rfl
  | x :: l, h => by
    have := h x rfl
    rw [List.dropWhile_cons, this]
    rfl
theorem trim_self (l cs : List UInt8) : Lib.trimS l cs = l ↔ (∀ b, l.head? = some b → cs.contains b = false) ∧ (∀ b, l.getLast? = some b → cs.contains b = false) := by
  unfold Lib.trimS Lib.trimLeftS Lib.trimRightS
  constructor
  · intro h
    have l1 := (List.dropWhile_sublist (cs.contains ·) (l := (l.reverse.dropWhile (cs.contains ·)).reverse)).length_le
    have l2 := (List.dropWhile_sublist (cs.contains ·) (l := l.reverse)).length_le
    rw [h] at l1
    rw [List.length_reverse] at l1 l2
    have e1 : l.reverse.dropWhile (cs.contains ·) = l.reverse := List.Sublist.eq_of_length (List.dropWhile_sublist _) (by rw [List.length_reverse]; omega)
    rw [e1, List.reverse_reverse] at h
    refine ⟨dropW_self h, fun b hb => dropW_self e1 b ?_⟩
    rw [List.head?_reverse]
    exact hb
  · rintro ⟨h1, h2⟩
    have e1 : l.reverse.dropWhile (cs.contains ·) = l.reverse := dropW_id fun b hb => h2 b (by rw [List.head?_reverse] at hb; exact hb)
    rw [e1, List.reverse_reverse]
    exact dropW_id h1
def plB (l : List UInt8) : Bool := l.all prB && ((l.getD 0 0 != 32) && (l.getD (l.length - 1) 0 != 32))
theorem ev_Trim32 (s : ByteArray) (hs : s.size < 1125899906842624) : Ev (fun k => strings_Trim k s (bs [32])) (B (Lib.trimS (L s) [32])) := by
  refine .off (n := 0) fun k => ?_
  rw [strings_Trim_eq, decide_eq_true (by omega)]
  rfl
theorem plB_eq (l : List UInt8) (h0 : 0 < l.length) : plB l = (l.all prB && decide (Lib.trimS l [32] = l)) := by
  unfold plB
  congr 1
  have hc : ∀ b : UInt8, [32].contains b = (b == 32) := fun b => by by_cases h : b = 32 <;> simp [h]
  have hh : l.head? = some (l.getD 0 0) := by
    cases l with
    | nil => simp at h0
    | cons x l => rfl
  have hl : l.getLast? = some (l.getD (l.length - 1) 0) := by
    rw [List.getLast?_eq_getElem?, List.getD_eq_getElem?_getD, List.getElem?_eq_getElem (by omega)]
    rfl
  by_cases h : Lib.trimS l [32] = l
  · rw [decide_eq_true h]
    obtain ⟨h1, h2⟩ := (trim_self l [32]).1 h
    have q1 := h1 _ hh
    have q2 := h2 _ hl
    rw [hc] at q1 q2
    unfold bne
    rw [q1, q2]
    rfl
  · rw [decide_eq_false h]
    cases hb : ((l.getD 0 0 != 32) && (l.getD (l.length - 1) 0 != 32)) with
    | false => rfl
    | true =>
      refine absurd ((trim_self l [32]).2 ⟨fun b hb1 => ?_, fun b hb1 => ?_⟩) h
      · rw [hh] at hb1
        have e := Option.some.inj hb1
        rw [← e, hc]
        unfold bne at hb
        simp only [Bool.and_eq_true, Bool.not_eq_true'] at hb
        exact hb.1
      · rw [hl] at hb1
        have e := Option.some.inj hb1
        rw [← e, hc]
        unfold bne at hb
        simp only [Bool.and_eq_true, Bool.not_eq_true'] at hb
        exact hb.2
theorem ev_aPlain (s : ByteArray) (hs : s.size < 1125899906842624) (h0 : 0 < s.size) : Ev (fun k => (kit_InBytes k s 32 126).bind fun y3 => (cond y3 (strings_Trim k s (bs [32])) (some (bs []))).bind fun y4 => some (cond y3 (eqS y4 s) false)) (plB (L s)) := by
  have hsz := size_L s
  rw [plB_eq (L s) (by omega)]
  refine .bind (ev_InBytes s 32 126 hs) ?_
  have e : ((L s).all fun b => decide ((32 : Int) ≤ (b.toNat : Int)) && decide ((b.toNat : Int) ≤ 126)) = (L s).all prB := rfl
  rw [e]
  cases (L s).all prB with
  | false => exact .bind (x := bs []) (.ff rfl (.pure _)) (.pure _)
  | true =>
    refine .bind (.tt rfl (ev_Trim32 s hs)) (.to (.pure _) ?_)
    show eqS (B (Lib.trimS (L s) [32])) s = (true && decide (Lib.trimS (L s) [32] = L s))
    rw [eqS_L, L_B, Bool.true_and]
/-! ### days -/
theorem ev_day (l : List UInt8) (hl : l.length ≤ 140737488351232) : ∃ t, Ev (fun k => interchangeref1_ReadDay k (B l) 1 1) t ∧ Ev (fun k => amount_ReadDay k (B l) 1 1) t ∧ (t.2 = 0 → 1 ≤ t.1 ∧ t.1 ≤ 3652059) := by
  obtain ⟨h1, r, h2, h3⟩ := ev_rd1T l 1 (by decide) hl
  refine ⟨_, h1, .step (fun k => amount_ReadDay_eq k _ _ _) (.bind (.step (fun k => amount_isForm_eq k _) (.bind (ev_outF _ _ _) (.pure _))) (.ff rfl (.bind (ev_outF _ _ _) (.ff rfl (.bind h2 ?_))))), fun h => ?_⟩
  · rw [← h3]
    unfold fA
    cases hr : r.2 with
    | true => exact .ff rfl (.pure _)
    | false => exact .tt rfl (.pure _)
  · split
    · rename_i h8
      rw [if_pos h8] at h
      unfold finD at *
      split
      · rename_i hok
        exact (okDt_ok hok).bound
      · rename_i hok
        rw [if_neg hok] at h
        exact absurd h (by decide)
    · rename_i h8
      rw [if_neg h8] at h
      exact absurd h (by decide)
theorem ev_dayTx {n form : Int} (hn : 1 ≤ n ∧ n ≤ 3652059) (hf : (wOf form == 0) = false) : ∃ w : ByteArray, Ev (fun k => interchangeref1_DayText k n form) (w, 0) ∧ Ev (fun k => amount_DayText k n form) (w, 0) ∧ (w.size : Int) = wOf form := by
  obtain ⟨t, h1, rfl⟩ := Dt.ex hn.1 hn.2
  have h3 := thu_in hn.1 hn.2
  obtain ⟨v, h4, h5⟩ := Dt.ex h3.1 h3.2
  have z := szs h1 h4 h5
  have s1 := pad_size z.y4
  have s3 := pad_size z.m2
  have s4 := pad_size z.d2
  have s5 := pad_size z.v4
  have s6 := pad_size z.w2
  have s7 := pad_size z.e1
  have s8 : (bs [45]).size = 1 := rfl
  have hfr : 1 ≤ form ∧ form ≤ 5 ∧ form ≠ 2 := by
    rw [wOf_zero] at hf
    unfold inB at hf
    simp at hf
    omega
  refine ⟨_, ev_rDayText h1 h4 h5 ⟨hfr.1, hfr.2.1⟩, ev_aDayText h1 h4 h5 ⟨hfr.1, hfr.2.1⟩, ?_⟩
  unfold dtx wOf
  by_cases f1 : form = 1
  · subst f1
    show (((pad t.y 4 ++ pad t.m 2) ++ pad t.d 2).size : Int) = 8
    rw [ByteArray.size_append, ByteArray.size_append]
    omega
  by_cases f3 : form = 3
  · subst f3
    show (((pad t.d 2 ++ pad t.m 2) ++ pad t.y 4).size : Int) = 8
    rw [ByteArray.size_append, ByteArray.size_append]
    omega
  by_cases f4 : form = 4
  · subst f4
    show (((((pad t.y 4 ++ bs [45]) ++ pad t.m 2) ++ bs [45]) ++ pad t.d 2).size : Int) = 10
    rw [ByteArray.size_append, ByteArray.size_append, ByteArray.size_append, ByteArray.size_append]
    omega
  have f5 : form = 5 := by omega
  subst f5
  show (((pad v.y 4 ++ pad (wk v.y t.n) 2) ++ pad ((t.n - 1) % 7 + 1) 1).size : Int) = 7
  rw [ByteArray.size_append, ByteArray.size_append]
  omega
end Go.Proofs.YtebdajjgicfcaaaGreatDoor.Eq
namespace Go.Proofs.YtebdajjgicfcaaaGreatDoor.Eq
open Go Go.Ra
set_option linter.unusedVariables false
/-- A column without a fault. -/
structure ColOk (m : Int) (b : Col) : Prop where
  ty : b.2.1 = 1 ∨ b.2.1 = 2 ∨ b.2.1 = 3
  w1 : 1 ≤ b.2.2.1
  w2 : b.2.2.1 ≤ 100
  pl : b.2.1 = 2 → 0 ≤ b.2.2.2.1 ∧ b.2.2.2.1 ≤ 9
  fm : b.2.1 = 3 → (wOf b.2.2.2.2.1 == 0) = false
  idle : busy m b = false
  wd : m = 0 → b.2.1 = 3 → b.2.2.1 = wOf b.2.2.2.2.1
  pd : m = 0 → b.2.1 ≠ 3 → b.2.2.2.2.2.2.1 = 32 ∨ (b.2.2.2.2.2.2.1 = 48 ∧ b.2.2.2.2.2.1 = true)
theorem cond0 {c : Bool} {x y : Int} (hx : x ≠ 0) (h : cond c x y = 0) : c = false ∧ y = 0 := by
  cases c with
  | true => exact absurd h hx
  | false => exact ⟨rfl, h⟩
theorem inB_iff {a b c : Int} : inB a b c = true ↔ b ≤ a ∧ a ≤ c := by unfold inB; simp
theorem not_f {a : Bool} (h : (!a) = false) : a = true := by cases a <;> trivial
theorem colF_ok {m : Int} {own : Bool} {b : Col} (h : colF m own b = 0) : ColOk m b := by
  unfold colF at h
  obtain ⟨_, h⟩ := cond0 (by decide) h
  obtain ⟨_, h⟩ := cond0 (by decide) h
  obtain ⟨h1, h⟩ := cond0 (by decide) h
  obtain ⟨h2, h⟩ := cond0 (by decide) h
  obtain ⟨h3, h⟩ := cond0 (by decide) h
  obtain ⟨h4, h⟩ := cond0 (by decide) h
  obtain ⟨h5, h⟩ := cond0 (by decide) h
  have t1 := inB_iff.1 (not_f h1)
  have t2 := inB_iff.1 (not_f h2)
  refine ⟨by omega, t2.1, t2.2, fun z => ?_, fun z => ?_, h5, fun z z3 => ?_, fun z z3 => ?_⟩
  · rw [z] at h3
    exact inB_iff.1 (not_f (by simpa using h3))
  · rw [z] at h4
    simpa using h4
  · rw [z, z3] at h
    simp at h
    by_cases e : b.2.2.1 = wOf b.2.2.2.2.1
    · exact e
    · rw [show (b.2.2.1 != wOf b.2.2.2.2.1) = true by simpa using e] at h
      exact absurd h (by decide)
  · have e3 : (b.2.1 == 3) = false := by simpa using z3
    rw [z, e3] at h
    obtain ⟨h6, _⟩ := cond0 (c := (!(b.2.2.2.2.2.2.1 == 32) && !((b.2.1 == 2) && (b.2.2.2.2.2.2.1 == 48) && b.2.2.2.2.2.1))) (x := 3) (y := 0) (by decide) h
    by_cases e : b.2.2.2.2.2.2.1 = 32
    · exact .inl e
    · have e' : (b.2.2.2.2.2.2.1 == 32) = false := by simpa using e
      rw [e'] at h6
      have h7 : ((b.2.1 == 2) && (b.2.2.2.2.2.2.1 == 48) && b.2.2.2.2.2.1) = true := not_f (by simpa using h6)
      simp at h7
      exact .inr ⟨h7.1.2, h7.2⟩
theorem ne_size {c : ByteArray} (h : eqS c (bs []) = false) : 0 < c.size := by
  rcases Nat.eq_zero_or_pos c.size with h0 | h0
  · have hl : (L c).length = 0 := by have := size_L c; omega
    have : L c = [] := List.eq_nil_of_length_eq_zero hl
    rw [eqS_nil, this] at h
    cases h
  · exact h0
/-- A value that may stand in a line. -/
def ValOk (a : Fmt) (b : Col) (c : ByteArray) : Prop :=
  ∃ w : ByteArray, Ev (fun k => interchangeref6_written k a b c) w ∧ Ev (fun k => flat_written k a b c) w ∧ (w.size : Int) ≤ b.2.2.1 ∧ (eqS c (bs []) = true → w = bs []) ∧ (eqS c (bs []) = false → b.2.1 = 3 → (w.size : Int) = wOf b.2.2.2.2.1) ∧ (eqS c (bs []) = false → b.2.1 = 2 → (rtx (L c)).2 = 0)
end Go.Proofs.YtebdajjgicfcaaaGreatDoor.Eq
namespace Go.Proofs.YtebdajjgicfcaaaGreatDoor.Eq
open Go Go.Ra
set_option linter.unusedVariables false
/-- A format without a fault. -/
structure FmtOk (a : Fmt) : Prop where
  m12 : mk12 a.1 a.2.1 = false
  m3 : mk3 a.1 a.2.1 = false
  tag : ∀ kd ∈ a.2.2.1, kd.1.size ≤ 6
  tag1 : ∀ kd ∈ a.2.2.1, 1 ≤ kd.1.size
  len : ∀ kd ∈ a.2.2.1, kd.2.1.length ≤ 50
  col : ∀ kd ∈ a.2.2.1, ∀ b ∈ kd.2.1, ColOk a.1 b
theorem fmt_ok {a : Fmt} (h : fmtF a = 0) : FmtOk a := by
  unfold fmtF at h
  obtain ⟨h1, h⟩ := cond0 (by decide) h
  obtain ⟨h2, h⟩ := cond0 (by decide) h
  obtain ⟨_, h⟩ := cond0 (by decide) h
  obtain ⟨_, h⟩ := cond0 (by decide) h
  obtain ⟨h3, _⟩ := nz_zero h
  have key : ∀ kd ∈ a.2.2.1, (1 ≤ kd.1.size ∧ kd.1.size ≤ 6) ∧ kd.2.1.length ≤ 50 ∧ ∀ b ∈ kd.2.1, ColOk a.1 b := by
    intro kd hkd
    obtain ⟨i, hi, rfl⟩ := List.getElem_of_mem hkd
    have hk := h3 i (Nat.zero_le _) (by omega)
    rw [getD_nat hi] at hk
    generalize a.2.2.1[i] = kd at *
    unfold kndF at hk
    obtain ⟨k1, hk⟩ := cond0 (by decide) hk
    obtain ⟨_, hk⟩ := cond0 (by decide) hk
    obtain ⟨_, hk⟩ := cond0 (by decide) hk
    obtain ⟨k2, hk⟩ := cond0 (by decide) hk
    obtain ⟨k3, _⟩ := nz_zero hk
    have k1' := not_f k1
    unfold tagB at k1'
    rw [Bool.and_eq_true] at k1'
    have := inB_iff.1 k1'.1
    have k2' := of_decide_eq_false k2
    refine ⟨⟨by omega, by omega⟩, by omega, fun b hb => ?_⟩
    obtain ⟨j, hj, rfl⟩ := List.getElem_of_mem hb
    have := k3 j (Nat.zero_le _) (by omega)
    unfold colAt at this
    rw [getD_nat hj] at this
    exact colF_ok this
  exact ⟨h1, h2, fun kd h => (key kd h).1.2, fun kd h => (key kd h).1.1, fun kd h => (key kd h).2.1, fun kd h => (key kd h).2.2⟩
/-- What memory says of a row's sizes. -/
structure FitR (b : Row) : Prop where
  n : b.2.length < 1125899906842624
  s : ∀ c ∈ b.2, c.size ≤ 140737488351232
/-- What a checked row is. -/
def RowOk (a : Fmt) (b : Row) : Prop := ∃ i : Nat, ∃ hi : i < a.2.2.1.length, kOf a.2.2.1 b.1 = i ∧ b.2.length = (a.2.2.1[i]).2.1.length ∧ ∀ j (hj : j < b.2.length) (hj' : j < (a.2.2.1[i]).2.1.length), ValOk a ((a.2.2.1[i]).2.1[j]) (b.2[j])
theorem kAt_at {ks : List Knd} {t : ByteArray} {i : Nat} (hi : i < ks.length) (h : kOf ks t = i) : kAt ks t = (ks[i], true) := by
  unfold kAt
  rw [if_pos (by omega), h, getD_at hi]
theorem kAt_no {ks : List Knd} {t : ByteArray} (h : kOf ks t < 0) : kAt ks t = (knd0, false) := by
  unfold kAt
  rw [if_neg (by omega)]
theorem len_eq (n m : Nat) : ((n : Int) != (m : Int)) = decide (n ≠ m) := by
  by_cases h : n = m
  · subst h; simp
  · rw [decide_eq_true h]
    have : (n : Int) ≠ (m : Int) := by omega
    simpa using this
/-! ### lines -/
/-! ### marked lines -/
end Go.Proofs.YtebdajjgicfcaaaGreatDoor.Eq
namespace Go.Proofs.YtebdajjgicfcaaaGreatDoor.Eq
open Go Go.Ra
theorem awakeF_at (k : Nat) : interchangelaw6_awake (k + 64) = some true := by kernel_rfl
theorem ev_awakeF : Ev (fun k => interchangelaw6_awake k) true := .off (n := 64) awakeF_at
end Go.Proofs.YtebdajjgicfcaaaGreatDoor.Eq
namespace Go.Proofs.YtebdajjgicfcaaaGreatDoor.Eq
open Go Go.Ra
set_option linter.unusedVariables false
abbrev row0 : Row := (bs [], [])
theorem row_eta (r : Row) : (r.1, r.2) = r := rfl
/-- What memory says of rows' sizes. -/
structure FitRs (l : List Row) : Prop where
  n : l.length < 1125899906842624
  r : ∀ r ∈ l, FitR r
/-! ### a column -/
theorem dropR {l : List Row} {i : Nat} (hi : i < l.length) : l.drop i = l[i] :: l.drop (i + 1) := List.drop_eq_getElem_cons hi
theorem ev_eqTexts (l : List ByteArray) (hn : l.length < 1125899906842624) : Ev (fun k => slices_Equal_Lstring_string k l l) true := by
  refine .step (fun k => slices_Equal_Lstring_string_eq k _ _) (.ff (by simp) ?_)
  refine ev_up l.length (fun _ => true) (fun k i => slices_Equal_Lstring_string_c4 k l l (l.length : Int) i) (fun i hi h => ?_) ?_
  · refine .step (fun k => slices_Equal_Lstring_string_c4_eq k _ _ _ _) (.ck (by omega) (.ck (by omega) (.ck (by omega) (.ck (by omega) (.ck (by omega) (.ff (by rw [eqS_self]; rfl) ?_))))))
    rw [wj hi hn]
    exact h
  · exact .step (fun k => slices_Equal_Lstring_string_c4_eq k _ _ _ _) (.nk (by omega) (.pure _))
/-! ### its sum -/
/-- The fewest places. -/
def fwF : Nat → Int → (Int × Int) × Int
  | 0, S => mk S 0
  | n + 1, S => if S.natAbs % 10 = 0 then fwF n (if S < 0 then -((S.natAbs / 10 : Nat) : Int) else ((S.natAbs / 10 : Nat) : Int)) else mk S ((n + 1 : Nat) : Int)
theorem ev_fewest (s4 : Int × Int) : ∀ (n : Nat) (S : Int), n ≤ 9 → Sm S → Ev (fun k => amount_Fewest_c2 k (n : Int) (W S) s4 (W 10)) (fwF n S)
  | 0, S, _, hS => .step (fun k => amount_Fewest_c2_eq k _ _ _ _) (.nk (by omega) (.ret (ev_Made S 0) rfl))
  | n + 1, S, hn, hS => by
    have h10 : Sm 10 := .of (by decide)
    have hb := ev_By S 10 hS h10 (by decide)
    have e10 : (10 : Int).natAbs = 10 := rfl
    rw [e10] at hb
    refine .step (fun k => amount_Fewest_c2_eq k _ _ _ _) (.ck (by omega) (.bind hb (.bind (ev_Sign _) ?_)))
    unfold fwF
    by_cases h : S.natAbs % 10 = 0
    · rw [if_pos h, h]
      have hw : wi64 (((n + 1 : Nat) : Int) - 1) = (n : Int) := by rw [wi64_id (by omega) (by omega)]; omega
      have hq : Sm ((S.natAbs / 10 : Nat) : Int) := by
        unfold Sm at *
        rw [Int.natAbs_natCast]
        omega
      refine .ff rfl (.bind (ev_Sign _) ?_)
      rw [hw]
      by_cases hs : S < 0
      · rw [if_pos hs]
        refine .ck (by rw [Int.sign_eq_neg_one_of_neg hs]; decide) (.bind (ev_Minus _ hq) (ev_fewest s4 n _ (by omega) ?_))
        unfold Sm at *
        rw [Int.natAbs_neg]
        exact hq
      · rw [if_neg hs]
        refine .nk ?_ (ev_fewest s4 n _ (by omega) hq)
        have := Int.sign_nonneg_iff.2 (Int.not_lt.1 hs)
        omega
    · rw [if_neg h]
      refine .tt ?_ (.ret (ev_Made S _) rfl)
      have : (((S.natAbs % 10 : Nat) : Int)).sign ≠ 0 := by
        rw [ne_eq, Int.sign_eq_zero_iff_zero]
        omega
      simpa using this
theorem Ev.uniq {α : Type} {f : Nat → Option α} {x y : α} (h1 : Ev f x) (h2 : Ev f y) : x = y := by
  obtain ⟨K, hK⟩ := h1
  obtain ⟨M, hM⟩ := h2
  have a := hK (K + M) (by omega)
  rw [hM (K + M) (by omega)] at a
  exact (Option.some.inj a).symm
/-- The sum of decimals, in units of the ninth place. -/
def sumL : List ByteArray → Int
  | [] => 0
  | v :: l => (if eqS v (bs []) = true then 0 else sc (rtx (L v)).1 9) + sumL l
theorem sumL_cons (v : ByteArray) (l : List ByteArray) : sumL (v :: l) = (if eqS v (bs []) = true then 0 else sc (rtx (L v)).1 9) + sumL l := rfl
/-- A list of decimals that were checked. -/
def DecL (l : List ByteArray) : Prop := ∀ v ∈ l, v.size ≤ 140737488351232 ∧ (eqS v (bs []) = false → (rtx (L v)).2 = 0)
theorem txL_small {d : Int × Int} (h : okD d) : (txL d).length ≤ 140737488351232 := by
  have hb := bef_len h
  have hh := behL_len d.1.natAbs d.2.toNat
  unfold okD at h
  unfold txL
  simp only [List.length_append]
  split <;> split <;> simp <;> omega
end Go.Proofs.YtebdajjgicfcaaaGreatDoor.Eq
namespace Go.Proofs.YtebdajjgicfcaaaGreatDoor.Eq
open Go Go.Ra
set_option linter.unusedVariables false
/-! ### shapes -/
/-! ### rows -/
theorem ev_same (l : List Row) (hl : FitRs l) : Ev (fun k => interchangeref6_Same k l l) true := by
  have hn := hl.n
  refine .step (fun k => interchangeref6_Same_eq k _ _) (.ff (by simp) ?_)
  refine ev_up l.length (fun _ => true) (fun k i => interchangeref6_Same_c4 k l l (l.length : Int) i) (fun i hi h => ?_) ?_
  · refine .step (fun k => interchangeref6_Same_c4_eq k _ _ _ _) (.ck (by omega) (.ck (by omega) (.ck (by omega) (.ck (by omega) (.ck (by omega) ?_)))))
    rw [getD_at hi, wj hi hn]
    refine .tt (bor' fun _ => by simp) (.tt (bor' fun _ => by simp; omega) (.tt (bor' fun _ => by simp) (.tt (bor' fun _ => by simp; omega) (.bind (x := true) (.tt (by simp [eqS_self]) (ev_eqTexts _ (hl.r _ (List.getElem_mem hi)).n)) (.ff (by simp [eqS_self]) h)))))
  · exact .step (fun k => interchangeref6_Same_c4_eq k _ _ _ _) (.nk (by omega) (.pure _))
end Go.Proofs.YtebdajjgicfcaaaGreatDoor.Eq
namespace Go.Proofs.YtebdajjgicfcaaaGreatDoor.Eq
open Go Go.Ra
end Go.Proofs.YtebdajjgicfcaaaGreatDoor.Eq
namespace Go.Proofs.YtebdajjgicfcaaaGreatDoor.Eq
open Go Go.Ra
set_option linter.unusedVariables false
end Go.Proofs.YtebdajjgicfcaaaGreatDoor.Eq
namespace Go.Proofs.YtebdajjgicfcaaaGreatDoor.Eq
open Go Go.Ra
set_option linter.unusedVariables false
/-- A value of a column's type. -/
structure IsV (b : Col) (c : ByteArray) : Prop where
  num : b.2.1 = 2 → (rtx (L c)).2 = 0 ∧ (rtx (L c)).1.2 ≤ b.2.2.2.1 ∧ Ev (fun k => amount_Least k (rtx (L c)).1) (rtx (L c)).1
  day : b.2.1 = 3 → ∃ n : Int, (1 ≤ n ∧ n ≤ 3652059) ∧ Ev (fun k => amount_ReadDay k c 1 1) (n, 0)
  txt : b.2.1 ≠ 2 → b.2.1 ≠ 3 → plB (L c) = true
theorem ev_isVal (b : Col) (c : ByteArray) (hc : c.size ≤ 140737488351232) (hne : eqS c (bs []) = false) : ∃ t : Bool, Ev (fun k => flat_isValue k b c) t ∧ (t = true ↔ IsV b c) := by
  have hsz := size_L c
  have h0 := ne_size hne
  by_cases h2 : b.2.1 = 2
  · have e2 : (b.2.1 == 2) = true := by simpa using h2
    have ha := ev_aRead (L c) (by omega)
    rw [B_L] at ha
    cases hz : ((rtx (L c)).2 == 0) with
    | false =>
      refine ⟨false, .step (fun k => flat_isValue_eq k _ _) (.tt e2 (.bind ha ?_)), (fun z => by cases z), fun z => ?_⟩
      · rw [hz]; exact .bind (x := (0, 0)) (.ff rfl (.pure _)) (.pure _)
      · rw [(z.num h2).1] at hz
        cases hz
    | true =>
      have hz' : (rtx (L c)).2 = 0 := by simpa using hz
      obtain ⟨y, y1, y2⟩ := ev_norm _ (rtx_ok _ hz')
      by_cases hp : (rtx (L c)).1.2 ≤ b.2.2.2.1
      · refine ⟨(y.1 == (rtx (L c)).1.1) && ((y.2 == (rtx (L c)).1.2) && true), .step (fun k => flat_isValue_eq k _ _) (.tt e2 (.bind ha ?_)), fun z => ⟨fun _ => ⟨hz', hp, ?_⟩, fun q => by omega, fun q => absurd h2 q⟩, fun z => ?_⟩
        · rw [hz, decide_eq_true hp]
          exact .bind (.tt rfl y2) (.pure _)
        · have e : y = (rtx (L c)).1 := by
            simp at z
            exact Prod.ext z.1 z.2
          rw [e] at y2
          exact y2
        · have e := Ev.uniq y2 (z.num h2).2.2
          rw [e]
          simp
      · refine ⟨false, .step (fun k => flat_isValue_eq k _ _) (.tt e2 (.bind ha ?_)), (fun z => by cases z), fun z => absurd (z.num h2).2.1 hp⟩
        rw [hz, decide_eq_false hp]
        exact .bind (x := (0, 0)) (.ff rfl (.pure _)) (.pure _)
  · have e2 : (b.2.1 == 2) = false := by simpa using h2
    by_cases h3 : b.2.1 = 3
    · have e3 : (b.2.1 == 3) = true := by simpa using h3
      obtain ⟨t, t1, t2, t3⟩ := ev_day (L c) (by omega)
      rw [B_L] at t1 t2
      refine ⟨t.2 == 0, .step (fun k => flat_isValue_eq k _ _) (.ff e2 (.tt e3 (.bind t2 (.pure _)))), fun z => ⟨fun q => absurd q h2, fun _ => ⟨t.1, ?_⟩, fun _ q => absurd h3 q⟩, fun z => ?_⟩
      · have hz : t.2 = 0 := by simpa using z
        have ht : t = (t.1, 0) := by rw [← hz]
        rw [ht] at t2
        exact ⟨t3 hz, t2⟩
      · obtain ⟨n, _, n2⟩ := z.day h3
        rw [Ev.uniq t2 n2]
        rfl
    · have e3 : (b.2.1 == 3) = false := by simpa using h3
      exact ⟨_, .step (fun k => flat_isValue_eq k _ _) (.ff e2 (.ff e3 (ev_aPlain c (by omega) h0))), fun z => ⟨fun q => absurd q h2, fun q => absurd q h3, fun _ _ => z⟩, fun z => z.txt h2 h3⟩
theorem ev_wrF (a : Fmt) (b : Col) (hb : ColOk a.1 b) (c : ByteArray) (hc : c.size ≤ 140737488351232) (hne : eqS c (bs []) = false) (hv : IsV b c) :
    ∃ w : ByteArray, Ev (fun k => flat_written k a b c) w ∧ (b.2.1 = 3 → (w.size : Int) = wOf b.2.2.2.2.1) ∧ (b.2.1 ≠ 3 → b.2.1 ≠ 2 → w = c) ∧ (b.2.1 = 2 → a.1 ≠ 0 → w = c) ∧ (b.2.1 = 2 → a.1 = 0 → w = B (Lib.itoa (sc (rtx (L c)).1 b.2.2.2.1))) := by
  have hsz := size_L c
  rcases hb.ty with t1 | t2 | t3
  · have e2 : (b.2.1 == 2) = false := by rw [t1]; rfl
    have e3 : (b.2.1 == 3) = false := by rw [t1]; rfl
    exact ⟨c, .step (fun k => flat_written_eq k _ _ _) (.ff hne (.ff (by rw [e2]; rfl) (.ff e3 (.pure _)))), fun z => by omega, fun _ _ => rfl, fun _ _ => rfl, fun z => by omega⟩
  · have e2 : (b.2.1 == 2) = true := by simpa using t2
    have e3 : (b.2.1 == 3) = false := by rw [t2]; rfl
    by_cases hm : a.1 = 0
    · obtain ⟨hz, hp, _⟩ := hv.num t2
      have hok := rtx_ok _ hz
      have hpl := hb.pl t2
      have ha := ev_aRead (L c) (by omega)
      rw [B_L] at ha
      have hsm : Sm (sc (rtx (L c)).1 b.2.2.2.1) := .of (Nat.le_trans (sc_abs hok (by omega)) (Nat.pow_le_pow_right (by decide) (by decide)))
      exact ⟨B (Lib.itoa (sc (rtx (L c)).1 b.2.2.2.1)), .step (fun k => flat_written_eq k _ _ _) (.ff hne (.tt (by rw [e2, hm]; rfl) (.bind ha (.bind (ev_Scaled _ _ hok hp (by omega)) (.ret (ev_WTextA _ hsm) rfl))))), fun z => by omega, fun _ z => absurd t2 z, fun _ z => absurd hm z, fun _ _ => rfl⟩
    · have hm' : (a.1 == 0) = false := by simpa using hm
      exact ⟨c, .step (fun k => flat_written_eq k _ _ _) (.ff hne (.ff (by rw [e2, hm']; rfl) (.ff e3 (.pure _)))), fun z => by omega, fun _ _ => rfl, fun _ _ => rfl, fun _ z => absurd z hm⟩
  · have e2 : (b.2.1 == 2) = false := by rw [t3]; rfl
    have e3 : (b.2.1 == 3) = true := by simpa using t3
    obtain ⟨n, hn, n2⟩ := hv.day t3
    obtain ⟨w, w1, w2, w3⟩ := ev_dayTx hn (hb.fm t3)
    exact ⟨w, .step (fun k => flat_written_eq k _ _ _) (.ff hne (.ff (by rw [e2]; rfl) (.tt e3 (.bind n2 (.bind w2 (.pure _)))))), fun _ => w3, fun z => absurd t3 z, fun z => by omega, fun z => by omega⟩
/-- A value that is right in a column. -/
structure VF (a : Fmt) (b : Col) (c : ByteArray) : Prop where
  need : eqS c (bs []) = true → b.2.2.2.2.2.2.2 = false
  isV : eqS c (bs []) = false → IsV b c
  len : eqS c (bs []) = false → ∀ w : ByteArray, Ev (fun k => flat_written k a b c) w → (w.size : Int) ≤ b.2.2.1
  bar : eqS c (bs []) = false → a.1 ≠ 0 → a.2.1 = 0 → Lib.indexByte (L c) a.1.toNat.toUInt8 < 0
theorem ev_vf (a : Fmt) (b : Col) (hb : ColOk a.1 b) (c : ByteArray) (hc : c.size ≤ 140737488351232) : ∃ f : Int, Ev (fun k => flat_valueFault k a b c) f ∧ (f = 0 ↔ VF a b c) := by
  cases he : eqS c (bs []) with
  | true =>
    cases hr : b.2.2.2.2.2.2.2 with
    | true =>
      refine ⟨13, .step (fun k => flat_valueFault_eq k _ _ _) (.tt (by rw [he, hr]; rfl) (.pure _)), fun z => absurd z (by decide), fun z => ?_⟩
      have := z.need he
      rw [hr] at this
      cases this
    | false => exact ⟨0, .step (fun k => flat_valueFault_eq k _ _ _) (.ff (by rw [he, hr]; rfl) (.tt he (.pure _))), fun _ => ⟨fun _ => hr, (fun z => by rw [he] at z; cases z), (fun z => by rw [he] at z; cases z), (fun z => by rw [he] at z; cases z)⟩, fun _ => rfl⟩
  | false =>
    obtain ⟨t, t1, t2⟩ := ev_isVal b c hc he
    cases t with
    | false =>
      refine ⟨6, .step (fun k => flat_valueFault_eq k _ _ _) (.ff (by rw [he]; rfl) (.ff he (.bind t1 (.pure _)))), fun z => absurd z (by decide), fun z => ?_⟩
      have := t2.2 (z.isV he)
      cases this
    | true =>
      have hv := t2.1 rfl
      obtain ⟨w, w1, _⟩ := ev_wrF a b hb c hc he hv
      by_cases hw : (w.size : Int) > b.2.2.1
      · refine ⟨16, .step (fun k => flat_valueFault_eq k _ _ _) (.ff (by rw [he]; rfl) (.ff he (.bind t1 (.ff rfl (.bind w1 (.ck hw (.pure _))))))), fun z => absurd z (by decide), fun z => ?_⟩
        have := z.len he w w1
        omega
      · have hlen : ∀ w' : ByteArray, Ev (fun k => flat_written k a b c) w' → (w'.size : Int) ≤ b.2.2.1 := fun w' h' => by
          rw [← Ev.uniq w1 h']
          omega
        have hj : Ev (fun k => strings_IndexByte k c a.1) (Lib.indexByte (L c) a.1.toNat.toUInt8) := .step (fun k => strings_IndexByte_eq k _ _) (.bind (x := Lib.indexByte (L c) a.1.toNat.toUInt8) (.off (n := 0) fun k => by rw [stringslite_IndexByte_eq]) (.pure _))
        by_cases hg : a.1 ≠ 0 ∧ a.2.1 = 0
        · have hg' : (cond (a.1 != 0) (a.2.1 == 0) false) = true := by
            have h1 : (a.1 != 0) = true := by simpa using hg.1
            rw [h1, hg.2]; rfl
          by_cases hx : Lib.indexByte (L c) a.1.toNat.toUInt8 ≥ 0
          · refine ⟨12, .step (fun k => flat_valueFault_eq k _ _ _) (.ff (by rw [he]; rfl) (.ff he (.bind t1 (.ff rfl (.bind w1 (.nk hw (.bind (.tt hg' hj) (.tt (by rw [hg', decide_eq_true hx]; rfl) (.pure _))))))))), fun z => absurd z (by decide), fun z => ?_⟩
            have := z.bar he hg.1 hg.2
            omega
          · exact ⟨0, .step (fun k => flat_valueFault_eq k _ _ _) (.ff (by rw [he]; rfl) (.ff he (.bind t1 (.ff rfl (.bind w1 (.nk hw (.bind (.tt hg' hj) (.ff (by rw [hg', decide_eq_false hx]; rfl) (.pure _))))))))), fun _ => ⟨(fun z => by rw [he] at z; cases z), fun _ => hv, fun _ => hlen, fun _ _ _ => by omega⟩, fun _ => rfl⟩
        · have hg' : (cond (a.1 != 0) (a.2.1 == 0) false) = false := by
            by_cases h1 : a.1 = 0
            · rw [h1]; rfl
            · have h1' : (a.1 != 0) = true := by simpa using h1
              have h2 : ¬ a.2.1 = 0 := fun z => hg ⟨h1, z⟩
              have h2' : (a.2.1 == 0) = false := by simpa using h2
              rw [h1', h2']; rfl
          exact ⟨0, .step (fun k => flat_valueFault_eq k _ _ _) (.ff (by rw [he]; rfl) (.ff he (.bind t1 (.ff rfl (.bind w1 (.nk hw (.bind (x := 0) (.ff hg' (.pure _)) (.ff (by rw [hg']; rfl) (.pure _))))))))), fun _ => ⟨(fun z => by rw [he] at z; cases z), fun _ => hv, fun _ => hlen, fun _ q1 q2 => absurd ⟨q1, q2⟩ hg⟩, fun _ => rfl⟩
/-! ### a number's parts -/
end Go.Proofs.YtebdajjgicfcaaaGreatDoor.Eq
namespace Go.Proofs.YtebdajjgicfcaaaGreatDoor.Eq
open Go Go.Ra
set_option linter.unusedVariables false
/-! ### rows -/
/-- A row whose values are right. -/
def RowVF (a : Fmt) (b : Row) : Prop := ∃ i : Nat, ∃ hi : i < a.2.2.1.length, kOf a.2.2.1 b.1 = i ∧ b.2.length = (a.2.2.1[i]).2.1.length ∧ ∀ j (hj : j < b.2.length) (hj' : j < (a.2.2.1[i]).2.1.length), VF a ((a.2.2.1[i]).2.1[j]) (b.2[j])
theorem ev_rowVF (a : Fmt) (b : Row) (ha : FitF a) (hok : FmtOk a) (hb : FitR b) : ∃ y : Int × Int, Ev (fun k => flat_checkRow k a b) y ∧ (y.2 = 0 → RowVF a b) ∧ (RowVF a b → y.2 = 0) := by
  by_cases h0 : kOf a.2.2.1 b.1 < 0
  · refine ⟨(0, 9), .step (fun k => flat_checkRow_eq k _ _) (.bind (ev_kindAt a _ ha.n) ?_), fun z => absurd z (by decide), fun ⟨i, hi, hk, _⟩ => by omega⟩
    rw [kAt_no h0]
    exact .tt rfl (.pure _)
  · obtain ⟨i, hi, hk, _⟩ := ixI_get (show 0 ≤ ixI (tagP b.1) a.2.2.1 from Int.not_lt.1 h0)
    have hk' : kOf a.2.2.1 b.1 = (i : Int) := hk
    have hmem := List.getElem_mem hi
    have hcl := hok.len _ hmem
    have hcol := hok.col _ hmem
    have hA : Ev (fun k => flat_kindAt k a b.1) (a.2.2.1[i], true) := (ev_kindAt a _ ha.n).to (kAt_at hi hk')
    by_cases hlen : b.2.length = (a.2.2.1[i]).2.1.length
    · have key : ∃ y : Int × Int, Ev (fun k => flat_checkRow_c7 k a b (a.2.2.1[i]).2.1 ((a.2.2.1[i]).2.1.length : Int) 0) y ∧ Ev (fun k => flat_checkRow_c7 k a b (a.2.2.1[i]).2.1 ((a.2.2.1[i]).2.1.length : Int) 0) y ∧
          ((y.2 = 0 → ∀ j, 0 ≤ j → ∀ (hj : j < b.2.length) (hj' : j < (a.2.2.1[i]).2.1.length), VF a ((a.2.2.1[i]).2.1[j]) (b.2[j])) ∧ ((∀ j, 0 ≤ j → ∀ (hj : j < b.2.length) (hj' : j < (a.2.2.1[i]).2.1.length), VF a ((a.2.2.1[i]).2.1[j]) (b.2[j])) → y.2 = 0)) := by
        refine ev_up2 b.2.length (fun (m : Nat) (y : Int × Int) => (y.2 = 0 → ∀ j, m ≤ j → ∀ (hj : j < b.2.length) (hj' : j < (a.2.2.1[i]).2.1.length), VF a ((a.2.2.1[i]).2.1[j]) (b.2[j])) ∧ ((∀ j, m ≤ j → ∀ (hj : j < b.2.length) (hj' : j < (a.2.2.1[i]).2.1.length), VF a ((a.2.2.1[i]).2.1[j]) (b.2[j])) → y.2 = 0)) (fun k j => flat_checkRow_c7 k a b (a.2.2.1[i]).2.1 ((a.2.2.1[i]).2.1.length : Int) j) (fun k j => flat_checkRow_c7 k a b (a.2.2.1[i]).2.1 ((a.2.2.1[i]).2.1.length : Int) j) (fun m hm h => ?_) ?_
        · obtain ⟨y, _, y2, y3, y4⟩ := h
          have hm' : m < (a.2.2.1[i]).2.1.length := by omega
          obtain ⟨f, f1, f2⟩ := ev_vf a ((a.2.2.1[i]).2.1[m]) (hcol _ (List.getElem_mem hm')) (b.2[m]) (hb.s _ (List.getElem_mem hm))
          have he : Ev (fun k => flat_checkRow_c7 k a b (a.2.2.1[i]).2.1 ((a.2.2.1[i]).2.1.length : Int) ((m : Nat) : Int)) (cond (f != 0) ((m : Int), f) y) := by
            refine .step (fun k => flat_checkRow_c7_eq k _ _ _ _ _) (.ck (by omega) (.ck (by omega) (.ck (by omega) (.ck (by omega) (.ck (by omega) ?_)))))
            rw [getD_at hm, getD_at hm', wj hm hb.n, col_eta]
            exact .bind f1 (.sel rfl (fun _ => .pure _) fun _ => y2)
          refine ⟨_, he, he, fun z j hj1 hj2 hj3 => ?_, fun z => ?_⟩
          · cases hf : (f != 0) with
            | true =>
              rw [hf] at z
              have z' : f = 0 := z
              rw [z'] at hf
              cases hf
            | false =>
              rw [hf] at z
              have hf0 : f = 0 := by simpa using hf
              by_cases e : j = m
              · subst e; exact f2.1 hf0
              · exact y3 z j (by omega) hj2 hj3
          · rw [f2.2 (z m (Nat.le_refl _) hm hm')]
            exact y4 fun j q1 q2 q3 => z j (by omega) q2 q3
        · have he : Ev (fun k => flat_checkRow_c7 k a b (a.2.2.1[i]).2.1 ((a.2.2.1[i]).2.1.length : Int) ((b.2.length : Nat) : Int)) (0, 0) := .step (fun k => flat_checkRow_c7_eq k _ _ _ _ _) (.nk (by omega) (.pure _))
          exact ⟨(0, 0), he, he, fun _ j hj1 hj2 => absurd hj2 (by omega), fun _ => rfl⟩
      obtain ⟨y, y1, _, y3, y4⟩ := key
      refine ⟨y, .step (fun k => flat_checkRow_eq k _ _) (.bind hA (.ff rfl (.ff (by rw [len_eq]; exact decide_eq_false (fun z => z hlen)) y1))), fun z => ⟨i, hi, hk', hlen, fun j hj hj' => y3 z j (Nat.zero_le _) hj hj'⟩, fun ⟨i', hi', hk2, _, hv⟩ => y4 fun j _ q2 q3 => ?_⟩
      have : i' = i := by omega
      subst this
      exact hv j q2 q3
    · refine ⟨(0, 3), .step (fun k => flat_checkRow_eq k _ _) (.bind hA (.ff rfl (.tt (by rw [len_eq]; exact decide_eq_true hlen) (.pure _)))), fun z => absurd z (by decide), fun ⟨i', hi', hk2, hl2, _⟩ => ?_⟩
      have : i' = i := by omega
      subst this
      exact absurd hl2 hlen
theorem ev_rowsVF (a : Fmt) (l : List Row) (ha : FitF a) (hok : FmtOk a) (hl : FitRs l) : ∃ y : Int × Int, Ev (fun k => flat_checkRows k a l) y ∧ (y.2 = 0 → ∀ r ∈ l, RowVF a r) ∧ ((∀ r ∈ l, RowVF a r) → y.2 = 0) := by
  have key : ∃ y : Int × Int, Ev (fun k => flat_checkRows_c2 k a l (l.length : Int) 0) y ∧ Ev (fun k => flat_checkRows_c2 k a l (l.length : Int) 0) y ∧ ((y.2 = 0 → ∀ j, 0 ≤ j → ∀ hj : j < l.length, RowVF a l[j]) ∧ ((∀ j, 0 ≤ j → ∀ hj : j < l.length, RowVF a l[j]) → y.2 = 0)) := by
    refine ev_up2 l.length (fun (m : Nat) (y : Int × Int) => (y.2 = 0 → ∀ j, m ≤ j → ∀ hj : j < l.length, RowVF a l[j]) ∧ ((∀ j, m ≤ j → ∀ hj : j < l.length, RowVF a l[j]) → y.2 = 0)) (fun k j => flat_checkRows_c2 k a l (l.length : Int) j) (fun k j => flat_checkRows_c2 k a l (l.length : Int) j) (fun m hm h => ?_) ?_
    · obtain ⟨y, _, y2, y3, y4⟩ := h
      obtain ⟨f, f1, f2, f3⟩ := ev_rowVF a l[m] ha hok (hl.r _ (List.getElem_mem hm))
      have he : Ev (fun k => flat_checkRows_c2 k a l (l.length : Int) ((m : Nat) : Int)) (cond (f.2 != 0) ((m : Int), f.2) y) := by
        refine .step (fun k => flat_checkRows_c2_eq k _ _ _ _) (.ck (by omega) (.ck (by omega) (.ck (by omega) ?_)))
        rw [getD_at hm, wj hm hl.n]
        exact .bind f1 (.sel rfl (fun _ => .pure _) fun _ => y2)
      refine ⟨_, he, he, fun z j hj1 hj2 => ?_, fun z => ?_⟩
      · cases hf : (f.2 != 0) with
        | true =>
          rw [hf] at z
          have z' : f.2 = 0 := z
          rw [z'] at hf
          cases hf
        | false =>
          rw [hf] at z
          have hf0 : f.2 = 0 := by simpa using hf
          by_cases e : j = m
          · subst e; exact f2 hf0
          · exact y3 z j (by omega) hj2
      · rw [f3 (z m (Nat.le_refl _) hm)]
        exact y4 fun j q1 q2 => z j (by omega) q2
    · have he : Ev (fun k => flat_checkRows_c2 k a l (l.length : Int) ((l.length : Nat) : Int)) (0, 0) := .step (fun k => flat_checkRows_c2_eq k _ _ _ _) (.nk (by omega) (.pure _))
      exact ⟨(0, 0), he, he, fun _ j hj1 hj2 => absurd hj2 (by omega), fun _ => rfl⟩
  obtain ⟨y, y1, _, y3, y4⟩ := key
  refine ⟨y, .step (fun k => flat_checkRows_eq k _ _) y1, fun z r hr => ?_, fun z => y4 fun j _ hj => z _ (List.getElem_mem hj)⟩
  obtain ⟨j, hj, rfl⟩ := List.getElem_of_mem hr
  exact y3 z j (Nat.zero_le _) hj
/-! ### turned -/
/-- A row's value by a column's name. -/
def valN (kd : Knd) (r : Row) (t : ByteArray) : ByteArray := if 0 ≤ cOf kd.2.1 t then r.2.getD (cOf kd.2.1 t).toNat (bs []) else bs []
end Go.Proofs.YtebdajjgicfcaaaGreatDoor.Eq
namespace Go.Proofs.YtebdajjgicfcaaaGreatDoor.Eq
open Go Go.Ra
set_option linter.unusedVariables false
/-- Does a row stand between the ends. -/
def midB (a : Fmt) (r : Row) : Bool := cond (cond (eqS a.2.2.2.1 (bs [])) true (!(eqS r.1 a.2.2.2.1))) (cond (eqS a.2.2.2.2.1 (bs [])) true (!(eqS r.1 a.2.2.2.2.1))) false
def midL (a : Fmt) (l : List Row) : List Row := l.filter (midB a)
theorem ev_inner (a : Fmt) (l : List Row) (hn : l.length ≤ 3518437208780) : Ev (fun k => flat_inner k a l) (midL a l) := by
  refine .step (fun k => flat_inner_eq k _ _) ?_
  have key : ∀ (m q : Nat) (acc : List Row), l.length - q = m → q ≤ l.length → acc.length ≤ q → Ev (fun k => flat_inner_c3 k a acc l (l.length : Int) (q : Int)) (acc ++ midL a (l.drop q)) := by
    intro m
    induction m with
    | zero =>
      intro q acc hm hq hacc
      rw [List.drop_of_length_le (by omega)]
      exact .step (fun k => flat_inner_c3_eq k _ _ _ _ _) (.nk (by omega) (.to (.pure _) (by simp [midL])))
    | succ m ih =>
      intro q acc hm hq hacc
      have hq3 : q < l.length := by omega
      refine .step (fun k => flat_inner_c3_eq k _ _ _ _ _) (.ck (by omega) (.ck (by omega) (.ck (by omega) ?_)))
      rw [getD_at hq3, wj hq3 (by omega), dropR hq3]
      cases hb : midB a l[q] with
      | true =>
        have e : acc ++ midL a (l[q] :: l.drop (q + 1)) = (acc ++ [l[q]]) ++ midL a (l.drop (q + 1)) := by
          unfold midL
          rw [List.filter_cons, hb, if_pos rfl, List.append_assoc]
          rfl
        rw [e]
        exact .tt hb (.ck (by omega) (ih (q + 1) (acc ++ [l[q]]) (by omega) (by omega) (by rw [List.length_append]; simp; omega)))
      | false =>
        have e : midL a (l[q] :: l.drop (q + 1)) = midL a (l.drop (q + 1)) := by
          unfold midL
          rw [List.filter_cons, hb, if_neg (by decide)]
        rw [e]
        exact .ff hb (ih (q + 1) acc (by omega) (by omega) (by omega))
  exact key _ 0 [] rfl (Nat.zero_le _) (Nat.le_refl _)
theorem ev_inner1 (a : Fmt) (l : List Row) (hn : l.length ≤ 3518437208780) : Ev (fun k => flat_inner_1 k a l) (midL a l) := by
  refine .step (fun k => flat_inner_1_eq k _ _) ?_
  have key : ∀ (m q : Nat) (acc : List Row), l.length - q = m → q ≤ l.length → acc.length ≤ q → Ev (fun k => flat_inner_1_c3 k a acc l (l.length : Int) (q : Int)) (acc ++ midL a (l.drop q)) := by
    intro m
    induction m with
    | zero =>
      intro q acc hm hq hacc
      rw [List.drop_of_length_le (by omega)]
      exact .step (fun k => flat_inner_1_c3_eq k _ _ _ _ _) (.nk (by omega) (.to (.pure _) (by simp [midL])))
    | succ m ih =>
      intro q acc hm hq hacc
      have hq3 : q < l.length := by omega
      refine .step (fun k => flat_inner_1_c3_eq k _ _ _ _ _) (.ck (by omega) (.ck (by omega) (.ck (by omega) ?_)))
      rw [getD_at hq3, wj hq3 (by omega), dropR hq3]
      cases hb : midB a l[q] with
      | true =>
        have e : acc ++ midL a (l[q] :: l.drop (q + 1)) = (acc ++ [l[q]]) ++ midL a (l.drop (q + 1)) := by
          unfold midL
          rw [List.filter_cons, hb, if_pos rfl, List.append_assoc]
          rfl
        rw [e]
        exact .tt hb (.ck (by omega) (ih (q + 1) (acc ++ [l[q]]) (by omega) (by omega) (by rw [List.length_append]; simp; omega)))
      | false =>
        have e : midL a (l[q] :: l.drop (q + 1)) = midL a (l.drop (q + 1)) := by
          unfold midL
          rw [List.filter_cons, hb, if_neg (by decide)]
        rw [e]
        exact .ff hb (ih (q + 1) acc (by omega) (by omega) (by omega))
  exact key _ 0 [] rfl (Nat.zero_le _) (Nat.le_refl _)
theorem midL_append (a : Fmt) (l m : List Row) : midL a (l ++ m) = midL a l ++ midL a m := List.filter_append ..
/-! ### the sum of a column of all rows -/
/-- A row's value in the column of a name; "" if there is none. -/
def valT (a : Fmt) (d : ByteArray) (r : Row) : ByteArray := valN (kAt a.2.2.1 r.1).1 r d
/-- Is the column of that name of another type than numbers. -/
def offT (a : Fmt) (d : ByteArray) (r : Row) : Bool := cond (decide (cOf (kAt a.2.2.1 r.1).1.2.1 d ≥ 0)) (((kAt a.2.2.1 r.1).1.2.1.getD (cOf (kAt a.2.2.1 r.1).1.2.1 d).toNat col0).2.1 != 2) false
theorem ev_offT (a : Fmt) (d : ByteArray) (r : Row) (ha : FitF a) : Ev (fun k => flat_sumFault_1_r k r a) (offT a a.2.2.2.2.2.2 r) := by
  have hkc := kAt_len a.2.2.1 r.1 ha.c
  have hlt := (ixI_lt (colP a.2.2.2.2.2.2) (kAt a.2.2.1 r.1).1.2.1).2
  have hlt' : cOf (kAt a.2.2.1 r.1).1.2.1 a.2.2.2.2.2.2 < (kAt a.2.2.1 r.1).1.2.1.length := hlt
  exact .step (fun k => flat_sumFault_1_r_eq k _ _) (.bind (ev_kindAt a _ ha.n) (.bind (ev_columnAt _ _ hkc) (.tt (bor' fun z => z) (.tt (bor' fun _ => by simpa using hlt') (.pure _)))))
theorem ev_sumFault (a : Fmt) (l : List Row) (ha : FitF a) (hn : l.length ≤ 3518437208780) : ∃ t : Bool, Ev (fun k => flat_sumFault k a l) t ∧ (t = false ↔ (eB a.2.2.2.2.2.2 = true ∨ ∀ r ∈ l, offT a a.2.2.2.2.2.2 r = false)) := by
  have hS : Ev (fun k => slices_ContainsFunc_Lapi_Row_api_Row_of_flat_sumFault_1 k l a) (decide (ixI (offT a a.2.2.2.2.2.2) l ≥ 0)) := by
    refine .step (fun k => slices_ContainsFunc_Lapi_Row_api_Row_of_flat_sumFault_1_eq k _ _) (.bind (x := ixI (offT a a.2.2.2.2.2.2) l) (.step (fun k => slices_IndexFunc_Lapi_Row_api_Row_of_flat_sumFault_1_eq k _ _) ?_) (.pure _))
    refine ev_loop _ l (fun k i => slices_IndexFunc_Lapi_Row_api_Row_of_flat_sumFault_1_c2 k l a (l.length : Int) i) (fun i hi y q1 q2 => ?_) (.step (fun k => slices_IndexFunc_Lapi_Row_api_Row_of_flat_sumFault_1_c2_eq k _ _ _ _) (.nk (by omega) (.pure _)))
    refine .step (fun k => slices_IndexFunc_Lapi_Row_api_Row_of_flat_sumFault_1_c2_eq k _ _ _ _) (.ck (by omega) (.ck (by omega) (.ck (by omega) ?_)))
    rw [getD_at hi, wj hi (by omega)]
    exact .bind (ev_offT a a.2.2.2.2.2.2 l[i] ha) (.cond (fun z => .to (.pure _) (q1 z).symm) q2)
  refine ⟨cond (!eB a.2.2.2.2.2.2) (decide (ixI (offT a a.2.2.2.2.2.2) l ≥ 0)) false, .step (fun k => flat_sumFault_eq k _ _) (.bind (.gd (e := !eB a.2.2.2.2.2.2) rfl fun _ => hS) (.to (.pure _) ?_)), ?_⟩
  · show cond (!eB a.2.2.2.2.2.2) _ false = _
    cases eB a.2.2.2.2.2.2 <;> rfl
  · cases he : eB a.2.2.2.2.2.2 with
    | true => exact ⟨fun _ => .inl rfl, fun _ => rfl⟩
    | false =>
      constructor
      · intro z
        have := of_decide_eq_false (show decide (ixI (offT a a.2.2.2.2.2.2) l ≥ 0) = false from z)
        exact .inr (ixI_none.1 (by omega))
      · rintro (z | z)
        · cases z
        · exact decide_eq_false (by have := ixI_none.2 z; omega)
/-- What a sum asks of a row. -/
def RowSm (a : Fmt) (r : Row) : Prop := ∃ i : Nat, ∃ hi : i < a.2.2.1.length, kOf a.2.2.1 r.1 = i ∧ r.2.length = (a.2.2.1[i]).2.1.length ∧ ∀ j (hj : j < r.2.length) (hj' : j < (a.2.2.1[i]).2.1.length), eqS (r.2[j]) (bs []) = false → ((a.2.2.1[i]).2.1[j]).2.1 = 2 → (rtx (L (r.2[j]))).2 = 0
theorem RowVF.sm {a : Fmt} {r : Row} (h : RowVF a r) : RowSm a r := by
  obtain ⟨i, hi, h1, h2, h3⟩ := h
  exact ⟨i, hi, h1, h2, fun j hj hj' z w => ((h3 j hj hj').isV z).num w |>.1⟩
theorem RowOk.sm {a : Fmt} {r : Row} (h : RowOk a r) : RowSm a r := by
  obtain ⟨i, hi, h1, h2, h3⟩ := h
  refine ⟨i, hi, h1, h2, fun j hj hj' z w => ?_⟩
  obtain ⟨_, _, _, _, _, _, k⟩ := h3 j hj hj'
  exact k z w
/-- The sum over all rows that have the column. -/
theorem ev_sumAll (a : Fmt) (l : List Row) (d : ByteArray) (ha : FitF a) (hl : FitRs l) (hn : l.length ≤ 3518437208780) (hrows : ∀ r ∈ l, RowSm a r) (hoff : ∀ r ∈ l, offT a d r = false) :
    Ev (fun k => flat_sumOf k a l (bs []) d) (fwF 9 (sumL (l.map (valT a d)))) := by
  -- what is known of one value
  have one : ∀ r ∈ l, ∃ i, ∃ hi : i < a.2.2.1.length, kOf a.2.2.1 r.1 = (i : Int) ∧ ((cOf (a.2.2.1[i]).2.1 d < 0 ∧ valT a d r = bs []) ∨ ∃ j, ∃ hj : j < (a.2.2.1[i]).2.1.length, ∃ hjr : j < r.2.length, cOf (a.2.2.1[i]).2.1 d = (j : Int) ∧ valT a d r = r.2[j] ∧ (r.2[j]).size ≤ 140737488351232 ∧ (eqS (r.2[j]) (bs []) = false → (rtx (L (r.2[j]))).2 = 0)) := fun r hr => by
    obtain ⟨i, hi, hk, hlen, hv⟩ := hrows r hr
    refine ⟨i, hi, hk, ?_⟩
    have eA : (kAt a.2.2.1 r.1).1 = a.2.2.1[i] := by rw [kAt_at hi hk]
    by_cases hc : cOf (a.2.2.1[i]).2.1 d < 0
    · left
      refine ⟨hc, ?_⟩
      unfold valT valN
      rw [eA, if_neg (by omega)]
    · right
      obtain ⟨j, hj, hjc, _⟩ := ixI_get (show 0 ≤ ixI (colP d) (a.2.2.1[i]).2.1 from Int.not_lt.1 hc)
      have hjc' : cOf (a.2.2.1[i]).2.1 d = (j : Int) := hjc
      have hjr : j < r.2.length := by omega
      refine ⟨j, hj, hjr, hjc', ?_, (hl.r r hr).s _ (List.getElem_mem hjr), fun z => ?_⟩
      · unfold valT valN
        rw [eA, hjc', if_pos (by omega), getD_at hjr]
      · have ho := hoff r hr
        unfold offT at ho
        rw [eA, hjc', decide_eq_true (show ((j : Nat) : Int) ≥ 0 by omega), getD_at hj] at ho
        have h2 : ((a.2.2.1[i]).2.1[j]).2.1 = 2 := by simpa using ho
        exact hv j hjr hj z h2
  have dec : ∀ q, DecL ((l.drop q).map (valT a d)) := fun q v hv => by
    obtain ⟨r, hr, rfl⟩ := List.mem_map.1 hv
    obtain ⟨i, hi, _, h | ⟨j, hj, hjr, _, e, hs, hz⟩⟩ := one r (List.mem_of_mem_drop hr)
    · rw [h.2]
      exact ⟨Nat.zero_le _, fun z => by rw [eqS_self] at z; cases z⟩
    · rw [e]
      exact ⟨hs, hz⟩
  have key : ∀ (m q : Nat) (S : Int), l.length - q = m → q ≤ l.length → S.natAbs ≤ q * 10 ^ 35 → S + sumL ((l.drop q).map (valT a d)) = sumL (l.map (valT a d)) → Ev (fun k => flat_sumOf_c3 k (bs []) d a (0, 0) (W S) l (l.length : Int) (q : Int)) (fwF 9 (sumL (l.map (valT a d)))) := by
    intro m
    induction m with
    | zero =>
      intro q S hq hq2 hb hS
      rw [List.drop_of_length_le (by omega)] at hS
      have e : S = sumL (l.map (valT a d)) := by simpa [sumL] using hS
      rw [← e]
      have hSm : Sm S := .of (Nat.le_trans hb (Nat.le_trans (Nat.mul_le_mul_right _ (show q ≤ 3518437208780 by omega)) (by decide)))
      exact .step (fun k => flat_sumOf_c3_eq k _ _ _ _ _ _ _ _) (.nk (by omega) (.ret (.step (fun k => amount_Fewest_eq k _ _) (.bind (ev_Of 10 (by decide) (by decide)) (ev_fewest (0, 0) 9 S (by decide) hSm))) rfl))
    | succ m ih =>
      intro q S hq hq2 hb hS
      have hq3 : q < l.length := by omega
      have hb' : S.natAbs ≤ (q + 1) * 10 ^ 35 := Nat.le_trans hb (Nat.mul_le_mul_right _ (Nat.le_succ q))
      obtain ⟨i, hi, hk, hcase⟩ := one _ (List.getElem_mem hq3)
      have hmem := List.getElem_mem hi
      have hA : Ev (fun k => flat_kindAt k a (l[q]).1) (a.2.2.1[i], true) := (ev_kindAt a _ ha.n).to (kAt_at hi hk)
      have hC := ev_columnAt (a.2.2.1[i]) d (ha.c _ hmem)
      rw [dropR hq3, List.map_cons, sumL_cons] at hS
      refine .step (fun k => flat_sumOf_c3_eq k _ _ _ _ _ _ _ _) (.ck (by omega) (.ck (by omega) (.ck (by omega) ?_)))
      rw [getD_at hq3, wj hq3 (by omega), eqS_self]
      rcases hcase with ⟨hc, e⟩ | ⟨j, hj, hjr, hjc, e, hs, hz⟩
      · rw [e, eqS_self, if_pos rfl] at hS
        refine .bind hA (.bind hC ?_)
        rw [decide_eq_true hc]
        exact .tt rfl (.tt rfl (.tt rfl (ih (q + 1) S (by omega) (by omega) hb' (by omega))))
      · rw [e] at hS
        refine .bind hA (.bind (hC.to hjc) ?_)
        rw [decide_eq_false (by omega : ¬ ((j : Nat) : Int) < 0), getD_at hjr]
        refine .tt (by simp) (.tt (by simp; omega) ?_)
        cases hem : eqS ((l[q]).2[j]) (bs []) with
        | true =>
          rw [hem, if_pos rfl] at hS
          exact .tt rfl (ih (q + 1) S (by omega) (by omega) hb' (by omega))
        | false =>
          rw [hem, if_neg (by decide)] at hS
          have hsz := size_L ((l[q]).2[j])
          have hok2 := rtx_ok _ (hz hem)
          have hr := ev_aRead (L ((l[q]).2[j])) (by omega)
          rw [B_L] at hr
          have hsc := sc_abs (p := 9) hok2 (by decide)
          have hS1 : Sm S := .of (Nat.le_trans hb (Nat.le_trans (Nat.mul_le_mul_right _ (show q ≤ 3518437208780 by omega)) (by decide)))
          have hS2 : Sm (sc (rtx (L ((l[q]).2[j]))).1 9) := .of (Nat.le_trans hsc (Nat.pow_le_pow_right (by decide) (by decide)))
          refine .ff rfl (.ck (by omega) (.ck (by omega) (.bind hr (.bind (ev_Value _ hok2) (.bind (ev_Plus S _ hS1 hS2) (ih (q + 1) _ (by omega) (by omega) ?_ (by omega)))))))
          rw [Nat.succ_mul]
          omega
  refine .step (fun k => flat_sumOf_eq k _ _ _ _) (.bind (ev_Of 0 (by decide) (by decide)) ?_)
  exact key _ 0 0 rfl (Nat.zero_le _) (by simp) (by rw [List.drop_zero, Int.zero_add])
theorem fwF_ok : ∀ (n : Nat) (S : Int), n ≤ 9 → (fwF n S).2 = 0 → okD (fwF n S).1
  | 0, S, _, h => by
    unfold fwF mk at *
    split
    · unfold okD; simp only; omega
    · rename_i q
      rw [if_neg q] at h
      exact absurd h (by decide)
  | n + 1, S, hn, h => by
    unfold fwF at *
    split
    · rename_i q
      rw [if_pos q] at h
      exact fwF_ok n _ (by omega) h
    · rename_i q
      rw [if_neg q] at h
      unfold mk at *
      split
      · unfold okD; simp only; omega
      · rename_i q2
        rw [if_neg q2] at h
        exact absurd h (by decide)
theorem ev_told2 {d : Int × Int} (h : okD d) : Ev (fun k => amount_Told k d) (B (txL d)) := by
  have := ev_aText d
  rw [if_pos h] at this
  exact .step (fun k => amount_Told_eq k _) (.bind this (.pure _))
theorem ev_cloneT (l : List ByteArray) (hn : l.length < 8796093022208) : Ev (fun k => slices_Clone_Lstring_string k l) l := by
  cases l with
  | nil => exact .step (fun k => slices_Clone_Lstring_string_eq k _) (.pure _)
  | cons x t => exact .step (fun k => slices_Clone_Lstring_string_eq k _) (.ff rfl (.ck (by omega) (.pure _)))
theorem ev_cloneR (l : List Row) (hn : l.length ≤ 2000) (hl : FitRs l) (h8 : ∀ r ∈ l, r.2.length < 8796093022208) : Ev (fun k => flat_cloneRows k l) l := by
  have h0 : Ev (fun k => slices_Clone_Lapi_Row_api_Row k l) l := by
    cases l with
    | nil => exact .step (fun k => slices_Clone_Lapi_Row_api_Row_eq k _) (.pure _)
    | cons x t => exact .step (fun k => slices_Clone_Lapi_Row_api_Row_eq k _) (.ff rfl (.ck (by omega) (.pure _)))
  refine .step (fun k => flat_cloneRows_eq k _) (.bind h0 ?_)
  refine ev_up l.length (fun _ => l) (fun k i => flat_cloneRows_c3 k l (l.length : Int) i) (fun i hi h => ?_) ?_
  · refine .step (fun k => flat_cloneRows_c3_eq k _ _ _) (.ck (by omega) (.ck (by omega) (.ck (by omega) ?_)))
    rw [getD_at hi, wj hi (by omega)]
    refine .bind (ev_cloneT _ (h8 _ (List.getElem_mem hi))) (.ck (by omega) (.ck (by omega) ?_))
    have e : l.set ((i : Nat) : Int).toNat ((l[i]).1, (l[i]).2) = l := by
      rw [Int.toNat_natCast]
      exact List.set_getElem_self hi
    rw [e]
    exact h
  · exact .step (fun k => flat_cloneRows_c3_eq k _ _ _) (.nk (by omega) (.pure _))
end Go.Proofs.YtebdajjgicfcaaaGreatDoor.Eq
namespace Go.Proofs.YtebdajjgicfcaaaGreatDoor.Eq
open Go Go.Ra
set_option linter.unusedVariables false
/-- What a kind is under is ahead of it. -/
def UpF (a : Fmt) : Prop := ∀ i (hi : i < a.2.2.1.length), eB (a.2.2.1[i]).2.2.2 = true ∨ ∃ j : Nat, j < i ∧ kOf a.2.2.1 (a.2.2.1[i]).2.2.2 = (j : Int)
theorem fmt_up {a : Fmt} (h : fmtF a = 0) : UpF a := by
  unfold fmtF at h
  obtain ⟨_, h⟩ := cond0 (by decide) h
  obtain ⟨_, h⟩ := cond0 (by decide) h
  obtain ⟨_, h⟩ := cond0 (by decide) h
  obtain ⟨_, h⟩ := cond0 (by decide) h
  obtain ⟨h3, _⟩ := nz_zero h
  intro i hi
  have hk := h3 i (Nat.zero_le _) (by omega)
  rw [getD_nat hi] at hk
  unfold kndF at hk
  obtain ⟨_, hk⟩ := cond0 (by decide) hk
  obtain ⟨_, hk⟩ := cond0 (by decide) hk
  obtain ⟨_, hk⟩ := cond0 (by decide) hk
  obtain ⟨_, hk⟩ := cond0 (by decide) hk
  obtain ⟨_, hk⟩ := nz_zero hk
  unfold kndT at hk
  obtain ⟨_, hk⟩ := cond0 (by decide) hk
  obtain ⟨hk, _⟩ := cond0 (by decide) hk
  cases he : eB (a.2.2.1[i]).2.2.2 with
  | true => exact .inl rfl
  | false =>
    unfold eB at he
    rw [he] at hk
    simp only [Bool.not_false, Bool.true_and, Bool.or_eq_false_iff, decide_eq_false_iff_not] at hk
    exact .inr ⟨(kOf a.2.2.1 (a.2.2.1[i]).2.2.2).toNat, by omega, by omega⟩
/-- What is known of the ends of a right format. -/
theorem fmt_ends {a : Fmt} (h : fmtF a = 0) : endF a = 0 := by
  unfold fmtF at h
  obtain ⟨_, h⟩ := cond0 (by decide) h
  obtain ⟨_, h⟩ := cond0 (by decide) h
  obtain ⟨_, h⟩ := cond0 (by decide) h
  obtain ⟨_, h⟩ := cond0 (by decide) h
  exact (nz_zero h).2
/-- Is a kind under another one, over others perhaps. -/
def undB (a : Fmt) (top : ByteArray) : Nat → ByteArray → Bool
  | 0, _ => false
  | f + 1, tag => cond (eqS (kAt a.2.2.1 tag).1.2.2.2 (bs [])) false (cond (eqS (kAt a.2.2.1 tag).1.2.2.2 top) true (undB a top f (kAt a.2.2.1 tag).1.2.2.2))
/-! ### what a row is under -/
/-- The last place before m at which p holds. -/
def lastN (p : Row → Bool) (l : List Row) : Nat → Int
  | 0 => -1
  | m + 1 => if p (l.getD m row0) = true then (m : Int) else lastN p l m
theorem lastN_lt (p : Row → Bool) (l : List Row) : ∀ m, -1 ≤ lastN p l m ∧ lastN p l m < m
  | 0 => ⟨Int.le_refl _, (by decide : (-1 : Int) < 0)⟩
  | m + 1 => by
    have := lastN_lt p l m
    unfold lastN
    split <;> omega
/-- From m down: the first place at which p holds, if q holds at all places between; else -1. -/
def overN (p q : Row → Bool) (l : List Row) : Nat → Int
  | 0 => -1
  | m + 1 => if p (l.getD m row0) = true then (m : Int) else if q (l.getD m row0) = true then overN p q l m else -1
theorem overN_eq (p q : Row → Bool) (l : List Row) : ∀ m, (0 ≤ overN p q l m → overN p q l m = lastN p l m ∧ ∀ j : Nat, overN p q l m < j → j < m → q (l.getD j row0) = true) ∧ (overN p q l m < 0 → overN p q l m = -1 ∧ (0 ≤ lastN p l m → ∃ j : Nat, lastN p l m < j ∧ j < m ∧ q (l.getD j row0) = false))
  | 0 => ⟨fun z => by have w : (0 : Int) ≤ -1 := z; omega, fun _ => ⟨rfl, fun z => by have w : (0 : Int) ≤ -1 := z; omega⟩⟩
  | m + 1 => by
    have ih := overN_eq p q l m
    have hl := lastN_lt p l m
    unfold overN lastN
    split
    · exact ⟨fun _ => ⟨rfl, fun j h1 h2 => by omega⟩, fun z => by omega⟩
    · split
      · rename_i hq
        refine ⟨fun z => ⟨(ih.1 z).1, fun j h1 h2 => ?_⟩, fun z => ⟨(ih.2 z).1, fun w => ?_⟩⟩
        · by_cases hj : j = m
          · rw [hj]; exact hq
          · exact (ih.1 z).2 j h1 (by omega)
        · obtain ⟨j, h1, h2, h3⟩ := (ih.2 z).2 w
          exact ⟨j, h1, by omega, h3⟩
      · rename_i hq
        exact ⟨fun z => absurd z (by decide), fun _ => ⟨rfl, fun w => ⟨m, by omega, by omega, by simpa using hq⟩⟩⟩
theorem getD_row {l : List Row} {i : Nat} (h : i < l.length) : l.getD i row0 = l[i] := getD_nat h row0
end Go.Proofs.YtebdajjgicfcaaaGreatDoor.Eq
namespace Go.Proofs.YtebdajjgicfcaaaGreatDoor.Eq
open Go Go.Ra
set_option linter.unusedVariables false
/-- The ends of a right format that has a tail. -/
structure EndsF (a : Fmt) (t : Nat) : Prop where
  lt : t < a.2.2.1.length
  k : kOf a.2.2.1 a.2.2.2.2.1 = (t : Int)
  c : eB a.2.2.2.2.2.1 = false → ∃ j : Nat, j < (a.2.2.1[t]).2.1.length ∧ cOf (a.2.2.1[t]).2.1 a.2.2.2.2.2.1 = (j : Int)
  s : eB a.2.2.2.2.2.2 = false → ∃ j : Nat, j < (a.2.2.1[t]).2.1.length ∧ cOf (a.2.2.1[t]).2.1 a.2.2.2.2.2.2 = (j : Int)
  ne : eB a.2.2.2.2.2.1 = false → eqS a.2.2.2.2.2.1 a.2.2.2.2.2.2 = false
theorem cnt_at {cs : List Col} {c : ByteArray} {any : Bool} (h : cntB cs c any = true) : ∃ j : Nat, j < cs.length ∧ cOf cs c = (j : Int) := by
  unfold cntB at h
  simp only [Bool.and_eq_true, decide_eq_true_eq] at h
  obtain ⟨j, hj, hk, _⟩ := ixI_get (show 0 ≤ ixI (colP c) cs from h.1.1)
  exact ⟨j, hj, hk⟩
theorem ends_of {a : Fmt} (h : endF a = 0) (hT : eB a.2.2.2.2.1 = false) : ∃ t, EndsF a t := by
  unfold endF at h
  obtain ⟨h1, h⟩ := cond0 (by decide) h
  obtain ⟨_, h⟩ := cond0 (by decide) h
  obtain ⟨_, h⟩ := cond0 (by decide) h
  obtain ⟨h2, h⟩ := cond0 (by decide) h
  obtain ⟨h3, _⟩ := cond0 (by decide) h
  rw [hT] at h1
  simp only [Bool.not_false, Bool.true_and, Bool.or_eq_false_iff, decide_eq_false_iff_not] at h1
  obtain ⟨t, ht, hk, _⟩ := ixI_get (show 0 ≤ ixI (tagP a.2.2.2.2.1) a.2.2.1 from Int.not_lt.1 h1.2)
  have hk' : kOf a.2.2.1 a.2.2.2.2.1 = (t : Int) := hk
  rw [kAt_at ht hk', Bool.or_eq_false_iff] at h2
  refine ⟨t, ht, hk', fun z => cnt_at (any := false) ?_, fun z => cnt_at (any := true) ?_, fun z => ?_⟩
  · rw [z] at h2
    simpa using h2.1
  · rw [z] at h2
    simpa using h2.2
  · rw [z] at h3
    simpa using h3
theorem ends_ne {a : Fmt} {t : Nat} (h : EndsF a t) (hC : eB a.2.2.2.2.2.1 = false) {i j : Nat} (hi : cOf (a.2.2.1[t]'h.lt).2.1 a.2.2.2.2.2.1 = (i : Int)) (hj : cOf (a.2.2.1[t]'h.lt).2.1 a.2.2.2.2.2.2 = (j : Int)) : i ≠ j := by
  rintro rfl
  obtain ⟨h1, h2, _⟩ := ixI_at hi
  obtain ⟨_, h3, _⟩ := ixI_at hj
  have e1 := (eqS_iff _ _).1 h2
  have e2 := (eqS_iff _ _).1 h3
  have := h.ne hC
  rw [← e1, ← e2, eqS_self] at this
  cases this
/-! ### rows between the ends, in the reference -/
theorem midL_cons (a : Fmt) (r : Row) (l : List Row) : midL a (r :: l) = if midB a r = true then r :: midL a l else midL a l := List.filter_cons
theorem mid_mem {a : Fmt} {l : List Row} {r : Row} (h : r ∈ midL a l) : r ∈ l := (List.mem_filter.1 h).1
theorem mid_len (a : Fmt) (l : List Row) : (midL a l).length ≤ l.length := List.length_filter_le ..
theorem mid_fit {a : Fmt} {l : List Row} (h : FitRs l) : FitRs (midL a l) := ⟨Nat.lt_of_le_of_lt (mid_len a l) h.n, fun r hr => h.r r (mid_mem hr)⟩
/-- The sum between the ends, in the package. -/
theorem ev_aSum2 (a : Fmt) (l : List Row) (ha : FitF a) (hl : FitRs l) (hn : l.length ≤ 3518437208780) (hrows : ∀ r ∈ l, RowSm a r) (hoff : ∀ r ∈ midL a l, offT a a.2.2.2.2.2.2 r = false) : Ev (fun k => flat_sumOf k a (midL a l) (bs []) a.2.2.2.2.2.2) (fwF 9 (sumL ((midL a l).map (valT a a.2.2.2.2.2.2)))) :=
  ev_sumAll a (midL a l) _ ha (mid_fit hl) (Nat.le_trans (mid_len a l) hn) (fun r hr => hrows r (mid_mem hr)) hoff
end Go.Proofs.YtebdajjgicfcaaaGreatDoor.Eq
namespace Go.Proofs.YtebdajjgicfcaaaGreatDoor.Eq
open Go Go.Ra
set_option linter.unusedVariables false
/-- A tail with the count, with the sum. -/
def setC (a : Fmt) (kd : Knd) (n : Nat) (tl : Row) : Row := if eB a.2.2.2.2.2.1 = true then tl else (tl.1, tl.2.set (cOf kd.2.1 a.2.2.2.2.2.1).toNat (B (Lib.itoa (n : Int))))
def setS (a : Fmt) (kd : Knd) (d : Int × Int) (tl : Row) : Row := if eB a.2.2.2.2.2.2 = true then tl else (tl.1, tl.2.set (cOf kd.2.1 a.2.2.2.2.2.2).toNat (B (txL d)))
/-- The end of Closed. -/
def endY (Y : Int × Int) (rs : List Row) (t : Row) : List Row × Int := if Y.2 ≠ 0 then ([], Y.2) else if (rs.length : Int) + 1 > 2000 then ([], 2) else (rs ++ [t], 0)
theorem setC_1 (a : Fmt) (kd : Knd) (n : Nat) (tl : Row) : (setC a kd n tl).1 = tl.1 ∧ (setC a kd n tl).2.length = tl.2.length := by
  unfold setC
  split
  · exact ⟨rfl, rfl⟩
  · exact ⟨rfl, List.length_set ..⟩
theorem setS_1 (a : Fmt) (kd : Knd) (d : Int × Int) (tl : Row) : (setS a kd d tl).1 = tl.1 ∧ (setS a kd d tl).2.length = tl.2.length := by
  unfold setS
  split
  · exact ⟨rfl, rfl⟩
  · exact ⟨rfl, List.length_set ..⟩
theorem setC_t {a : Fmt} (h : eB a.2.2.2.2.2.1 = true) (kd : Knd) (n : Nat) (tl : Row) : setC a kd n tl = tl := by unfold setC; rw [if_pos h]
theorem setC_f {a : Fmt} (h : eB a.2.2.2.2.2.1 = false) {kd : Knd} {i : Nat} (hi : cOf kd.2.1 a.2.2.2.2.2.1 = (i : Int)) (n : Nat) (tl : Row) : setC a kd n tl = (tl.1, tl.2.set i (B (Lib.itoa (n : Int)))) := by unfold setC; rw [if_neg (by rw [h]; decide), hi]; rfl
theorem setS_t {a : Fmt} (h : eB a.2.2.2.2.2.2 = true) (kd : Knd) (d : Int × Int) (tl : Row) : setS a kd d tl = tl := by unfold setS; rw [if_pos h]
theorem setS_f {a : Fmt} (h : eB a.2.2.2.2.2.2 = false) {kd : Knd} {i : Nat} (hi : cOf kd.2.1 a.2.2.2.2.2.2 = (i : Int)) (d : Int × Int) (tl : Row) : setS a kd d tl = (tl.1, tl.2.set i (B (txL d))) := by unfold setS; rw [if_neg (by rw [h]; decide), hi]; rfl
theorem set_swap {a : Fmt} {t : Nat} (he : EndsF a t) (n : Nat) (d : Int × Int) (tl : Row) : setC a (a.2.2.1[t]'he.lt) n (setS a (a.2.2.1[t]'he.lt) d tl) = setS a (a.2.2.1[t]'he.lt) d (setC a (a.2.2.1[t]'he.lt) n tl) := by
  cases hC : eB a.2.2.2.2.2.1 with
  | true => rw [setC_t hC, setC_t hC]
  | false =>
    cases hS : eB a.2.2.2.2.2.2 with
    | true => rw [setS_t hS, setS_t hS]
    | false =>
      obtain ⟨i, hi, hi2⟩ := he.c hC
      obtain ⟨j, hj, hj2⟩ := he.s hS
      have hne := ends_ne he hC hi2 hj2
      rw [setC_f hC hi2, setS_f hS hj2, setC_f hC hi2, setS_f hS hj2, List.set_comm _ _ (fun z => hne z.symm)]
theorem itoa_short (n : Nat) (h : n ≤ 3518437208780) : (B (Lib.itoa (n : Int))).size ≤ 140737488351232 := by
  have hs : (B (Lib.itoa (n : Int))).size = (Lib.itoa (n : Int)).length := size_B _
  have hl := itoa_len (n := (n : Int)) (k := 13) (by omega) (by decide) (by omega)
  omega
theorem set_fit {v : List ByteArray} {i : Nat} {s : ByteArray} (hv : ∀ c ∈ v, c.size ≤ 140737488351232) (hs : s.size ≤ 140737488351232) : ∀ c ∈ v.set i s, c.size ≤ 140737488351232 := fun c hc => by
  rcases List.mem_or_eq_of_mem_set hc with h | h
  · exact hv c h
  · rw [h]; exact hs
theorem setC_fit {a : Fmt} {kd : Knd} {n : Nat} {tl : Row} (h : FitR tl) (hn : n ≤ 3518437208780) : FitR (setC a kd n tl) := by
  refine ⟨by rw [(setC_1 a kd n tl).2]; exact h.n, ?_⟩
  unfold setC
  split
  · exact h.s
  · exact set_fit h.s (itoa_short n hn)
theorem setS_fit {a : Fmt} {kd : Knd} {d : Int × Int} {tl : Row} (h : FitR tl) (hd : eB a.2.2.2.2.2.2 = false → okD d) : FitR (setS a kd d tl) := by
  refine ⟨by rw [(setS_1 a kd d tl).2]; exact h.n, ?_⟩
  unfold setS
  split
  · exact h.s
  · rename_i hS
    refine set_fit h.s ?_
    have := txL_small (hd (by simpa using hS))
    have hs : (B (txL d)).size = (txL d).length := size_B _
    omega
/-! ### the package -/
theorem ev_c24 {a : Fmt} {l rs : List Row} {tl : Row} {t : Nat} (ha : FitF a) (he : EndsF a t) (hl : l.length ≤ 3518437208780) (hlen : tl.2.length = (a.2.2.1[t]'he.lt).2.1.length) (hr : rs.length ≤ 2000) (hrf : FitRs rs) (h8 : ∀ r ∈ rs, r.2.length < 8796093022208) {Y : Int × Int} (hY : Ev (fun k => flat_checkRow k a (setC a (a.2.2.1[t]'he.lt) (midL a l).length tl)) Y) :
    Ev (fun k => flat_Closed_c24 k l a (a.2.2.1[t]'he.lt) tl rs) (endY Y rs (setC a (a.2.2.1[t]'he.lt) (midL a l).length tl)) := by
  have hkm := List.getElem_mem he.lt
  have hml := mid_len a l
  have fin : ∀ {x : Row}, Ev (fun k => flat_checkRow k a x) Y → Ev (fun k => (flat_checkRow k a x).bind fun y13 => cond (y13.2 != 0) (some ([], y13.2)) ((flat_cloneRows k rs).bind fun y14 => cond (decide (y14.length + 1 < 3518437208883)) (cond (decide (((y14 ++ [x]).length : Int) > 2000)) (some ([], 2)) (some ((y14 ++ [x]), 0))) none)) (endY Y rs x) := fun {x} hx => by
    refine .bind hx ?_
    unfold endY
    cases hz : (Y.2 != 0) with
    | true => exact .tt rfl (.to (.pure _) (by rw [if_pos (by simpa using hz)]))
    | false =>
      rw [if_neg (by simpa using hz)]
      refine .ff rfl (.bind (ev_cloneR rs hr hrf h8) (.ck (by omega) (.dec (fun z => ?_) fun z => ?_)))
      · rw [if_pos (by rw [List.length_append] at z; simpa using z)]
        exact .pure _
      · rw [if_neg (by rw [List.length_append] at z; simpa using z)]
        exact .pure _
  refine .step (fun k => flat_Closed_c24_eq k _ _ _ _ _) ?_
  unfold setC at hY ⊢
  cases hC : eB a.2.2.2.2.2.1 with
  | true =>
    rw [hC, if_pos rfl] at hY
    rw [if_pos rfl]
    unfold eB at hC
    exact .ff (by rw [hC]; rfl) (fin hY)
  | false =>
    rw [hC, if_neg (by decide)] at hY
    rw [if_neg (by decide)]
    obtain ⟨i, hi, hi2⟩ := he.c hC
    rw [hi2] at hY ⊢
    unfold eB at hC
    refine .tt (by rw [hC]; rfl) (.bind ((ev_columnAt _ _ (ha.c _ hkm)).to hi2) (.bind (ev_inner a l hl) (.bind (ev_Itoa (by omega) (by omega)) (.ck (by omega) (.ck (by omega) (fin hY))))))
theorem ev_c19 {a : Fmt} {l rs : List Row} {tl : Row} {t : Nat} (ha : FitF a) (he : EndsF a t) (hl : l.length ≤ 3518437208780) (hfl : FitRs l) (hrows : ∀ r ∈ l, RowSm a r) (hoff : eB a.2.2.2.2.2.2 = false → ∀ r ∈ midL a l, offT a a.2.2.2.2.2.2 r = false)
    (hlen : tl.2.length = (a.2.2.1[t]'he.lt).2.1.length) (hr : rs.length ≤ 2000) (hrf : FitRs rs) (h8 : ∀ r ∈ rs, r.2.length < 8796093022208) {d : Int × Int} (hfw : eB a.2.2.2.2.2.2 = false → okD d ∧ fwF 9 (sumL ((midL a l).map (valT a a.2.2.2.2.2.2))) = (d, 0))
    {Y : Int × Int} (hY : Ev (fun k => flat_checkRow k a (setC a (a.2.2.1[t]'he.lt) (midL a l).length (setS a (a.2.2.1[t]'he.lt) d tl))) Y) :
    Ev (fun k => flat_Closed_c19 k l a (a.2.2.1[t]'he.lt) tl rs) (endY Y rs (setC a (a.2.2.1[t]'he.lt) (midL a l).length (setS a (a.2.2.1[t]'he.lt) d tl))) := by
  have hkm := List.getElem_mem he.lt
  have hl1 := (setS_1 a (a.2.2.1[t]'he.lt) d tl).2
  have h24 := ev_c24 (l := l) (rs := rs) (tl := setS a (a.2.2.1[t]'he.lt) d tl) ha he hl (by rw [hl1]; exact hlen) hr hrf h8 hY
  refine .step (fun k => flat_Closed_c19_eq k _ _ _ _ _) ?_
  cases hS : eB a.2.2.2.2.2.2 with
  | true =>
    have e : setS a (a.2.2.1[t]'he.lt) d tl = tl := by unfold setS; rw [if_pos hS]
    rw [e] at h24 ⊢
    unfold eB at hS
    exact .ff (by rw [hS]; rfl) h24
  | false =>
    obtain ⟨j, hj, hj2⟩ := he.s hS
    obtain ⟨hd, hw⟩ := hfw hS
    have e : setS a (a.2.2.1[t]'he.lt) d tl = (tl.1, tl.2.set ((j : Nat) : Int).toNat (B (txL d))) := by unfold setS; rw [if_neg (by rw [hS]; decide), hj2]
    rw [e] at h24 ⊢
    have hsum := (ev_aSum2 a l ha hfl hl hrows (hoff hS)).to hw
    unfold eB at hS
    exact .tt (by rw [hS]; rfl) (.bind (ev_inner a l hl) (.bind hsum (.ff rfl (.bind ((ev_columnAt _ _ (ha.c _ hkm)).to hj2) (.bind (ev_told2 hd) (.ck (by omega) (.ck (by omega) h24)))))))
theorem ev_c19e {a : Fmt} {l rs : List Row} {tl : Row} {t : Nat} (ha : FitF a) (he : EndsF a t) (hl : l.length ≤ 3518437208780) (hfl : FitRs l) (hrows : ∀ r ∈ l, RowSm a r) (hS : eB a.2.2.2.2.2.2 = false) (hoff : ∀ r ∈ midL a l, offT a a.2.2.2.2.2.2 r = false)
    {d : Int × Int} {f : Int} (hf : f ≠ 0) (hfw : fwF 9 (sumL ((midL a l).map (valT a a.2.2.2.2.2.2))) = (d, f)) : Ev (fun k => flat_Closed_c19 k l a (a.2.2.1[t]'he.lt) tl rs) ([], f) := by
  have hsum := (ev_aSum2 a l ha hfl hl hrows hoff).to hfw
  unfold eB at hS
  exact .step (fun k => flat_Closed_c19_eq k _ _ _ _ _) (.tt (by rw [hS]; rfl) (.bind (ev_inner a l hl) (.bind hsum (.tt (by simpa using hf) (.pure _)))))
/-! ### the reference -/
end Go.Proofs.YtebdajjgicfcaaaGreatDoor.Eq
namespace Go.Proofs.YtebdajjgicfcaaaGreatDoor.Eq
open Go Go.Ra
set_option linter.unusedVariables false
theorem ev_undF {a : Fmt} (ha : FitF a) (hu : UpF a) {top : ByteArray} : ∀ (f : Nat) (tag : ByteArray) (i : Nat) (hi : i < a.2.2.1.length), kOf a.2.2.1 tag = (i : Int) → i < f →
    Ev (fun k => flat_isUnder_c2 k top a a.2.2.1[i] true) (undB a top f tag) := by
  intro f
  induction f with
  | zero => intro tag i hi hk hf; omega
  | succ f ih =>
    intro tag i hi hk hf
    unfold undB
    rw [kAt_at hi hk]
    cases he : eqS (a.2.2.1[i]).2.2.2 (bs []) with
    | true => exact .step (fun k => flat_isUnder_c2_eq k _ _ _ _) (.ff (by rw [he]; rfl) (.pure _))
    | false =>
      have fstart : ∀ {y : Bool}, Ev (fun k => cond (eqS (a.2.2.1[i]).2.2.2 top) (some true) (flat_isUnder_c7 k top a a.2.2.1[i])) y → Ev (fun k => flat_isUnder_c2 k top a a.2.2.1[i] true) y := fun {y} hy =>
        .step (fun k => flat_isUnder_c2_eq k _ _ _ _) (.tt (by rw [he]; rfl) hy)
      cases hp : eqS (a.2.2.1[i]).2.2.2 top with
      | true => exact fstart (.tt hp (.pure _))
      | false =>
        rcases hu i hi with h | ⟨j, hj, hkj⟩
        · unfold eB at h
          rw [he] at h
          cases h
        · have hj' : j < a.2.2.1.length := by omega
          exact fstart (.ff hp (.step (fun k => flat_isUnder_c7_eq k _ _ _) (.bind ((ev_kindAt a _ ha.n).to (kAt_at hj' hkj)) (ih (a.2.2.1[i]).2.2.2 j hj' hkj (by omega)))))
theorem ev_isUnderF {a : Fmt} (ha : FitF a) (hu : UpF a) {top : ByteArray} {r : Row} (hr : RowVF a r) : Ev (fun k => flat_isUnder k a r.1 top) (undB a top a.2.2.1.length r.1) := by
  obtain ⟨i, hi, hk, _⟩ := hr
  exact .step (fun k => flat_isUnder_eq k _ _ _) (.bind ((ev_kindAt a _ ha.n).to (kAt_at hi hk)) (ev_undF ha hu a.2.2.1.length r.1 i hi hk hi))
theorem ev_overOfF {a : Fmt} (ha : FitF a) (hu : UpF a) {l : List Row} (hl : FitRs l) (hrows : ∀ r ∈ l, RowVF a r) {u : ByteArray} : ∀ m : Nat, m ≤ l.length → Ev (fun k => flat_overOf_c2 k l u a ((m : Int) - 1)) (overN (fun r => eqS r.1 u) (fun r => undB a u a.2.2.1.length r.1) l m)
  | 0, _ => .step (fun k => flat_overOf_c2_eq k _ _ _ _) (.nk (by omega) (.pure _))
  | m + 1, hm => by
    have hq : m < l.length := by omega
    have hn := hl.n
    have e : ((m + 1 : Nat) : Int) - 1 = ((m : Nat) : Int) := by omega
    rw [e]
    unfold overN
    rw [getD_row hq]
    refine .step (fun k => flat_overOf_c2_eq k _ _ _ _) (.ck (by omega) (.ck (by omega) (.ck (by omega) ?_)))
    rw [getD_at hq, wi64_id (by omega) (by omega)]
    cases hp : eqS (l[m]).1 u with
    | true => exact .tt rfl (.to (.pure _) (by rw [if_pos rfl]))
    | false =>
      rw [if_neg (by decide)]
      refine .ff rfl (.ck (by omega) (.ck (by omega) (.bind (ev_isUnderF ha hu (hrows _ (List.getElem_mem hq))) ?_)))
      cases hb : undB a u a.2.2.1.length (l[m]).1 with
      | true => exact .ff rfl (.to (ev_overOfF ha hu hl hrows m (by omega)) (by rw [if_pos rfl]))
      | false => exact .tt rfl (.to (.pure _) (by rw [if_neg (by decide)]))
theorem ev_manyF (kd : Knd) (t : ByteArray) (L : List Row) (hL : L.length < 1125899906842624) : ∀ (m q : Nat) (s : Int), L.length - q = m → q ≤ L.length → ∃ y : Int, Ev (fun k => flat_rowOrder_c16 k t kd s L (L.length : Int) (q : Int)) y := by
  intro m
  induction m with
  | zero =>
    intro q s hm hq
    exact ⟨cond (decide (s > kd.2.2.1)) 2 0, .step (fun k => flat_rowOrder_c16_eq k _ _ _ _ _ _) (.nk (by omega) (.sel rfl (fun _ => .pure _) fun _ => .pure _))⟩
  | succ m ih =>
    intro q s hm hq
    have hq3 : q < L.length := by omega
    have sf : ∀ {s' y}, (eqS (L[q]).1 t = true → s' = wi64 (s + 1)) → (eqS (L[q]).1 t = false → s' = s) → Ev (fun k => flat_rowOrder_c16 k t kd s' L (L.length : Int) ((q + 1 : Nat) : Int)) y → Ev (fun k => flat_rowOrder_c16 k t kd s L (L.length : Int) (q : Int)) y := fun {s' y} h1 h2 hy => by
      refine .step (fun k => flat_rowOrder_c16_eq k _ _ _ _ _ _) (.ck (by omega) (.ck (by omega) (.ck (by omega) ?_)))
      rw [getD_at hq3, wj hq3 hL]
      cases hb : eqS (L[q]).1 t with
      | true => rw [h1 hb] at hy; exact .tt rfl hy
      | false => rw [h2 hb] at hy; exact .ff rfl hy
    cases hb : eqS (L[q]).1 t with
    | true =>
      obtain ⟨y, y3⟩ := ih (q + 1) (wi64 (s + 1)) (by omega) (by omega)
      exact ⟨y, sf (fun _ => rfl) (fun z => by rw [hb] at z; cases z) y3⟩
    | false =>
      obtain ⟨y, y3⟩ := ih (q + 1) s (by omega) (by omega)
      exact ⟨y, sf (fun z => by rw [hb] at z; cases z) (fun _ => rfl) y3⟩
theorem ev_orderF {a : Fmt} (ha : FitF a) (hu : UpF a) {l : List Row} (hl : FitRs l) (hrows : ∀ r ∈ l, RowVF a r) {c : Nat} (hc : c < l.length) : ∃ y : Int, Ev (fun k => flat_rowOrder k a l (c : Int)) y := by
  have hn := hl.n
  have hlen : ∀ m n, ((l.take m).drop n).length < 1125899906842624 := fun m n => by rw [List.length_drop, List.length_take]; omega
  obtain ⟨i, hi, hk, _⟩ := hrows _ (List.getElem_mem hc)
  have hA : Ev (fun k => flat_kindAt k a (l[c]).1) (a.2.2.1[i], true) := (ev_kindAt a _ ha.n).to (kAt_at hi hk)
  have hw1 : wi64 ((c : Int) + 1) = ((c + 1 : Nat) : Int) := wj hc hn
  generalize hH : (cond (!(eqS a.2.2.2.1 (bs []))) (!((eqS (l[c]).1 a.2.2.2.1) == (((c : Nat) : Int) == 0))) false) = H
  generalize hT : (cond (cond (!(eqS a.2.2.2.2.1 (bs []))) (eqS (l[c]).1 a.2.2.2.2.1) false) (((c : Nat) : Int) != (wi64 ((l.length : Int) - 1))) false) = U
  cases H with
  | true => exact ⟨8, .step (fun k => flat_rowOrder_eq k _ _ _) (.ck (by omega) (.ck (by omega) (.tt (by rw [getD_at hc, hH]) (.pure _))))⟩
  | false =>
    cases U with
    | true => exact ⟨8, .step (fun k => flat_rowOrder_eq k _ _ _) (.ck (by omega) (.ck (by omega) (.ff (by rw [getD_at hc, hH]) (.tt (by rw [getD_at hc, hT]) (.pure _)))))⟩
    | false =>
      have fs : ∀ {y : Int}, Ev (fun k => cond (!(eqS (a.2.2.1[i]).2.2.2 (bs []))) ((flat_overOf k a l (c : Int) (a.2.2.1[i]).2.2.2).bind fun y1 => cond (decide (y1 < 0)) (some 8) (cond ((a.2.2.1[i]).2.2.1 == 0) (some 0) (cond (decide (0 ≤ y1)) (cond (decide (y1 ≤ (wi64 ((c : Int) + 1)))) (cond (decide ((wi64 ((c : Int) + 1)) ≤ (l.length : Int))) (flat_rowOrder_c16 k (l[c]).1 a.2.2.1[i] 0 ((l.take (wi64 ((c : Int) + 1)).toNat).drop y1.toNat) (((l.take (wi64 ((c : Int) + 1)).toNat).drop y1.toNat).length : Int) 0) none) none) none))) (cond ((a.2.2.1[i]).2.2.1 == 0) (some 0) (cond (decide (0 ≤ (wi64 ((c : Int) + 1)))) (cond (decide ((wi64 ((c : Int) + 1)) ≤ (l.length : Int))) (flat_rowOrder_c16 k (l[c]).1 a.2.2.1[i] 0 ((l.take (wi64 ((c : Int) + 1)).toNat).drop 0) (((l.take (wi64 ((c : Int) + 1)).toNat).drop 0).length : Int) 0) none) none))) y → Ev (fun k => flat_rowOrder k a l (c : Int)) y := fun {y} hy => by
        refine .step (fun k => flat_rowOrder_eq k _ _ _) (.ck (by omega) (.ck (by omega) (.ff (by rw [getD_at hc, hH]) (.ff (by rw [getD_at hc, hT]) ?_))))
        rw [getD_at hc]
        exact .bind hA hy
      cases he : eqS (a.2.2.1[i]).2.2.2 (bs []) with
      | true =>
        by_cases h0 : (a.2.2.1[i]).2.2.1 = 0
        · exact ⟨0, fs (.ff (by rw [he]; rfl) (.tt (by rw [h0]; rfl) (.pure _)))⟩
        · obtain ⟨y, y3⟩ := ev_manyF a.2.2.1[i] (l[c]).1 ((l.take (wi64 ((c : Int) + 1)).toNat).drop 0) (hlen _ _) _ 0 0 rfl (Nat.zero_le _)
          exact ⟨y, fs (.ff (by rw [he]; rfl) (.ff (by simpa using h0) (.ck (by omega) (.ck (by omega) y3))))⟩
      | false =>
        have ho := ev_overOfF ha hu hl hrows (u := (a.2.2.1[i]).2.2.2) c (by omega)
        have hov : Ev (fun k => flat_overOf k a l (c : Int) (a.2.2.1[i]).2.2.2) (overN (fun r => eqS r.1 (a.2.2.1[i]).2.2.2) (fun r => undB a (a.2.2.1[i]).2.2.2 a.2.2.1.length r.1) l c) := by
          refine .step (fun k => flat_overOf_eq k _ _ _ _) ?_
          rw [wi64_id (by omega) (by omega)]
          exact ho
        have hle := lastN_lt (fun r => eqS r.1 (a.2.2.1[i]).2.2.2) l c
        have hoe := overN_eq (fun r => eqS r.1 (a.2.2.1[i]).2.2.2) (fun r => undB a (a.2.2.1[i]).2.2.2 a.2.2.1.length r.1) l c
        generalize overN (fun r => eqS r.1 (a.2.2.1[i]).2.2.2) (fun r => undB a (a.2.2.1[i]).2.2.2 a.2.2.1.length r.1) l c = o at *
        by_cases hob : o < 0
        · exact ⟨8, fs (.tt (by rw [he]; rfl) (.bind hov (.ck hob (.pure _))))⟩
        · have hoc := (hoe.1 (by omega)).1
          by_cases h0 : (a.2.2.1[i]).2.2.1 = 0
          · exact ⟨0, fs (.tt (by rw [he]; rfl) (.bind hov (.nk hob (.tt (by rw [h0]; rfl) (.pure _)))))⟩
          · obtain ⟨y, y3⟩ := ev_manyF a.2.2.1[i] (l[c]).1 ((l.take (wi64 ((c : Int) + 1)).toNat).drop o.toNat) (hlen _ _) _ 0 0 rfl (Nat.zero_le _)
            exact ⟨y, fs (.tt (by rw [he]; rfl) (.bind hov (.nk hob (.ff (by simpa using h0) (.ck (by omega) (.ck (by omega) (.ck (by omega) y3)))))))⟩
theorem ev_CheckOrderF (a : Fmt) (l : List Row) (ha : FitF a) (hl : FitRs l) (h0 : fmtF a = 0) (hvf : ∀ r ∈ l, RowVF a r) : ∃ y : Int × Int, Ev (fun k => flat_CheckOrder k a l) y := by
  have hn := hl.n
  have hlast : wi64 ((l.length : Int) - 1) = (l.length : Int) - 1 := wi64_id (by omega) (by omega)
  have hok := fmt_ok h0
  have hu := fmt_up h0
  have hf : (fmtF a != 0) = false := by rw [h0]; rfl
  obtain ⟨z, z2, _, z3⟩ := ev_rowsVF a l ha hok hl
  have hz : (z.2 != 0) = false := by rw [z3 hvf]; rfl
  have key : ∀ (m i : Nat), l.length - i = m → i ≤ l.length → ∃ y : Int × Int, Ev (fun k => flat_checkOrder_c5 k l a (l.length : Int) (i : Int)) y := by
    intro m
    induction m with
    | zero =>
      intro i hm hi
      have b1 : ((!((!(eqS a.2.2.2.2.1 (bs []))) && (!((l.length : Int) == 0)))) || (decide (0 ≤ (wi64 ((l.length : Int) - 1))))) = true := bor' fun w => by
        simp only [Bool.and_eq_true, Bool.not_eq_true', beq_eq_false_iff_ne, ne_eq] at w
        rw [hlast]
        exact decide_eq_true (by omega)
      have b2 : ((!((!(eqS a.2.2.2.2.1 (bs []))) && (!((l.length : Int) == 0)))) || (decide ((wi64 ((l.length : Int) - 1)) < (l.length : Int)))) = true := bor' fun w => by
        rw [hlast]
        exact decide_eq_true (by omega)
      exact ⟨cond (cond (!(eqS a.2.2.2.2.1 (bs []))) (cond ((l.length : Int) == 0) true (!(eqS ((l.getD (wi64 ((l.length : Int) - 1)).toNat row0).1) a.2.2.2.2.1))) false) ((l.length : Int), 8) (0, 0), .step (fun k => flat_checkOrder_c5_eq k _ _ _ _) (.nk (by omega) (.tt b1 (.tt b2 (.sel rfl (fun _ => .pure _) fun _ => .pure _))))⟩
    | succ m ih =>
      intro i hm hi
      have hi3 : i < l.length := by omega
      obtain ⟨e, e2⟩ := ev_orderF ha hu hl hvf hi3
      cases he : (e != 0) with
      | true => exact ⟨((i : Int), e), .step (fun k => flat_checkOrder_c5_eq k _ _ _ _) (.ck (by omega) (.bind e2 (.tt he (.pure _))))⟩
      | false =>
        obtain ⟨y, y2⟩ := ih (i + 1) (by omega) (by omega)
        refine ⟨y, .step (fun k => flat_checkOrder_c5_eq k _ _ _ _) (.ck (by omega) (.bind e2 (.ff he ?_)))⟩
        rw [wj hi3 hn]
        exact y2
  obtain ⟨y, y2⟩ := key _ 0 rfl (Nat.zero_le _)
  exact ⟨y, .step (fun k => flat_CheckOrder_eq k _ _) (.bind (ev_CheckFormat a ha) (.ff hf (.ret (.step (fun k => flat_checkOrder_eq k _ _) (.bind z2 (.ff hz y2))) rfl)))⟩
/-- What comes before the tail is set. -/
structure ClosF (a : Fmt) (l : List Row) (t : Nat) (tl : Row) (rs : List Row) : Prop where
  f0 : fmtF a = 0
  hT : eB a.2.2.2.2.1 = false
  n : l.length ≤ 2000
  vf : ∀ r ∈ l, RowVF a r
  tag : tl.1 = a.2.2.2.2.1
  len : ∀ (h : t < a.2.2.1.length), tl.2.length = (a.2.2.1[t]).2.1.length
  fit : FitR tl
  rfit : FitRs rs
  rn : rs.length ≤ 2000
  sub : ∀ r ∈ rs, r ∈ l
  mid : midL a rs = midL a l
theorem nil_sizeF : (bs [] : ByteArray).size = 0 := rfl
theorem rep_fitF (n : Nat) (T : ByteArray) (h : n < 1125899906842624) : FitR (T, List.replicate n (bs [])) := ⟨by simp only [List.length_replicate]; exact h, fun c hc => by
  rw [List.eq_of_mem_replicate hc, nil_sizeF]
  exact Nat.zero_le _⟩
theorem mid_tailF {a : Fmt} {r : Row} (hT : eB a.2.2.2.2.1 = false) (h : eqS r.1 a.2.2.2.2.1 = true) : midB a r = false := by
  unfold midB
  unfold eB at hT
  rw [h, hT]
  cases cond (eqS a.2.2.2.1 (bs [])) true (!(eqS r.1 a.2.2.2.1)) <;> rfl
theorem fits_subF {l rs : List Row} (hl : FitRs l) (hn : rs.length ≤ l.length) (h : ∀ r ∈ rs, r ∈ l) : FitRs rs := ⟨Nat.lt_of_le_of_lt hn hl.n, fun r hr => hl.r r (h r hr)⟩
/-- Closed, up to the tail: what is to be shown of what is behind it. -/
theorem ev_toBodyF (a : Fmt) (l : List Row) (ha : FitF a) (hl : FitRs l) :
    (∃ f : Int, f ≠ 0 ∧ Ev (fun k => flat_Closed k a l) ([], f)) ∨
    ∃ t, ∃ he : EndsF a t, ∃ tl rs, ClosF a l t tl rs ∧
      (eB a.2.2.2.2.2.2 = false → (∃ r ∈ midL a l, offT a a.2.2.2.2.2.2 r = true) → Ev (fun k => flat_Closed k a l) ([], 6)) ∧
      ((eB a.2.2.2.2.2.2 = false → ∀ r ∈ midL a l, offT a a.2.2.2.2.2.2 r = false) → ∀ y, Ev (fun k => flat_Closed_c19 k l a (a.2.2.1[t]'he.lt) tl rs) y → Ev (fun k => flat_Closed k a l) y) := by
  have hn := hl.n
  have hlast : wi64 ((l.length : Int) - 1) = (l.length : Int) - 1 := wi64_id (by omega) (by omega)
  cases hf : (fmtF a != 0) with
  | true => exact .inl ⟨fmtF a, by simpa using hf, .step (fun k => flat_Closed_eq k _ _) (.bind (ev_CheckFormat a ha) (.tt hf (.pure _)))⟩
  | false =>
  have h0 : fmtF a = 0 := by simpa using hf
  have hok := fmt_ok h0
  cases hT : eB a.2.2.2.2.1 with
  | true => exact .inl ⟨9, by decide, .step (fun k => flat_Closed_eq k _ _) (.bind (ev_CheckFormat a ha) (.ff hf (.tt hT (.pure _))))⟩
  | false =>
  have hT' : eqS a.2.2.2.2.1 (bs []) = false := hT
  by_cases hbig : (l.length : Int) > 2000
  · exact .inl ⟨2, by decide, .step (fun k => flat_Closed_eq k _ _) (.bind (ev_CheckFormat a ha) (.ff hf (.ff hT' (.ck hbig (.pure _)))))⟩
  obtain ⟨z, z2, z3, _⟩ := ev_rowsVF a l ha hok hl
  cases hz : (z.2 != 0) with
  | true => exact .inl ⟨z.2, by simpa using hz, .step (fun k => flat_Closed_eq k _ _) (.bind (ev_CheckFormat a ha) (.ff hf (.ff hT' (.nk hbig (.bind z2 (.tt hz (.pure _)))))))⟩
  | false =>
  have hz0 : z.2 = 0 := by simpa using hz
  have hvf := z3 hz0
  obtain ⟨t, he⟩ := ends_of (fmt_ends h0) hT
  have hkm := List.getElem_mem he.lt
  have h50 := hok.len _ hkm
  have hA : Ev (fun k => flat_kindAt k a a.2.2.2.2.1) (a.2.2.1[t]'he.lt, true) := (ev_kindAt a _ ha.n).to (kAt_at he.lt he.k)
  have hlt := he.lt
  have b1 : ((!(decide ((l.length : Int) > 0))) || (decide (0 ≤ (wi64 ((l.length : Int) - 1))))) = true := bor' fun w => by
    rw [hlast]
    exact decide_eq_true (by have := of_decide_eq_true w; omega)
  have b2 : ((!(decide ((l.length : Int) > 0))) || (decide ((wi64 ((l.length : Int) - 1)) < (l.length : Int)))) = true := bor' fun w => by
    rw [hlast]
    exact decide_eq_true (by omega)
  refine .inr ⟨t, he, ?_⟩
  obtain ⟨sf, sf1, sf2⟩ := ev_sumFault a (midL a l) ha (by have := mid_len a l; omega)
  have sfT : eB a.2.2.2.2.2.2 = false → (∃ r ∈ midL a l, offT a a.2.2.2.2.2.2 r = true) → sf = true := fun hS ⟨r, hr, ho⟩ => by
    cases hsf : sf with
    | true => rfl
    | false =>
      rcases sf2.1 hsf with h | h
      · rw [hS] at h; cases h
      · rw [h r hr] at ho; cases ho
  have sfF : (eB a.2.2.2.2.2.2 = false → ∀ r ∈ midL a l, offT a a.2.2.2.2.2.2 r = false) → sf = false := fun h => sf2.2 (by
    cases hS : eB a.2.2.2.2.2.2 with
    | true => exact .inl rfl
    | false => exact .inr (h hS))
  have fl6 : eB a.2.2.2.2.2.2 = false → (∃ r ∈ midL a l, offT a a.2.2.2.2.2.2 r = true) → Ev (fun k => flat_Closed k a l) ([], 6) := fun hS hex =>
    .step (fun k => flat_Closed_eq k _ _) (.bind (ev_CheckFormat a ha) (.ff hf (.ff hT' (.nk hbig (.bind z2 (.ff hz (.bind (ev_inner a l (by omega)) (.bind sf1 (.tt (sfT hS hex) (.pure _))))))))))
  cases hL : (cond (decide ((l.length : Int) > 0)) (eqS ((l.getD (wi64 ((l.length : Int) - 1)).toNat row0).1) a.2.2.2.2.1) false) with
  | true =>
    have hpos : (l.length : Int) > 0 := by
      by_cases z : (l.length : Int) > 0
      · exact z
      · rw [decide_eq_false z] at hL; cases hL
    have hp : l.length - 1 < l.length := by omega
    have hw : wi64 ((l.length : Int) - 1) = ((l.length - 1 : Nat) : Int) := by rw [hlast]; omega
    have hL2 : eqS (l[l.length - 1]).1 a.2.2.2.2.1 = true := by
      rw [decide_eq_true hpos, hw, getD_at hp] at hL
      exact hL
    have hmem := List.getElem_mem hp
    have hlen : (l[l.length - 1]).2.length = (a.2.2.1[t]'he.lt).2.1.length := by
      obtain ⟨i, hi, hk, hlen, _⟩ := hvf _ hmem
      rw [(eqS_iff _ _).1 hL2, he.k] at hk
      have : t = i := by omega
      subst this
      exact hlen
    have hsplit : l = l.take (l.length - 1) ++ [l[l.length - 1]] := by
      rw [List.take_append_getElem, List.take_of_length_le (by omega)]
    have hmid : midL a (l.take (l.length - 1)) = midL a l := by
      conv => rhs; rw [hsplit]
      rw [midL_append, midL_cons, if_neg (by rw [mid_tailF hT hL2]; decide)]
      simp [midL]
    have hrl : (l.take (l.length - 1)).length ≤ l.length := List.length_take_le' ..
    have hsub : ∀ r ∈ l.take (l.length - 1), r ∈ l := fun r hr => List.mem_of_mem_take hr
    refine ⟨l[l.length - 1], l.take (l.length - 1), ⟨h0, hT, by omega, hvf, (eqS_iff _ _).1 hL2, fun _ => hlen, hl.r _ hmem, fits_subF hl hrl hsub, by omega, hsub, hmid⟩, fl6, fun ho y hy => ?_⟩
    · refine .step (fun k => flat_Closed_eq k _ _) (.bind (ev_CheckFormat a ha) (.ff hf (.ff hT' (.nk hbig (.bind z2 (.ff hz (.bind (ev_inner a l (by omega)) (.bind sf1 (.ff (sfF ho) (.bind hA (.ck (by omega) (.ck (by simp only [Int.toNat_natCast]; omega) (.tt b1 (.tt b2 (.tt hL ?_)))))))))))))))
      rw [hw, getD_at hp]
      refine .ck (by omega) (.ck (by omega) (.bind (ev_cloneT _ (by rw [hlen]; omega)) (.ck (by omega) (.ck (by omega) ?_))))
      rw [Int.toNat_natCast, ← (eqS_iff _ _).1 hL2, row_eta]
      exact hy
  | false =>
    refine ⟨(a.2.2.2.2.1, List.replicate (((a.2.2.1[t]'he.lt).2.1.length : Nat) : Int).toNat (bs [])), l, ⟨h0, hT, by omega, hvf, rfl, fun _ => by simp only [List.length_replicate, Int.toNat_natCast], rep_fitF _ _ (by simp only [Int.toNat_natCast]; omega), hl, by omega, fun r hr => hr, rfl⟩, fl6, fun ho y hy => ?_⟩
    · exact .step (fun k => flat_Closed_eq k _ _) (.bind (ev_CheckFormat a ha) (.ff hf (.ff hT' (.nk hbig (.bind z2 (.ff hz (.bind (ev_inner a l (by omega)) (.bind sf1 (.ff (sfF ho) (.bind hA (.ck (by omega) (.ck (by simp only [Int.toNat_natCast]; omega) (.tt b1 (.tt b2 (.ff hL hy)))))))))))))))
theorem fwF_cases {S : Int} : ∀ (n : Nat), n ≤ 9 → (∃ d, okD d ∧ fwF n S = (d, 0)) ∨ ∃ d f, f ≠ 0 ∧ fwF n S = (d, f) := fun n hn => by
  cases h : ((fwF n S).2 == 0) with
  | true =>
    have h0 : (fwF n S).2 = 0 := by simpa using h
    exact .inl ⟨(fwF n S).1, fwF_ok n S hn h0, Prod.ext rfl h0⟩
  | false => exact .inr ⟨(fwF n S).1, (fwF n S).2, by simpa using h, rfl⟩
theorem fit_snocF {l : List Row} {r : Row} (hl : FitRs l) (hn : l.length ≤ 2000) (hr : FitR r) : FitRs (l ++ [r]) := ⟨by rw [List.length_append]; simp; omega, fun x hx => by
  rcases List.mem_append.1 hx with hx | hx
  · exact hl.r x hx
  · rw [List.mem_singleton.1 hx]; exact hr⟩
theorem ev_ClosedF (a : Fmt) (l : List Row) (ha : FitF a) (hl : FitRs l) :
    (∃ f : Int, f ≠ 0 ∧ Ev (fun k => flat_Closed k a l) ([], f)) ∨
    ∃ t, ∃ he : EndsF a t, ∃ tl rs d Y, ClosF a l t tl rs ∧ (eB a.2.2.2.2.2.2 = false → ∀ r ∈ midL a l, offT a a.2.2.2.2.2.2 r = false) ∧ (eB a.2.2.2.2.2.2 = false → okD d ∧ fwF 9 (sumL ((midL a l).map (valT a a.2.2.2.2.2.2))) = (d, 0)) ∧
      FitR (setC a (a.2.2.1[t]'he.lt) (midL a l).length (setS a (a.2.2.1[t]'he.lt) d tl)) ∧
      Ev (fun k => flat_checkRow k a (setC a (a.2.2.1[t]'he.lt) (midL a l).length (setS a (a.2.2.1[t]'he.lt) d tl))) Y ∧
      Ev (fun k => flat_Closed k a l) (endY Y rs (setC a (a.2.2.1[t]'he.lt) (midL a l).length (setS a (a.2.2.1[t]'he.lt) d tl))) := by
  rcases ev_toBodyF a l ha hl with h | ⟨t, he, tl, rs, hE, hf6, hfl⟩
  · exact .inl h
  have hok := fmt_ok hE.f0
  have hls : ∀ r ∈ l, RowSm a r := fun r hr => (hE.vf r hr).sm
  have hn := hE.n
  have h8 : ∀ r ∈ rs, r.2.length < 8796093022208 := fun r hr => by
    obtain ⟨i, hi, _, hlen, _⟩ := hE.vf r (hE.sub r hr)
    have := hok.len _ (List.getElem_mem hi)
    omega
  have hml := mid_len a l
  have fin : ∀ (d : Int × Int), (eB a.2.2.2.2.2.2 = false → ∀ r ∈ midL a l, offT a a.2.2.2.2.2.2 r = false) → (eB a.2.2.2.2.2.2 = false → okD d ∧ fwF 9 (sumL ((midL a l).map (valT a a.2.2.2.2.2.2))) = (d, 0)) →
      ∃ t, ∃ he : EndsF a t, ∃ tl rs d Y, ClosF a l t tl rs ∧ (eB a.2.2.2.2.2.2 = false → ∀ r ∈ midL a l, offT a a.2.2.2.2.2.2 r = false) ∧ (eB a.2.2.2.2.2.2 = false → okD d ∧ fwF 9 (sumL ((midL a l).map (valT a a.2.2.2.2.2.2))) = (d, 0)) ∧
      FitR (setC a (a.2.2.1[t]'he.lt) (midL a l).length (setS a (a.2.2.1[t]'he.lt) d tl)) ∧
      Ev (fun k => flat_checkRow k a (setC a (a.2.2.1[t]'he.lt) (midL a l).length (setS a (a.2.2.1[t]'he.lt) d tl))) Y ∧
      Ev (fun k => flat_Closed k a l) (endY Y rs (setC a (a.2.2.1[t]'he.lt) (midL a l).length (setS a (a.2.2.1[t]'he.lt) d tl))) := fun d ho hd => by
    have hfit : FitR (setC a (a.2.2.1[t]'he.lt) (midL a l).length (setS a (a.2.2.1[t]'he.lt) d tl)) := setC_fit (setS_fit hE.fit fun z => (hd z).1) (by omega)
    obtain ⟨Y, Y2, _⟩ := ev_rowVF a (setC a (a.2.2.1[t]'he.lt) (midL a l).length (setS a (a.2.2.1[t]'he.lt) d tl)) ha hok hfit
    exact ⟨t, he, tl, rs, d, Y, hE, ho, hd, hfit, Y2, hfl ho _ (ev_c19 ha he (by omega) hl hls ho (hE.len he.lt) hE.rn hE.rfit h8 hd Y2)⟩
  cases hS : eB a.2.2.2.2.2.2 with
  | true => exact .inr (by simpa only [hS] using fin (0, 0) (fun z => by rw [hS] at z; cases z) (fun z => by rw [hS] at z; cases z))
  | false =>
    by_cases hex : ∃ r ∈ midL a l, offT a a.2.2.2.2.2.2 r = true
    · exact .inl ⟨6, by decide, hf6 hS hex⟩
    · have ho : ∀ r ∈ midL a l, offT a a.2.2.2.2.2.2 r = false := fun r hr => by
        cases h : offT a a.2.2.2.2.2.2 r with
        | true => exact absurd ⟨r, hr, h⟩ hex
        | false => rfl
      rcases fwF_cases (S := sumL ((midL a l).map (valT a a.2.2.2.2.2.2))) 9 (Nat.le_refl _) with ⟨d, hd, hw⟩ | ⟨d, f, hf, hw⟩
      · exact .inr (by simpa only [hS] using fin d (fun _ => ho) (fun _ => ⟨hd, hw⟩))
      · exact .inl ⟨f, hf, hfl (fun _ => ho) _ (ev_c19e ha he (by omega) hl hls hS ho hf hw)⟩
theorem setC_idem (a : Fmt) (kd : Knd) (n : Nat) (tl : Row) : setC a kd n (setC a kd n tl) = setC a kd n tl := by
  unfold setC
  split
  · rfl
  · simp only [List.set_set]
theorem setS_idem (a : Fmt) (kd : Knd) (d : Int × Int) (tl : Row) : setS a kd d (setS a kd d tl) = setS a kd d tl := by
  unfold setS
  split
  · rfl
  · simp only [List.set_set]
theorem set_idem {a : Fmt} {t : Nat} (he : EndsF a t) (n : Nat) (d : Int × Int) (tl : Row) : setC a (a.2.2.1[t]'he.lt) n (setS a (a.2.2.1[t]'he.lt) d (setC a (a.2.2.1[t]'he.lt) n (setS a (a.2.2.1[t]'he.lt) d tl))) = setC a (a.2.2.1[t]'he.lt) n (setS a (a.2.2.1[t]'he.lt) d tl) := by
  rw [← set_swap he, setC_idem, setS_idem]
theorem last_row (rs : List Row) (x : Row) : (rs ++ [x]).getD ((rs.length : Nat) : Int).toNat row0 = x := by
  rw [getD_at (show rs.length < (rs ++ [x]).length by simp)]
  simp
theorem ev_again (a : Fmt) (l : List Row) (ha : FitF a) (hl : FitRs l) {t : Nat} (he : EndsF a t) {tl : Row} {rs : List Row} {d : Int × Int} {Y : Int × Int} (hE : ClosF a l t tl rs) (ho : eB a.2.2.2.2.2.2 = false → ∀ r ∈ midL a l, offT a a.2.2.2.2.2.2 r = false) (hd : eB a.2.2.2.2.2.2 = false → okD d ∧ fwF 9 (sumL ((midL a l).map (valT a a.2.2.2.2.2.2))) = (d, 0))
    {x : Row} (hx : x = setC a (a.2.2.1[t]'he.lt) (midL a l).length (setS a (a.2.2.1[t]'he.lt) d tl)) (hfit : FitR x) (hY : Ev (fun k => flat_checkRow k a x) Y) (hY0 : Y.2 = 0) (hlen : rs.length + 1 ≤ 2000) :
    Ev (fun k => flat_Closed k a (rs ++ [x])) (rs ++ [x], 0) ∧ FitRs (rs ++ [x]) ∧ ∃ y, Ev (fun k => flat_CheckOrder k a (rs ++ [x])) y ∧ (y.2 = 0 → Ev (fun k => flat_CheckTotals k a (rs ++ [x])) (0, 0)) := by
  have hok := fmt_ok hE.f0
  have hf : (fmtF a != 0) = false := by rw [hE.f0]; rfl
  have hT' : eqS a.2.2.2.2.1 (bs []) = false := hE.hT
  have hkm := List.getElem_mem he.lt
  have h50 := hok.len _ hkm
  have hlt := he.lt
  have xl : (rs ++ [x]).length = rs.length + 1 := by simp
  have htag : x.1 = a.2.2.2.2.1 := by
    rw [hx, (setC_1 ..).1, (setS_1 ..).1]
    exact hE.tag
  have xlen : x.2.length = (a.2.2.1[t]'he.lt).2.1.length := by
    rw [hx, (setC_1 ..).2, (setS_1 ..).2]
    exact hE.len he.lt
  have hvx : RowVF a x := by
    obtain ⟨y, y1, y2, _⟩ := ev_rowVF a x ha hok hfit
    exact y2 (by rw [Ev.uniq y1 hY]; exact hY0)
  have hfx : FitRs (rs ++ [x]) := fit_snocF hE.rfit hE.rn hfit
  have hvf : ∀ r ∈ rs ++ [x], RowVF a r := fun r hr => by
    rcases List.mem_append.1 hr with hr | hr
    · exact hE.vf r (hE.sub r hr)
    · rw [List.mem_singleton.1 hr]; exact hvx
  have hsm : ∀ r ∈ rs ++ [x], RowSm a r := fun r hr => (hvf r hr).sm
  have heq : eqS x.1 a.2.2.2.2.1 = true := by rw [htag]; exact eqS_self _
  have hmid : midL a (rs ++ [x]) = midL a l := by
    rw [midL_append, midL_cons, if_neg (by rw [mid_tailF hE.hT heq]; decide), hE.mid]
    simp [midL]
  have hml := mid_len a (rs ++ [x])
  have ho' : eB a.2.2.2.2.2.2 = false → ∀ r ∈ midL a (rs ++ [x]), offT a a.2.2.2.2.2.2 r = false := by rw [hmid]; exact ho
  have hd' : eB a.2.2.2.2.2.2 = false → okD d ∧ fwF 9 (sumL ((midL a (rs ++ [x])).map (valT a a.2.2.2.2.2.2))) = (d, 0) := by rw [hmid]; exact hd
  have h8 : ∀ r ∈ rs, r.2.length < 8796093022208 := fun r hr => by
    obtain ⟨i, hi, _, hlen, _⟩ := hE.vf r (hE.sub r hr)
    have := hok.len _ (List.getElem_mem hi)
    omega
  have hA : Ev (fun k => flat_kindAt k a a.2.2.2.2.1) (a.2.2.1[t]'he.lt, true) := (ev_kindAt a _ ha.n).to (kAt_at he.lt he.k)
  have hw : wi64 (((rs ++ [x]).length : Int) - 1) = ((rs.length : Nat) : Int) := by rw [wi64_id (by omega) (by omega)]; omega
  obtain ⟨sf, sf1, sf2⟩ := ev_sumFault a (midL a (rs ++ [x])) ha (by omega)
  have hsf : sf = false := sf2.2 (by
    cases hS : eB a.2.2.2.2.2.2 with
    | true => exact .inl rfl
    | false => exact .inr (ho' hS))
  obtain ⟨c, c1, _, c3⟩ := ev_rowsVF a (rs ++ [x]) ha hok hfx
  have hc0 : (c.2 != 0) = false := by rw [c3 hvf]; rfl
  have hid := set_idem he (midL a l).length d tl
  rw [← hx] at hid
  refine ⟨?_, hfx, ?_⟩
  · have b1 : ((!(decide (((rs ++ [x]).length : Int) > 0))) || (decide (0 ≤ (wi64 (((rs ++ [x]).length : Int) - 1))))) = true := bor' fun _ => by rw [hw]; exact decide_eq_true (by omega)
    have b2 : ((!(decide (((rs ++ [x]).length : Int) > 0))) || (decide ((wi64 (((rs ++ [x]).length : Int) - 1)) < ((rs ++ [x]).length : Int)))) = true := bor' fun _ => by rw [hw]; exact decide_eq_true (by omega)
    have hL : (cond (decide (((rs ++ [x]).length : Int) > 0)) (eqS (((rs ++ [x]).getD (wi64 (((rs ++ [x]).length : Int) - 1)).toNat row0).1) a.2.2.2.2.1) false) = true := by
      rw [decide_eq_true (show ((rs ++ [x]).length : Int) > 0 by omega), hw, last_row]
      exact heq
    have h19 := ev_c19 (l := rs ++ [x]) (rs := rs) (tl := x) (d := d) (Y := Y) ha he (by omega) hfx hsm ho' xlen hE.rn hE.rfit h8 hd' (by rw [hmid, hid]; exact hY)
    rw [hmid, hid] at h19
    have hend : endY Y rs x = (rs ++ [x], 0) := by
      unfold endY
      rw [if_neg (by rw [hY0]; decide), if_neg (by omega)]
    rw [hend] at h19
    refine .step (fun k => flat_Closed_eq k _ _) (.bind (ev_CheckFormat a ha) (.ff hf (.ff hT' (.nk (by omega) (.bind c1 (.ff hc0 (.bind (ev_inner a _ (by omega)) (.bind sf1 (.ff hsf (.bind hA (.ck (by omega) (.ck (by simp only [Int.toNat_natCast]; omega) (.tt b1 (.tt b2 (.tt hL ?_)))))))))))))))
    rw [hw, last_row]
    refine .ck (by omega) (.ck (by omega) (.bind (ev_cloneT _ (by omega)) (.ck (by omega) (.ck (by omega) ?_))))
    rw [Int.toNat_natCast, ← htag, row_eta, List.take_left']
    · exact h19
    · rfl
  · obtain ⟨y, y2⟩ := ev_CheckOrderF a (rs ++ [x]) ha hfx hE.f0 hvf
    refine ⟨y, y2, fun hy => ?_⟩
    have hcA := fun d => ev_columnAt (a.2.2.1[t]'he.lt) d (ha.c _ hkm)
    have sum : Ev (fun k => cond (eqS a.2.2.2.2.2.2 (bs [])) (some (0, 0)) ((flat_inner k a (rs ++ [x])).bind fun y5 => (flat_sumFault k a y5).bind fun y6 => cond y6 (some (1, 6)) ((flat_inner k a (rs ++ [x])).bind fun y7 => (flat_sumOf k a y7 (bs []) a.2.2.2.2.2.2).bind fun y8 => cond (y8.2 != 0) (some (1, y8.2)) ((flat_columnAt k (a.2.2.1[t]'he.lt) a.2.2.2.2.2.2).bind fun y9 => cond (decide (0 ≤ y9)) (cond (decide (y9 < (x.2.length : Int))) ((amount_Told k y8.1).bind fun y10 => cond (!(eqS (x.2.getD y9.toNat (bs [])) y10)) (some (1, 12)) (some ((0 : Int), (0 : Int)))) none) none)))) (0, 0) := by
      cases hS : eB a.2.2.2.2.2.2 with
      | true =>
        unfold eB at hS
        exact .tt hS (.pure _)
      | false =>
        have hS' : eqS a.2.2.2.2.2.2 (bs []) = false := hS
        obtain ⟨j, hj, hj2⟩ := he.s hS
        obtain ⟨hdk, hdw⟩ := hd' hS
        have hv : x.2.getD ((j : Nat) : Int).toNat (bs []) = B (txL d) := by
          have e : x = (tl.1, ((setC a (a.2.2.1[t]'he.lt) (midL a l).length tl).2).set j (B (txL d))) := by
            rw [hx, set_swap he, setS_f hS hj2]
            exact Prod.ext (setC_1 ..).1 rfl
          rw [e]
          simp only [Int.toNat_natCast]
          have hjl : j < (setC a (a.2.2.1[t]'he.lt) (midL a l).length tl).2.length := by rw [(setC_1 ..).2, hE.len he.lt]; exact hj
          rw [List.getD_eq_getElem?_getD, List.getElem?_set_self hjl]
          rfl
        refine .ff hS' (.bind (ev_inner a _ (by omega)) (.bind sf1 (.ff hsf (.bind (ev_inner a _ (by omega)) (.bind ((ev_aSum2 a _ ha hfx (by omega) hsm (ho' hS)).to hdw) (.ff rfl (.bind ((hcA _).to hj2) (.ck (by omega) (.ck (by omega) (.bind (ev_told2 hdk) (.ff ?_ (.pure _))))))))))))
        rw [hv, eqS_self]
        rfl
    refine .step (fun k => flat_CheckTotals_eq k _ _) (.bind y2 (.ff (by rw [hy]; rfl) (.ff hT' (.bind hA (.ck (by omega) (.ck (by omega) ?_))))))
    rw [hw, last_row]
    cases hC : eB a.2.2.2.2.2.1 with
    | true =>
      have hC' : eqS a.2.2.2.2.2.1 (bs []) = true := hC
      have n1 : (!(eqS a.2.2.2.2.2.1 (bs []))) = false := by rw [hC']; rfl
      exact .bind (.ff n1 (.pure 0)) (.tt (by rw [n1]; rfl) (.tt (by rw [n1]; rfl) (.bind (.ff n1 (.pure [])) (.bind (.ff n1 (.pure _)) (.ff (by rw [n1]; rfl) sum)))))
    | false =>
      have hC' : eqS a.2.2.2.2.2.1 (bs []) = false := hC
      have n1 : (!(eqS a.2.2.2.2.2.1 (bs []))) = true := by rw [hC']; rfl
      obtain ⟨i, hi, hi2⟩ := he.c hC
      have hIt : Ev (fun k => strconv_Itoa k ((midL a (rs ++ [x])).length : Int)) (B (Lib.itoa ((midL a (rs ++ [x])).length : Int))) := ev_Itoa (by omega) (by omega)
      have hv : x.2.getD ((i : Nat) : Int).toNat (bs []) = B (Lib.itoa ((midL a (rs ++ [x])).length : Int)) := by
        have e : x = (tl.1, ((setS a (a.2.2.1[t]'he.lt) d tl).2).set i (B (Lib.itoa ((midL a l).length : Int)))) := by
          rw [hx, setC_f hC hi2]
          exact Prod.ext (setS_1 ..).1 rfl
        rw [hmid, e]
        simp only [Int.toNat_natCast]
        have hil : i < (setS a (a.2.2.1[t]'he.lt) d tl).2.length := by rw [(setS_1 ..).2, hE.len he.lt]; exact hi
        rw [List.getD_eq_getElem?_getD, List.getElem?_set_self hil]
        rfl
      refine .bind (.tt n1 ((hcA _).to hi2)) (.tt (bor' fun _ => by simp) (.tt (bor' fun _ => decide_eq_true (by omega)) (.bind (.tt n1 (ev_inner1 a _ (by omega))) (.bind (.tt n1 hIt) (.ff ?_ sum)))))
      rw [n1, hv, eqS_self]
      rfl
theorem ev_law_closed (a : Fmt) (l : List Row) (ha : FitF a) (hl : FitRs l) : Ev (fun k => interchangelaw6_FlatClosedIsRight k a l) true := by
  have bad : ∀ f : Int, f ≠ 0 → Ev (fun k => flat_Closed k a l) ([], f) → Ev (fun k => interchangelaw6_FlatClosedIsRight k a l) true := fun f hf h =>
    .step (fun k => interchangelaw6_FlatClosedIsRight_eq k _ _) (.bind h (.tt (by simpa using hf) (.bind (x := true) (.tt rfl ev_awakeF) (.pure _))))
  rcases ev_ClosedF a l ha hl with ⟨f, hf, h⟩ | ⟨t, he, tl, rs, d, Y, hE, ho, hd, hfit, hY, h⟩
  · exact bad f hf h
  · generalize hx : setC a (a.2.2.1[t]'he.lt) (midL a l).length (setS a (a.2.2.1[t]'he.lt) d tl) = x at hfit hY h
    by_cases hY0 : Y.2 = 0
    · by_cases hlen : (rs.length : Int) + 1 > 2000
      · have e : endY Y rs x = ([], 2) := by unfold endY; rw [if_neg (by rw [hY0]; decide), if_pos hlen]
        rw [e] at h
        exact bad 2 (by decide) h
      · have e : endY Y rs x = (rs ++ [x], 0) := by unfold endY; rw [if_neg (by rw [hY0]; decide), if_neg hlen]
        rw [e] at h
        obtain ⟨h2, hfx, y, hy, hyt⟩ := ev_again a l ha hl he hE ho hd hx.symm hfit hY hY0 (by omega)
        refine .step (fun k => interchangelaw6_FlatClosedIsRight_eq k _ _) (.bind h (.ff rfl (.bind h2 (.bind (x := true) (.tt rfl (ev_same _ hfx)) (.bind (x := true) (.tt rfl ev_awakeF) (.ff rfl (.bind hy ?_)))))))
        cases hz : (y.2 != 0) with
        | true => exact .tt rfl (.pure _)
        | false => exact .ff rfl (.bind (hyt (by simpa using hz)) (.pure _))
    · have e : endY Y rs x = ([], Y.2) := by unfold endY; rw [if_pos hY0]
      rw [e] at h
      exact bad Y.2 hY0 h
end Go.Proofs.YtebdajjgicfcaaaGreatDoor.Eq
