/- What the functions of this law compute, part 2. -/
import Derived.Test.YtgoepklennckmaaGreatDoorP1
import Derived.Lib.IndexBytes
import Derived.Lib.Replace
import Derived.Lib.Atoi
import Derived.Lib.Split
namespace Go.Ra
open Go
theorem Ev.sel {α : Type} {c e : Bool} {a b : Nat → Option α} {x y : α} (h : c = e) (h1 : e = true → Ev a x) (h2 : e = false → Ev b y) : Ev (fun k => _root_.cond c (a k) (b k)) (_root_.cond e x y) := by
  subst h
  cases c with
  | true => exact h1 rfl
  | false => exact h2 rfl
theorem Ev.gd {α : Type} {c e : Bool} {a : Nat → Option α} {x d : α} (h : c = e) (h1 : e = true → Ev a x) : Ev (fun k => _root_.cond c (a k) (some d)) (_root_.cond e x d) := .sel h h1 fun _ => .pure _
end Go.Ra
namespace Go.Proofs.YtgoepklennckmaaGreatDoor.Eq
open Go Go.Ra
set_option linter.unusedVariables false
theorem ev_up {β : Type} (n : Nat) (sp : Nat → β) (c : Nat → Int → Option β)
    (h1 : ∀ i : Nat, i < n → Ev (fun k => c k ((i + 1 : Nat) : Int)) (sp (i + 1)) → Ev (fun k => c k (i : Int)) (sp i)) (h2 : Ev (fun k => c k (n : Int)) (sp n)) : Ev (fun k => c k 0) (sp 0) := by
  have key : ∀ m i : Nat, n - i = m → i ≤ n → Ev (fun k => c k (i : Int)) (sp i) := by
    intro m
    induction m with
    | zero =>
      intro i hm hi
      have e : i = n := by omega
      subst e
      exact h2
    | succ m ih => exact fun i hm hi => h1 i (by omega) (ih (i + 1) (by omega) (by omega))
  exact key _ 0 rfl (Nat.zero_le _)
theorem ev_up2 {β : Type} (n : Nat) (P : Nat → β → Prop) (c d : Nat → Int → Option β)
    (h1 : ∀ i : Nat, i < n → (∃ y, Ev (fun k => c k ((i + 1 : Nat) : Int)) y ∧ Ev (fun k => d k ((i + 1 : Nat) : Int)) y ∧ P (i + 1) y) → ∃ y, Ev (fun k => c k (i : Int)) y ∧ Ev (fun k => d k (i : Int)) y ∧ P i y)
    (h2 : ∃ y, Ev (fun k => c k (n : Int)) y ∧ Ev (fun k => d k (n : Int)) y ∧ P n y) : ∃ y, Ev (fun k => c k 0) y ∧ Ev (fun k => d k 0) y ∧ P 0 y := by
  have key : ∀ m i : Nat, n - i = m → i ≤ n → ∃ y, Ev (fun k => c k (i : Int)) y ∧ Ev (fun k => d k (i : Int)) y ∧ P i y := by
    intro m
    induction m with
    | zero =>
      intro i hm hi
      have e : i = n := by omega
      subst e
      exact h2
    | succ m ih => exact fun i hm hi => h1 i (by omega) (ih (i + 1) (by omega) (by omega))
  exact key _ 0 rfl (Nat.zero_le _)
def nzF (f : Nat → Int) (d : Int) : Nat → Nat → Int
  | 0, _ => d
  | m + 1, i => cond (f i != 0) (f i) (nzF f d m (i + 1))
theorem nz_zero {f : Nat → Int} {d : Int} : ∀ {m i : Nat}, nzF f d m i = 0 → (∀ j, i ≤ j → j < i + m → f j = 0) ∧ d = 0
  | 0, i, h => ⟨fun j h1 h2 => by omega, h⟩
  | m + 1, i, h => by
    unfold nzF at h
    cases hf : (f i != 0) with
    | true =>
      rw [hf] at h
      have h' : f i = 0 := h
      rw [h'] at hf
      cases hf
    | false =>
      rw [hf] at h
      have h0 : f i = 0 := by simpa using hf
      obtain ⟨h1, h2⟩ := nz_zero (f := f) (d := d) (m := m) (i := i + 1) h
      refine ⟨fun j q1 q2 => ?_, h2⟩
      by_cases e : j = i
      · rw [e]; exact h0
      · exact h1 j (by omega) (by omega)
theorem ev_nz (n : Nat) (f : Nat → Int) (d : Int) (c : Nat → Int → Option Int)
    (h1 : ∀ i : Nat, i < n → ∀ y, Ev (fun k => c k ((i + 1 : Nat) : Int)) y → Ev (fun k => c k (i : Int)) (cond (f i != 0) (f i) y)) (h2 : Ev (fun k => c k (n : Int)) d) : Ev (fun k => c k 0) (nzF f d n 0) := by
  have := ev_up n (fun i => nzF f d (n - i) i) c (fun i hi h => by
    have e : n - i = (n - (i + 1)) + 1 := by omega
    show Ev _ (nzF f d (n - i) i)
    rw [e]
    exact h1 i hi _ h) (by
    show Ev _ (nzF f d (n - n) n)
    rw [Nat.sub_self]
    exact h2)
  exact this
def inB (a b c : Int) : Bool := decide (b ≤ a) && decide (a ≤ c)
theorem ev_outF (a b c : Int) : Ev (fun k => kit_Outside k a b c) (!inB a b c) := .step (fun k => kit_Outside_eq k _ _ _) (.to (.pure _) (by
  unfold inB
  by_cases h1 : a < b
  · rw [decide_eq_true h1, decide_eq_false (by omega : ¬ b ≤ a)]; rfl
  · rw [decide_eq_false h1, decide_eq_true (by omega : b ≤ a)]
    by_cases h2 : a > c
    · rw [decide_eq_true h2, decide_eq_false (by omega : ¬ a ≤ c)]; rfl
    · rw [decide_eq_false h2, decide_eq_true (by omega : a ≤ c)]; rfl))
def markB (a : Int) : Bool := cond (cond (cond (cond (cond (cond (decide (a ≥ 32)) (decide (a ≤ 126)) false) (cond (decide (a < 48)) true (decide (a > 57))) false) (cond (decide (a < 65)) true (decide (a > 90))) false) (cond (decide (a < 97)) true (decide (a > 122))) false) (a != 45) false) (a != 46) false
theorem enc_one {a : Int} (h1 : 0 ≤ a) (h2 : a < 128) : Utf8.encode a = B [UInt8.ofNat a.toNat] := by
  have : ∀ n : Fin 128, Utf8.encode (n.val : Int) = B [UInt8.ofNat n.val] := by decide +kernel
  have h := this ⟨a.toNat, by omega⟩
  have e : ((a.toNat : Nat) : Int) = a := Int.toNat_of_nonneg h1
  rw [e] at h
  exact h
theorem ev_alnum (l : List UInt8) (hn : l.length ≤ 9223372036854775807) : Ev (fun k => kit_IsTagPart k (B l)) (l.all bdB) := by
  refine .step (fun k => kit_IsTagPart_eq k _) (.bind (x := B (Lib.trimS l alnum)) ?_ (.to (.pure _) ?_))
  · refine .off (n := 0) fun k => ?_
    have e3 : (B l).data.toList = l := L_B l
    rw [strings_Trim_eq, size_B, e3, decide_eq_true hn]
    rfl
  · have ha : (fun x => alnum.contains x) = bdB := funext alnum_iff
    have := trimS_nil l alnum
    rw [ha] at this
    rw [eqS_nil, L_B]
    cases hl : l.all bdB with
    | true => rw [this.2 hl]; rfl
    | false =>
      have h2 : Lib.trimS l alnum ≠ [] := fun z => by rw [this.1 z] at hl; cases hl
      cases ht : Lib.trimS l alnum with
      | nil => exact absurd ht h2
      | cons => rfl
theorem mark_fin : ∀ n : Fin 128, (cond (cond (cond (cond (cond (decide ((n.val : Int) < 32)) true (decide ((n.val : Int) > 126))) true ([UInt8.ofNat n.val].all bdB)) true (([UInt8.ofNat n.val] : List UInt8).all fun b => decide ((97 : Int) ≤ (b.toNat : Int)) && decide ((b.toNat : Int) ≤ 122))) true ((n.val : Int) == 45)) true ((n.val : Int) == 46)) = !markB (n.val : Int) := by decide +kernel
theorem ev_mark (a : Int) : Ev (fun k => flat_markFault k a) (!markB a) := by
  refine .step (fun k => flat_markFault_eq k _) ?_
  by_cases h : a < 32 ∨ a > 126
  · have e : (cond (decide (a < 32)) true (decide (a > 126))) = true := by
      rcases h with h | h
      · rw [decide_eq_true h]; rfl
      · rw [decide_eq_true h]; cases decide (a < 32) <;> rfl
    rw [e]
    refine .bind (x := false) (.ff rfl (.pure _)) (.bind (x := false) (.ff rfl (.pure _)) (.to (.pure _) ?_))
    have : markB a = false := by
      unfold markB
      rcases h with h | h
      · rw [decide_eq_false (by omega : ¬ a ≥ 32)]; rfl
      · rw [decide_eq_false (by omega : ¬ a ≤ 126)]; cases decide (a ≥ 32) <;> rfl
    rw [this]
    rfl
  · have e : (cond (decide (a < 32)) true (decide (a > 126))) = false := by
      rw [decide_eq_false (by omega : ¬ a < 32), decide_eq_false (by omega : ¬ a > 126)]
      rfl
    have hm := mark_fin ⟨a.toNat, by omega⟩
    have ea : ((a.toNat : Nat) : Int) = a := Int.toNat_of_nonneg (by omega)
    rw [ea, e] at hm
    rw [e, enc_one (by omega) (by omega)]
    refine .bind (.tt rfl (ev_alnum _ (by simp))) ?_
    cases h1 : ([UInt8.ofNat a.toNat].all bdB) with
    | true =>
      rw [h1] at hm
      refine .bind (x := false) (.ff rfl (.pure _)) (.to (.pure _) ?_)
      rw [← hm]
      rfl
    | false =>
      rw [h1] at hm
      have h2 := ev_InBytes (B [UInt8.ofNat a.toNat]) 97 122 (by rw [size_B]; simp)
      rw [L_B] at h2
      exact .bind (.tt rfl h2) (.to (.pure _) hm)
def mk12 (a b : Int) : Bool := (a != 0) && (!markB a || ((b != 0) && !markB b) || (a == b))
def mk3 (a b : Int) : Bool := (a == 0) && (b != 0)
theorem ev_marks (a : Fmt) : Ev (fun k => flat_marksFault k a) (cond (mk12 a.1 a.2.1) 12 (cond (mk3 a.1 a.2.1) 3 0)) := by
  refine .step (fun k => flat_marksFault_eq k _) (.bind (.gd rfl fun _ => ev_mark _) (.bind (.gd rfl fun _ => ev_mark _) (.sel ?_ (fun _ => .pure _) fun _ => .sel ?_ (fun _ => .pure _) fun _ => .pure _)))
  · unfold mk12
    cases (a.1 != 0) <;> cases markB a.1 <;> cases (a.2.1 != 0) <;> cases markB a.2.1 <;> cases (a.1 == a.2.1) <;> rfl
  · unfold mk3
    cases (a.1 == 0) <;> rfl
def tagB (s : ByteArray) : Bool := inB (s.size : Int) 1 6 && (L s).all bdB
def wOf (f : Int) : Int := cond (f == 1) 8 (cond (f == 3) 8 (cond (f == 4) 10 (cond (f == 5) 7 0)))
theorem ev_formWidth (f : Int) : Ev (fun k => flat_formWidth k f) (wOf f) := by
  refine .step (fun k => flat_formWidth_eq k _) ?_
  unfold wOf
  refine .sel rfl (fun h => .tt h (.pure _)) fun _ => .sel rfl (fun _ => .pure _) fun _ => .sel rfl (fun _ => .pure _) fun _ => .sel rfl (fun _ => .pure _) fun _ => .pure _
theorem wOf_zero (f : Int) : (wOf f == 0) = (!inB f 1 5 || (f == 2)) := by
  unfold wOf inB
  by_cases h1 : f = 1
  · subst h1; rfl
  by_cases h2 : f = 2
  · subst h2; rfl
  by_cases h3 : f = 3
  · subst h3; rfl
  by_cases h4 : f = 4
  · subst h4; rfl
  by_cases h5 : f = 5
  · subst h5; rfl
  rw [beq_false_of_ne h1, beq_false_of_ne h2, beq_false_of_ne h3, beq_false_of_ne h4, beq_false_of_ne h5]
  by_cases h : 1 ≤ f
  · rw [decide_eq_true h, decide_eq_false (by omega : ¬ f ≤ 5)]; rfl
  · rw [decide_eq_false h]; rfl
def busy (m : Int) (b : Col) : Bool := (!(b.2.1 == 2) && !(b.2.2.2.1 == 0)) || (!(b.2.1 == 3) && !(b.2.2.2.2.1 == 0)) || (((b.2.1 == 3) || !(m == 0)) && (b.2.2.2.2.2.1 || !(b.2.2.2.2.2.2.1 == 0)))
def colF (m : Int) (own : Bool) (b : Col) : Int :=
  cond (!nameB b.1) 5 (cond (!own) 7 (cond (!inB b.2.1 1 3) 4 (cond (!inB b.2.2.1 1 100) 1 (cond ((b.2.1 == 2) && !inB b.2.2.2.1 0 9) 1 (cond ((b.2.1 == 3) && (wOf b.2.2.2.2.1 == 0)) 4
    (cond (busy m b) 3 (cond (m != 0) 0 (cond (b.2.1 == 3) (cond (b.2.2.1 != wOf b.2.2.2.2.1) 12 0) (cond (!(b.2.2.2.2.2.2.1 == 32) && !((b.2.1 == 2) && (b.2.2.2.2.2.2.1 == 48) && b.2.2.2.2.2.1)) 3 0)))))))))
theorem ev_idle (a : Fmt) (b : Col) : Ev (fun k => flat_idle k a b) (!busy a.1 b) := by
  refine .step (fun k => flat_idle_eq k _ _) (.to (.pure _) ?_)
  unfold busy
  generalize (b.2.1 == 2) = x1
  generalize (b.2.2.2.1 == 0) = x2
  generalize (b.2.1 == 3) = x3
  generalize (b.2.2.2.2.1 == 0) = x4
  generalize (a.1 == 0) = x5
  generalize b.2.2.2.2.2.1 = x6
  generalize (b.2.2.2.2.2.2.1 == 0) = x7
  revert x1 x2 x3 x4 x5 x6 x7
  decide
theorem ev_column (a : Fmt) (b : Col) (c : List Col) (hc : c.length < 1125899906842624) : Ev (fun k => flat_columnFault k a b c) (colF a.1 (!decide (0 ≤ cOf c b.1)) b) := by
  refine .step (fun k => flat_columnFault_eq k _ _ _) ?_
  unfold colF
  refine .bind (ev_IsName b.1) (.sel rfl (fun _ => .pure _) fun _ => .bind (ev_hasCf c b hc) (.sel (by simp) (fun _ => .pure _) fun _ => .bind (ev_outF _ _ _) (.sel rfl (fun _ => .pure _) fun _ => .bind (ev_outF _ _ _) (.sel rfl (fun _ => .pure _) fun _ => ?_))))
  refine .bind (.gd rfl fun _ => ev_outF _ _ _) (.sel ?_ (fun _ => .pure _) fun _ => .bind (.gd rfl fun _ => ev_formWidth _) (.sel ?_ (fun _ => .pure _) fun hf => .bind (ev_idle _ _) (.sel (by simp) (fun _ => .pure _) fun _ => .sel rfl (fun _ => .pure _) fun _ => ?_)))
  · cases (b.2.1 == 2) <;> rfl
  · cases (b.2.1 == 3) <;> rfl
  · cases h3 : (b.2.1 == 3) with
    | true =>
      show Ev _ (cond (b.2.2.1 != wOf b.2.2.2.2.1) 12 0)
      exact .ff rfl (.bind (.tt rfl (ev_formWidth _)) (.sel rfl (fun _ => .pure _) fun _ => .pure _))
    | false =>
      show Ev _ (cond (!(b.2.2.2.2.2.2.1 == 32) && !((b.2.1 == 2) && (b.2.2.2.2.2.2.1 == 48) && b.2.2.2.2.2.1)) 3 0)
      refine .sel ?_ (fun _ => .pure _) fun _ => .bind (x := 0) (.ff rfl (.pure _)) (.ff rfl (.pure _))
      unfold bne
      generalize (b.2.1 == 2) = x1
      generalize b.2.2.2.2.2.1 = x6
      generalize (b.2.2.2.2.2.2.1 == 32) = x7
      generalize (b.2.2.2.2.2.2.1 == 48) = x8
      revert x1 x6 x7 x8
      decide
end Go.Proofs.YtgoepklennckmaaGreatDoor.Eq
namespace Go.Proofs.YtgoepklennckmaaGreatDoor.Eq
open Go Go.Ra
set_option linter.unusedVariables false
structure FitF (a : Fmt) : Prop where
  n : a.2.2.1.length < 1125899906842624
  t : ∀ kd ∈ a.2.2.1, kd.1.size < 1125899906842624
  c : ∀ kd ∈ a.2.2.1, kd.2.1.length < 1125899906842624
def colAt (m : Int) (cs : List Col) (j : Nat) : Int := colF m (cOf cs (cs.getD j col0).1 == (j : Int)) (cs.getD j col0)
def kndT (a : Fmt) (i : Nat) (kd : Knd) : Int := cond (!inB kd.2.2.1 0 2000) 1 (cond (!(eqS kd.2.2.2 (bs [])) && (decide (kOf a.2.2.1 kd.2.2.2 < 0) || decide (kOf a.2.2.1 kd.2.2.2 ≥ (i : Int)))) 5 0)
def kndF (a : Fmt) (i : Nat) (kd : Knd) : Int :=
  cond (!tagB kd.1) 3 (cond (!(kOf a.2.2.1 kd.1 == (i : Int))) 7 (cond ((a.1 == 0) && ((kd.1.size : Int) != ((a.2.2.1.getD 0 knd0).1.size : Int))) 3 (cond (decide ((kd.2.1.length : Int) > 50)) 2 (nzF (colAt a.1 kd.2.1) (kndT a i kd) kd.2.1.length 0))))
theorem getD_nat {α : Type} {l : List α} {i : Nat} (h : i < l.length) (d : α) : l.getD i d = l[i] := by
  rw [List.getD_eq_getElem?_getD, List.getElem?_eq_getElem h]
  rfl
theorem own_eq {α : Type} (p : α → Bool) (l : List α) (i : Nat) (hi : i < l.length) (h : p l[i] = true) : (!decide (0 ≤ ixI p (l.take i))) = (ixI p l == (i : Int)) := by
  have := ixI_own p l i hi h
  by_cases h2 : ixI p l = (i : Int)
  · rw [h2, beq_self_eq_true, decide_eq_false (fun z => this.2 z h2)]; rfl
  · rw [beq_false_of_ne h2, decide_eq_true (this.1 h2)]; rfl
theorem take_lt {α : Type} {l : List α} {i n : Nat} (h : l.length < n) : (l.take i).length < n := by
  rw [List.length_take]; omega
theorem ev_kind (a : Fmt) (i : Nat) (hi : i < a.2.2.1.length) (ha : FitF a) : Ev (fun k => flat_kindFault k a (i : Int)) (kndF a i a.2.2.1[i]) := by
  have hc := ha.c _ (List.getElem_mem hi)
  have ht := ha.t _ (List.getElem_mem hi)
  have hn := ha.n
  have hown := own_eq (tagP (a.2.2.1[i]).1) a.2.2.1 i hi (eqS_self _)
  refine .step (fun k => flat_kindFault_eq k _ _) (.ck (by omega) (.ck (by omega) ?_))
  rw [getD_at hi]
  generalize a.2.2.1[i] = kd at *
  unfold kndF
  have hin : (cond (decide ((kd.1.size : Int) < 1)) true (decide ((kd.1.size : Int) > 6))) = !inB (kd.1.size : Int) 1 6 := by
    unfold inB
    by_cases h1 : (kd.1.size : Int) < 1
    · rw [decide_eq_true h1, decide_eq_false (by omega : ¬ (1 : Int) ≤ (kd.1.size : Int))]; rfl
    · rw [decide_eq_false h1, decide_eq_true (by omega : (1 : Int) ≤ (kd.1.size : Int))]
      by_cases h2 : (kd.1.size : Int) > 6
      · rw [decide_eq_true h2, decide_eq_false (by omega : ¬ (kd.1.size : Int) ≤ 6)]; rfl
      · rw [decide_eq_false h2, decide_eq_true (by omega : (kd.1.size : Int) ≤ 6)]; rfl
  have htag := ev_alnum (L kd.1) (by have := size_L kd.1; omega)
  rw [B_L] at htag
  rw [hin]
  refine .bind (.gd rfl fun _ => htag) (.sel ?_ (fun _ => .pure _) fun _ => .ck (by omega) (.ck (by omega) ?_))
  · unfold tagB
    cases inB (kd.1.size : Int) 1 6 <;> cases (L kd.1).all bdB <;> rfl
  · rw [Int.toNat_natCast]
    refine .bind (ev_hasKf1 _ kd (take_lt hn)) (.sel ?_ (fun _ => .pure _) fun _ => .tt (by simp) (.tt (by simp; omega) (.sel ?_ (fun _ => .pure _) fun _ => .sel rfl (fun _ => .pure _) fun _ => ?_)))
    · show _ = !(ixI (tagP kd.1) a.2.2.1 == (i : Int))
      rw [← hown, Bool.not_not]
      rfl
    · cases (a.1 == 0) <;> rfl
    · refine ev_nz kd.2.1.length (colAt a.1 kd.2.1) (kndT a i kd) (fun k j => flat_kindFault_c12 k (i : Int) a kd kd.2.1 (kd.2.1.length : Int) j) (fun j hj y hy => ?_) ?_
      · have ho := own_eq (colP (kd.2.1[j]).1) kd.2.1 j hj (eqS_self _)
        have hcol := ev_column a kd.2.1[j] (kd.2.1.take j) (take_lt hc)
        have ho' : (!decide (0 ≤ cOf (kd.2.1.take j) (kd.2.1[j]).1)) = (cOf kd.2.1 (kd.2.1[j]).1 == (j : Int)) := ho
        rw [ho'] at hcol
        refine .step (fun k => flat_kindFault_c12_eq k _ _ _ _ _ _) (.ck (by omega) (.ck (by omega) (.ck (by omega) (.ck (by omega) (.ck (by omega) ?_)))))
        rw [getD_at hj, wj hj hc, Int.toNat_natCast]
        unfold colAt
        rw [getD_nat hj]
        exact .bind hcol (.sel rfl (fun _ => .pure _) fun _ => hy)
      · unfold kndT
        have htk := ixI_take (tagP kd.2.2.2) a.2.2.1 i (by omega)
        refine .step (fun k => flat_kindFault_c12_eq k _ _ _ _ _ _) (.nk (by omega) (.bind (ev_outF _ _ _) (.sel rfl (fun _ => .pure _) fun _ => .tt (by simp) (.tt (by simp; omega) ?_))))
        rw [Int.toNat_natCast]
        refine .bind (.gd rfl fun _ => ev_hasKf2 _ kd (take_lt hn)) (.sel ?_ (fun _ => .pure _) fun _ => .pure _)
        have e : decide (0 ≤ kOf (a.2.2.1.take i) kd.2.2.2) = !(decide (kOf a.2.2.1 kd.2.2.2 < 0) || decide (kOf a.2.2.1 kd.2.2.2 ≥ (i : Int))) := by
          unfold kOf
          by_cases h : 0 ≤ ixI (tagP kd.2.2.2) (a.2.2.1.take i)
          · have := htk.1 h
            rw [decide_eq_true h, decide_eq_false (by omega), decide_eq_false (by omega)]
            rfl
          · rw [decide_eq_false h]
            have h' : ¬ (0 ≤ ixI (tagP kd.2.2.2) a.2.2.1 ∧ ixI (tagP kd.2.2.2) a.2.2.1 < i) := fun z => h (htk.2 z)
            by_cases h1 : ixI (tagP kd.2.2.2) a.2.2.1 < 0
            · rw [decide_eq_true h1]; rfl
            · rw [decide_eq_false h1, decide_eq_true (by omega : ixI (tagP kd.2.2.2) a.2.2.1 ≥ (i : Int))]; rfl
        rw [e]
        cases eqS kd.2.2.2 (bs []) <;> cases (decide (kOf a.2.2.1 kd.2.2.2 < 0) || decide (kOf a.2.2.1 kd.2.2.2 ≥ (i : Int))) <;> rfl
def eB (s : ByteArray) : Bool := eqS s (bs [])
def cntB (cs : List Col) (c : ByteArray) (any : Bool) : Bool := decide (0 ≤ cOf cs c) && ((cs.getD (cOf cs c).toNat col0).2.1 == 2) && (any || ((cs.getD (cOf cs c).toNat col0).2.2.2.1 == 0))
def endF (a : Fmt) : Int :=
  cond ((!eB a.2.2.2.1 && decide (kOf a.2.2.1 a.2.2.2.1 < 0)) || (!eB a.2.2.2.2.1 && decide (kOf a.2.2.1 a.2.2.2.2.1 < 0))) 5 (cond (!eB a.2.2.2.1 && eqS a.2.2.2.1 a.2.2.2.2.1) 12 (cond (eB a.2.2.2.2.1 && (!eB a.2.2.2.2.2.1 || !eB a.2.2.2.2.2.2)) 3
    (cond ((!eB a.2.2.2.2.2.1 && !cntB (kAt a.2.2.1 a.2.2.2.2.1).1.2.1 a.2.2.2.2.2.1 false) || (!eB a.2.2.2.2.2.2 && !cntB (kAt a.2.2.1 a.2.2.2.2.1).1.2.1 a.2.2.2.2.2.2 true)) 5 (cond (!eB a.2.2.2.2.2.1 && eqS a.2.2.2.2.2.1 a.2.2.2.2.2.2) 12 0))))
theorem kAt_len (ks : List Knd) (t : ByteArray) (h : ∀ kd ∈ ks, kd.2.1.length < 1125899906842624) : (kAt ks t).1.2.1.length < 1125899906842624 := by
  unfold kAt
  split
  · rename_i h0
    obtain ⟨i, hi, e, _⟩ := ixI_get h0
    have e' : kOf ks t = (i : Int) := e
    rw [e']
    show (ks.getD ((i : Nat) : Int).toNat knd0).2.1.length < _
    rw [getD_at hi]
    exact h _ (List.getElem_mem hi)
  · exact Nat.zero_lt_succ _
theorem kAt_2 (ks : List Knd) (t : ByteArray) : (kAt ks t).2 = !decide (kOf ks t < 0) := by
  unfold kAt
  split
  · rw [decide_eq_false (by omega)]; rfl
  · rw [decide_eq_true (by omega)]; rfl
theorem ev_cnt {F : Nat → Option Int} {y : Int} (kd : Knd) (hl : kd.2.1.length < 1125899906842624) (c : ByteArray) (j : Int) (any : Bool) (hj : (j == 0) = !any) (hF : (!eB c && !cntB kd.2.1 c any) = false → Ev F y) :
    Ev (fun k => cond (eqS c (bs [])) (F k) ((flat_columnAt k kd c).bind fun y2 =>
      cond ((!(!(decide (y2 < 0)))) || (decide (0 ≤ y2))) (
      cond ((!(!(decide (y2 < 0)))) || (decide (y2 < (kd.2.1.length : Int)))) (
      cond ((!((!(cond (decide (y2 < 0)) true (((kd.2.1.getD y2.toNat col0).2).1 != 2))) && (j == 0))) || (decide (0 ≤ y2))) (
      cond ((!((!(cond (decide (y2 < 0)) true (((kd.2.1.getD y2.toNat col0).2).1 != 2))) && (j == 0))) || (decide (y2 < (kd.2.1.length : Int)))) (
      cond (cond (cond (decide (y2 < 0)) true (((kd.2.1.getD y2.toNat col0).2).1 != 2)) true (cond (j == 0) (((((kd.2.1.getD y2.toNat col0).2).2).2).1 != 0) false)) (
        some 5) (F k)) none) none) none) none)) (cond (!eB c && !cntB kd.2.1 c any) 5 y) := by
  have hcl := ixI_lt (colP c) kd.2.1
  have hcl' : cOf kd.2.1 c < kd.2.1.length := hcl.2
  have hneg : decide (0 ≤ cOf kd.2.1 c) = !decide (cOf kd.2.1 c < 0) := by
    by_cases h : cOf kd.2.1 c < 0
    · rw [decide_eq_true h, decide_eq_false (by omega)]; rfl
    · rw [decide_eq_false h, decide_eq_true (by omega)]; rfl
  cases he : eqS c (bs []) with
  | true =>
    have e2 : eB c = true := he
    rw [e2]
    rw [e2] at hF
    exact hF rfl
  | false =>
    have e2 : eB c = false := he
    rw [e2]
    rw [e2] at hF
    refine .bind (ev_columnAt kd c hl) (.tt (bor' fun z => ?_) (.tt (bor' fun _ => by simpa using hcl') (.tt (bor' fun z => ?_) (.tt (bor' fun _ => by simpa using hcl') (.sel ?_ (fun _ => .pure _) fun h => hF h)))))
    · rw [hneg]; simpa using z
    · rw [hneg]
      cases h : decide (cOf kd.2.1 c < 0) with
      | false => rfl
      | true => rw [h] at z; cases z
    · unfold cntB
      rw [hneg, hj]
      unfold bne
      cases decide (cOf kd.2.1 c < 0) <;> cases any <;> cases ((kd.2.1.getD (cOf kd.2.1 c).toNat col0).2.1 == 2) <;> cases ((kd.2.1.getD (cOf kd.2.1 c).toNat col0).2.2.2.1 == 0) <;> rfl
theorem ev_ends (a : Fmt) (ha : FitF a) : Ev (fun k => flat_endsFault k a) (endF a) := by
  have hlen := kAt_len a.2.2.1 a.2.2.2.2.1 ha.c
  refine .step (fun k => flat_endsFault_eq k _) (.step (fun k => flat_endsFault_c2_eq k _ _ _ _) (.ck (by decide) (.ck (by decide) (.ck (show (0 : Int) < ((2 : Nat) : Int) by decide) (.bind (ev_kindAt a a.2.2.2.1 ha.n) ?_)))))
  rw [kAt_2]
  unfold endF
  show Ev _ (cond ((!eB a.2.2.2.1 && decide (kOf a.2.2.1 a.2.2.2.1 < 0)) || (!eB a.2.2.2.2.1 && decide (kOf a.2.2.1 a.2.2.2.2.1 < 0))) 5 _)
  have e1 : ∀ (t : ByteArray), (cond (!(eqS t (bs []))) (!(!decide (kOf a.2.2.1 t < 0))) false) = (!eB t && decide (kOf a.2.2.1 t < 0)) := fun t => by
    show (cond (!eB t) _ false) = _
    cases eB t <;> cases decide (kOf a.2.2.1 t < 0) <;> rfl
  have g0 : ([a.2.2.2.1, a.2.2.2.2.1] : List ByteArray).getD (0 : Int).toNat (bs []) = a.2.2.2.1 := rfl
  have g1 : ([a.2.2.2.1, a.2.2.2.2.1] : List ByteArray).getD (wi64 (0 + 1)).toNat (bs []) = a.2.2.2.2.1 := rfl
  rw [g0, e1]
  cases hA : (!eB a.2.2.2.1 && decide (kOf a.2.2.1 a.2.2.2.1 < 0)) with
  | true => exact .pure _
  | false =>
    rw [Bool.false_or]
    refine .ff rfl (.step (fun k => flat_endsFault_c2_eq k _ _ _ _) (.ck (by decide) (.ck (by decide) (.ck (show (1 : Int) < ((2 : Nat) : Int) by decide) (.bind (ev_kindAt a _ ha.n) ?_)))))
    rw [kAt_2, g1, e1]
    refine .sel rfl (fun _ => .pure _) fun _ => .step (fun k => flat_endsFault_c2_eq k _ _ _ _) (.nk (by decide) (.sel ?_ (fun _ => .pure _) fun _ => .sel ?_ (fun _ => .pure _) fun _ => .bind (ev_kindAt a _ ha.n) ?_))
    · show (cond _ (!eB _) false) = _
      cases eB a.2.2.2.1 <;> cases eqS a.2.2.2.1 a.2.2.2.2.1 <;> rfl
    · show (cond (eB _) (cond (!eB _) true (!eB _)) false) = _
      cases eB a.2.2.2.2.1 <;> cases eB a.2.2.2.2.2.1 <;> cases eB a.2.2.2.2.2.2 <;> rfl
    · generalize (kAt a.2.2.1 a.2.2.2.2.1).1 = kd at *
      have key := ev_cnt (y := cond (!eB a.2.2.2.2.2.2 && !cntB kd.2.1 a.2.2.2.2.2.2 true) 5 (cond (!eB a.2.2.2.2.2.1 && eqS a.2.2.2.2.2.1 a.2.2.2.2.2.2) 12 0)) (F := fun k => flat_endsFault_c14 k a kd [a.2.2.2.2.2.1, a.2.2.2.2.2.2] 2 1) kd hlen a.2.2.2.2.2.1 0 false rfl fun _ => by
        refine .step (fun k => flat_endsFault_c14_eq k _ _ _ _ _) (.ck (by decide) (.ck (by decide) (.ck (show (1 : Int) < ((2 : Nat) : Int) by decide) ?_)))
        refine ev_cnt (F := fun k => flat_endsFault_c14 k a kd [a.2.2.2.2.2.1, a.2.2.2.2.2.2] 2 2) kd hlen a.2.2.2.2.2.2 1 true rfl fun _ => ?_
        refine .step (fun k => flat_endsFault_c14_eq k _ _ _ _ _) (.nk (by decide) (.sel ?_ (fun _ => .pure _) fun _ => .pure _))
        show (cond _ (!eB _) false) = _
        cases eB a.2.2.2.2.2.1 <;> cases eqS a.2.2.2.2.2.1 a.2.2.2.2.2.2 <;> rfl
      refine .step (fun k => flat_endsFault_c14_eq k _ _ _ _ _) (.ck (by decide) (.ck (by decide) (.ck (show (0 : Int) < ((2 : Nat) : Int) by decide) (key.to ?_))))
      cases (!eB a.2.2.2.2.2.1 && !cntB kd.2.1 a.2.2.2.2.2.1 false) <;> cases (!eB a.2.2.2.2.2.2 && !cntB kd.2.1 a.2.2.2.2.2.2 true) <;> rfl
def fmtF (a : Fmt) : Int := cond (mk12 a.1 a.2.1) 12 (cond (mk3 a.1 a.2.1) 3 (cond ((a.2.2.1.length : Int) == 0) 9 (cond (decide ((a.2.2.1.length : Int) > 30)) 2 (nzF (fun i => kndF a i (a.2.2.1.getD i knd0)) (endF a) a.2.2.1.length 0))))
theorem ev_CheckFormat (a : Fmt) (ha : FitF a) : Ev (fun k => flat_CheckFormat k a) (fmtF a) := by
  refine .step (fun k => flat_CheckFormat_eq k _) (.bind (ev_marks a) ?_)
  unfold fmtF
  cases mk12 a.1 a.2.1 with
  | true => exact .pure _
  | false =>
    cases mk3 a.1 a.2.1 with
    | true => exact .pure _
    | false =>
      show Ev _ (cond ((a.2.2.1.length : Int) == 0) 9 _)
      refine .ff rfl (.sel rfl (fun _ => .pure _) fun _ => .sel rfl (fun _ => .pure _) fun _ => ?_)
      refine ev_nz a.2.2.1.length _ _ (fun k i => flat_CheckFormat_c9 k a (a.2.2.1.length : Int) i) (fun i hi y hy => ?_) ?_
      · refine .step (fun k => flat_CheckFormat_c9_eq k _ _ _) (.ck (by omega) (.bind (ev_kind a i hi ha) ?_))
        rw [getD_nat hi, wj hi ha.n]
        exact .sel rfl (fun _ => .pure _) fun _ => hy
      · exact .step (fun k => flat_CheckFormat_c9_eq k _ _ _) (.nk (by omega) (.ret (ev_ends a ha) rfl))
end Go.Proofs.YtgoepklennckmaaGreatDoor.Eq
namespace Go.Proofs.YtgoepklennckmaaGreatDoor.Eq
open Go Go.Ra
set_option linter.unusedVariables false

end Go.Proofs.YtgoepklennckmaaGreatDoor.Eq
namespace Go.Proofs.YtgoepklennckmaaGreatDoor.Eq
open Go Go.Ra
set_option linter.unusedVariables false

/- the reference -/
end Go.Proofs.YtgoepklennckmaaGreatDoor.Eq
namespace Go.Ra
open Go Go.Ra
theorem dec_all (n : Nat) : ∀ b ∈ Lib.decDigits n, dgB b = true := digB_all (dec_dig n).1
end Go.Ra
namespace Go.Proofs.YtgoepklennckmaaGreatDoor.Eq
open Go Go.Ra
set_option linter.unusedVariables false

theorem ptL_dg (n p : Nat) : ∀ b ∈ ptL n p, dgB b = true := by
  intro b hb
  unfold ptL at hb
  rcases List.mem_append.1 hb with h | h
  · rw [(List.mem_replicate.1 h).2]; rfl
  · exact dec_all n b h
theorem befL_dg (n p : Nat) : ∀ b ∈ befL n p, dgB b = true := fun b h => ptL_dg n p b (List.mem_of_mem_take h)
theorem behL_dg (n p : Nat) : ∀ b ∈ behL n p, dgB b = true := fun b h => ptL_dg n p b (List.mem_of_mem_drop h)
theorem dg_ne {l : List UInt8} (h : ∀ b ∈ l, dgB b = true) {c : UInt8} (hc : dgB c = false) : c ∉ l := fun z => by rw [h c z] at hc; exact absurd hc (by decide)
theorem befL_pos (n p : Nat) : 1 ≤ (befL n p).length := by
  have := ptL_len n p
  unfold befL
  rw [List.length_take]
  omega
def tlL (d : Int × Int) : List UInt8 := if d.2 = 0 then [] else 46 :: behL d.1.natAbs d.2.toNat
theorem cutP_tx (d : Int × Int) : cutP (txL d) = (befL d.1.natAbs d.2.toNat ++ tlL d, decide (d.1 < 0)) := by
  have e : txL d = (if d.1 < 0 then [45] else []) ++ (befL d.1.natAbs d.2.toNat ++ tlL d) := by unfold txL tlL; rw [List.append_assoc]
  rw [e]
  unfold cutP
  by_cases h : d.1 < 0
  · simp [h]
  · have hp := befL_pos d.1.natAbs d.2.toNat
    have hd := befL_dg d.1.natAbs d.2.toNat
    cases hb : befL d.1.natAbs d.2.toNat with
    | nil => rw [hb] at hp; simp at hp
    | cons b t =>
      rw [hb] at hd
      have : b ≠ 45 := fun z => by have := hd b (by simp); rw [z] at this; exact absurd this (by decide)
      simp [h, this]
theorem cutB_tx (d : Int × Int) : cutB (befL d.1.natAbs d.2.toNat ++ tlL d) 46 = (befL d.1.natAbs d.2.toNat, if d.2 = 0 then [] else behL d.1.natAbs d.2.toNat, decide (d.2 ≠ 0)) := by
  have hn : (46 : UInt8) ∉ befL d.1.natAbs d.2.toNat := dg_ne (befL_dg _ _) (by decide)
  unfold tlL
  by_cases h : d.2 = 0
  · rw [if_pos h, if_pos h, List.append_nil, cutB_none hn]
    simp [h]
  · rw [if_neg h, if_neg h, cutB_app hn]
    simp [h]

end Go.Proofs.YtgoepklennckmaaGreatDoor.Eq
namespace Go.Ra
open Go Go.Ra
theorem dv_zeros (k : Nat) (l : List UInt8) : dv (List.replicate k 48 ++ l) = dv l := by
  induction k with
  | zero => rfl
  | succ k ih =>
    rw [List.replicate_succ, List.cons_append]
    exact ih
theorem dec_head : ∀ (n : Nat), 0 < n → (Lib.decDigits n).head? ≠ some 48 := by
  intro n
  induction n using Nat.strongRecOn with
  | ind n ih =>
    intro h0
    by_cases h : n < 10
    · rw [Lib.decDigits_one h]
      have : ∀ k : Fin 10, 0 < k.val → ([UInt8.ofNat (48 + k.val)] : List UInt8).head? ≠ some 48 := by decide
      exact this ⟨n, h⟩ h0
    · have e : Lib.decDigits n = Lib.decDigits (n / 10) ++ [UInt8.ofNat (48 + n % 10)] := by conv => lhs; rw [Lib.decDigits, dif_neg h]
      have := ih (n / 10) (by omega) (by omega)
      rw [e]
      cases hd : Lib.decDigits (n / 10) with
      | nil => have := digB_len (dec_dig (n / 10)).1; rw [hd] at this; simp at this
      | cons b t => rw [hd] at this; simpa using this
theorem dec_ten {n : Nat} (h : 2 ≤ (Lib.decDigits n).length) : 0 < n := by
  rcases Nat.eq_zero_or_pos n with rfl | h0
  · rw [Lib.decDigits_one (by decide)] at h; simp at h
  · exact h0
end Go.Ra
namespace Go.Proofs.YtgoepklennckmaaGreatDoor.Eq
open Go Go.Ra
set_option linter.unusedVariables false

def rdR (neg : Bool) (l m : List UInt8) : (Int × Int) × Int := if neg = true then (if dv (l ++ m) = 0 then ((0, 0), 10) else mk (-((dv (l ++ m) : Nat) : Int)) m.length) else mk ((dv (l ++ m) : Nat) : Int) m.length
theorem ev_aread (neg : Bool) (l m : List UInt8) (h : ∀ b ∈ l ++ m, dgB b = true) (hl : (l ++ m).length ≤ 60) : Ev (fun k => amount_read k neg (B l) (B m)) (rdR neg l m) := by
  have hl' := hl
  rw [List.length_append] at hl'
  refine .step (fun k => amount_read_eq k _ _ _) (.bind (ev_Of 0 (by decide) (by decide)) (.ck (by rw [size_B, size_B]; omega) ?_))
  rw [B_app, size_B]
  have sm : ∀ i, Sm ((dv ((l ++ m).take i) : Nat) : Int) := fun i => by
    refine .of ?_
    rw [Int.natAbs_natCast]
    have h1 : dv ((l ++ m).take i) < 10 ^ ((l ++ m).take i).length := dv_lt fun b hb => h b (List.mem_of_mem_take hb)
    have h2 : (10 : Nat) ^ ((l ++ m).take i).length ≤ 10 ^ 60 := Nat.pow_le_pow_right (by decide) (by rw [List.length_take]; omega)
    exact Nat.le_trans (Nat.le_of_lt h1) (Nat.le_trans h2 (by decide +kernel))
  have key : ∀ (j i : Nat), (l ++ m).length - i = j → i ≤ (l ++ m).length → Ev (fun k => amount_read_c3 k neg (B l) (B m) (0, 0) (W ((dv ((l ++ m).take i) : Nat) : Int)) ((l ++ m).length : Int) (i : Int)) (rdR neg l m) := by
    intro j
    induction j with
    | zero =>
      intro i hj hi
      have hsm := sm i
      refine .step (fun k => amount_read_c3_eq k _ _ _ _ _ _ _) (.nk (by omega) ?_)
      rw [List.take_of_length_le (by omega)] at hsm ⊢
      unfold rdR
      cases neg with
      | true =>
        rw [if_pos rfl]
        refine .tt rfl (.bind (ev_Sign _) ?_)
        by_cases hz : dv (l ++ m) = 0
        · rw [if_pos hz]
          exact .tt (by simp [hz]) (.pure _)
        · rw [if_neg hz]
          have hs : ((dv (l ++ m) : Nat) : Int).sign ≠ 0 := by
            rw [ne_eq, Int.sign_eq_zero_iff_zero]
            omega
          refine .ff (by simpa using hs) (.bind (ev_Minus _ hsm) ?_)
          rw [size_B]
          exact .ret (ev_Made _ _) rfl
      | false =>
        rw [if_neg (by decide), size_B]
        exact .ff rfl (.ret (ev_Made _ _) rfl)
    | succ j ih =>
      intro i hj hi
      have hil : i < (l ++ m).length := by omega
      have hdig : dgB ((l ++ m).getD i 0) = true := by
        rw [List.getD_eq_getElem?_getD, List.getElem?_eq_getElem hil]
        exact h _ (List.getElem_mem hil)
      have hb := dgB_iff.1 hdig
      have e : ((dv ((l ++ m).take (i + 1)) : Nat) : Int) = ((dv ((l ++ m).take i) : Nat) : Int) * 10 + ((((l ++ m).getD i 0).toNat - 48 : Nat) : Int) := by
        rw [take_succ' hil, dv_app, dv_one]
        simp
      have h10 : Sm (10 : Int) := .of (by decide +kernel)
      have s1 : Sm (((dv ((l ++ m).take i) : Nat) : Int) * 10) := by
        refine .of ?_
        have h1 : dv ((l ++ m).take i) < 10 ^ ((l ++ m).take i).length := dv_lt fun b hb => h b (List.mem_of_mem_take hb)
        have h2 : (10 : Nat) ^ ((l ++ m).take i).length ≤ 10 ^ 60 := Nat.pow_le_pow_right (by decide) (by rw [List.length_take]; omega)
        have : (((dv ((l ++ m).take i) : Nat) : Int) * 10).natAbs = dv ((l ++ m).take i) * 10 := by rw [Int.natAbs_mul, Int.natAbs_natCast]; rfl
        rw [this]
        exact Nat.le_trans (Nat.mul_le_mul_right 10 (Nat.le_trans (Nat.le_of_lt h1) h2)) (by decide +kernel)
      have s2 : Sm ((((l ++ m).getD i 0).toNat - 48 : Nat) : Int) := by
        refine .of ?_
        rw [Int.natAbs_natCast]
        exact Nat.le_trans (show _ ≤ 10 by omega) (by decide +kernel)
      refine .step (fun k => amount_read_c3_eq k _ _ _ _ _ _ _) (.ck (by omega) (.bind (ev_Of 10 (by decide) (by decide)) (.bind (ev_Times _ _ (sm i) h10) (.ck (by rw [size_B, size_B]; omega) ?_))))
      rw [B_app, size_B, bt_B hil, wu8_dig hdig]
      have hw : wi64 ((i : Int) + 1) = ((i + 1 : Nat) : Int) := by rw [wi64_id (by omega) (by omega)]; rfl
      refine .ck (by omega) (.ck (by omega) (.bind (ev_Of _ (by omega) (by omega)) (.bind (ev_Plus _ _ s1 s2) ?_)))
      rw [hw, ← e]
      exact ih (i + 1) (by omega) (by omega)
  exact key _ 0 rfl (Nat.zero_le _)

theorem ev_isWhole (l : List UInt8) (hl : l.length < 1125899906842624) : Ev (fun k => amount_isWhole k (B l)) (digB l && (decide (l.length = 1) || decide (l.head? ≠ some 48))) := by
  have hk := ev_kDig (B l) (by rw [size_B]; exact hl)
  rw [L_B] at hk
  refine .step (fun k => amount_isWhole_eq k _) (.bind hk ?_)
  rw [size_B]
  cases hd : digB l with
  | false =>
    refine .tt (by simp) (.tt (by simp) (.pure _))
  | true =>
    have hp := digB_len hd
    refine .tt (by simp) (.tt (by simp; omega) (.to (.pure _) ?_))
    have hb0 : bt (B l) 0 = (((l.getD 0 0).toNat : Nat) : Int) := bt_B (i := 0) (by omega)
    rw [hb0]
    cases l with
    | nil => simp at hp
    | cons b t =>
      by_cases h1 : t = []
      · subst h1; simp
      · have ht : 0 < t.length := List.length_pos_iff.2 h1
        have e1 : ((((b :: t).length : Nat) : Int) == 1) = false := by simp; omega
        rw [e1]
        simp only [cond_true, cond_false, List.getD_cons_zero, Bool.true_and]
        by_cases hb : b = 48
        · subst hb
          simp [h1]
        · have : ((b.toNat : Int)) ≠ 48 := fun z => hb (UInt8.toNat_inj.1 (by rw [show (48 : UInt8).toNat = 48 from rfl]; omega))
          simp [hb, this]
theorem bef_whole (n p : Nat) : (digB (befL n p) && (decide ((befL n p).length = 1) || decide ((befL n p).head? ≠ some 48))) = true := by
  have h1 := befL_pos n p
  have hd : digB (befL n p) = true := digB_iff.2 ⟨fun z => by rw [z] at h1; simp at h1, befL_dg n p⟩
  rw [hd]
  by_cases hl : (Lib.decDigits n).length ≤ p + 1
  · have : (befL n p).length = 1 := by
      unfold befL
      rw [List.length_take]
      unfold ptL
      rw [List.length_append, List.length_replicate]
      omega
    simp [this]
  · have e : ptL n p = Lib.decDigits n := by unfold ptL; rw [show p + 1 - (Lib.decDigits n).length = 0 by omega]; rfl
    have hh : (befL n p).head? ≠ some 48 := by
      unfold befL
      rw [e, List.head?_take, if_neg (by omega)]
      exact dec_head n (dec_ten (by omega))
    simp [hh]
theorem dv_pt (n p : Nat) : dv (befL n p ++ behL n p) = n := by
  rw [bef_beh]
  unfold ptL
  rw [dv_zeros, (dec_dig n).2]
theorem pt_dg (n p : Nat) : ∀ b ∈ befL n p ++ behL n p, dgB b = true := by rw [bef_beh]; exact ptL_dg n p
theorem tl_beh (d : Int × Int) (h : okD d) : (if d.2 = 0 then [] else behL d.1.natAbs d.2.toNat) = behL d.1.natAbs d.2.toNat := by
  split
  · rename_i hz
    exact (List.eq_nil_of_length_eq_zero (by rw [behL_len, hz]; rfl)).symm
  · rfl
theorem rdR_bef {d : Int × Int} (h : okD d) : rdR (decide (d.1 < 0)) (befL d.1.natAbs d.2.toNat) (behL d.1.natAbs d.2.toNat) = (d, 0) := by
  obtain ⟨h1, h2, h3⟩ := okD_nat h
  unfold rdR mk
  rw [dv_pt, behL_len, h3]
  by_cases hn : d.1 < 0
  · rw [if_pos (decide_eq_true hn), if_neg (by omega), if_pos (by omega), show -((d.1.natAbs : Nat) : Int) = d.1 by omega]
  · rw [if_neg (by simpa using hn), if_pos (by omega), show ((d.1.natAbs : Nat) : Int) = d.1 by omega]
theorem ev_readBack {d : Int × Int} (h : okD d) : Ev (fun k => amount_ReadText k (B (txL d))) (d, 0) := by
  obtain ⟨h1, h2, h3⟩ := okD_nat h
  have hbl := bef_len h
  have hh := behL_len d.1.natAbs d.2.toNat
  have hcp := ev_CutPre (B (txL d))
  rw [L_B, cutP_tx] at hcp
  have htl : (tlL d).length ≤ 10 := by
    unfold tlL
    split
    · simp
    · rw [List.length_cons, hh]; omega
  have hsz : (txL d).length ≤ 27 := by
    have e : txL d = (if d.1 < 0 then [45] else []) ++ (befL d.1.natAbs d.2.toNat ++ tlL d) := by unfold txL tlL; rw [List.append_assoc]
    have hsg : (if d.1 < 0 then [45] else ([] : List UInt8)).length ≤ 1 := by split <;> simp
    rw [e, List.length_append, List.length_append]
    omega
  have hcb := ev_Cut (B (befL d.1.natAbs d.2.toNat ++ tlL d)) 46 (by rw [size_B, List.length_append]; omega)
  rw [L_B, cutB_tx] at hcb
  refine .step (fun k => amount_ReadText_eq k _) (.bind hcp (.bind hcb ?_))
  rw [size_B, tl_beh d h]
  simp only
  have hno : ¬ (((txL d).length : Int) > 40) := by omega
  have hw := ev_isWhole (befL d.1.natAbs d.2.toNat) (by omega)
  rw [bef_whole] at hw
  rw [decide_eq_false hno]
  refine .bind (.tt rfl hw) ?_
  by_cases hz : d.2 = 0
  · rw [decide_eq_false (by simpa using hz)]
    refine .bind (x := false) (.ff rfl (.pure _)) (.ff rfl ?_)
    exact .ret (.to (ev_aread _ _ _ (pt_dg _ _) (by rw [List.length_append]; omega)) (rdR_bef h)) rfl
  · rw [decide_eq_true hz]
    have hdb := ev_kDig (B (behL d.1.natAbs d.2.toNat)) (by rw [size_B]; omega)
    rw [L_B, digB_iff.2 ⟨fun z => by rw [z] at hh; simp at hh; unfold okD at h; omega, behL_dg _ _⟩] at hdb
    refine .bind (.tt rfl hdb) (.ff ?_ ?_)
    · rw [size_B, hh, decide_eq_false (by omega)]; rfl
    · exact .ret (.to (ev_aread _ _ _ (pt_dg _ _) (by rw [List.length_append]; omega)) (rdR_bef h)) rfl
end Go.Proofs.YtgoepklennckmaaGreatDoor.Eq
namespace Go.Proofs.YtgoepklennckmaaGreatDoor.Eq
open Go Go.Ra
set_option linter.unusedVariables false

end Go.Proofs.YtgoepklennckmaaGreatDoor.Eq
namespace Go.Proofs.YtgoepklennckmaaGreatDoor.Eq
open Go Go.Ra
set_option linter.unusedVariables false

end Go.Proofs.YtgoepklennckmaaGreatDoor.Eq
namespace Go.Proofs.YtgoepklennckmaaGreatDoor.Eq
open Go Go.Ra
set_option linter.unusedVariables false

theorem decFrom_dvA : ∀ (l : List UInt8) (a : Nat), (∀ b ∈ l, dgB b = true) → Lib.decFrom a l = some (dvA a l)
  | [], a, _ => rfl
  | b :: l, a, h => by
    have hb := dgB_iff.1 (h b (by simp))
    unfold Lib.decFrom
    have e : Lib.digitVal b = some (b.toNat - 48) := by
      unfold Lib.digitVal
      rw [if_pos]
      exact hb
    rw [e]
    exact decFrom_dvA l _ fun x hx => h x (by simp [hx])
theorem atoi_dg {l : List UInt8} (h : digB l = true) : Lib.atoi l = some ((dv l : Nat) : Int) := by
  have hd := digB_all h
  cases l with
  | nil => simp [digB] at h
  | cons b r =>
    have hb := dgB_iff.1 (hd b (by simp))
    unfold Lib.atoi
    have h45 : (b == 45) = false := by
      have : b ≠ 45 := fun z => by rw [z] at hb; exact absurd hb.1 (by decide)
      simpa using this
    have h43 : (b == 43) = false := by
      have : b ≠ 43 := fun z => by rw [z] at hb; exact absurd hb.1 (by decide)
      simpa using this
    have e : Lib.decNat (b :: r) = some (dv (b :: r)) := decFrom_dvA (b :: r) 0 hd
    simp only [h45, h43, Bool.false_eq_true, if_false, e]
    rfl
theorem ev_Atoi (l : List UInt8) (h : digB l = true) (hl : l.length ≤ 18) : Ev (fun k => strconv_Atoi k (B l)) ((dv l : Int), true) := by
  refine .off (n := 0) fun k => ?_
  have e3 : (B l).data.toList = l := L_B l
  rw [strconv_Atoi_eq, e3, atoi_dg h, size_B, decide_eq_true hl]
  rfl
end Go.Proofs.YtgoepklennckmaaGreatDoor.Eq
namespace Go.Ra
open Go Go.Ra
def okP : List Nat → List UInt8 → Bool
  | [], l => l.isEmpty
  | w :: ws, l => decide (w ≤ l.length) && (digB (l.take w) && okP ws (l.drop w))
def valP : List Nat → List UInt8 → List Int
  | [], _ => []
  | w :: ws, l => ((dv (l.take w) : Nat) : Int) :: valP ws (l.drop w)
def nmL (l : List UInt8) : Int := if digB l = true then ((dv l : Nat) : Int) else -1
theorem nmL_no {l : List UInt8} (h : digB l = false) : nmL l = -1 := by unfold nmL; rw [h]; rfl
theorem nmL_yes {l : List UInt8} (h : digB l = true) : nmL l = ((dv l : Nat) : Int) := if_pos h
end Go.Ra
namespace Go.Proofs.YtgoepklennckmaaGreatDoor.Eq
open Go Go.Ra
set_option linter.unusedVariables false

def finD (y m d : Int) : Int × Int := if okDt y m d then ((⟨y, m.toNat, d⟩ : Dt).n, 0) else (0, 10)
theorem finD_no {y m d : Int} (h : y = -1 ∨ m = -1 ∨ d = -1) : finD y m d = (0, 10) := by
  unfold finD
  rw [if_neg]
  unfold okDt
  omega
theorem ev_partsAny (ws : List Nat) (hw : ∀ w ∈ ws, 1 ≤ w ∧ w ≤ 18) (hws : ws.length ≤ 10) : ∀ (j i : Nat) (acc : List Int) (l : List UInt8), ws.length - i = j → i ≤ ws.length → acc.length ≤ i → l.length < 1125899906842624 →
    ∃ q, Ev (fun k => amount_parts_c3 k (B l) acc (ws.map fun w => ((w : Nat) : Int)) (ws.length : Int) (i : Int)) q ∧ q.2 = okP (ws.drop i) l ∧ (q.2 = true → q.1 = acc ++ valP (ws.drop i) l) := by
  intro j
  induction j with
  | zero =>
    intro i acc l hj hi ha hl
    refine ⟨(acc, eqS (B l) (bs [])), .step (fun k => amount_parts_c3_eq k _ _ _ _ _) (.nk (by omega) (.pure _)), ?_, fun _ => ?_⟩
    · rw [List.drop_of_length_le (by omega), eqS_nil, L_B]; rfl
    · rw [List.drop_of_length_le (by omega)]
      show acc = acc ++ []
      rw [List.append_nil]
  | succ j ih =>
    intro i acc l hj hi ha hl
    have hil : i < ws.length := by omega
    have hwi := hw (ws.getD i 0) (by rw [List.getD_eq_getElem?_getD, List.getElem?_eq_getElem hil]; exact List.getElem_mem hil)
    have hg : (ws.map fun w => ((w : Nat) : Int)).getD ((i : Int)).toNat 0 = ((ws.getD i 0 : Nat) : Int) := by
      rw [Int.toNat_natCast, List.getD_eq_getElem?_getD, List.getElem?_map, List.getElem?_eq_getElem hil, List.getD_eq_getElem?_getD, List.getElem?_eq_getElem hil]
      rfl
    have hd : ws.drop i = ws.getD i 0 :: ws.drop (i + 1) := by
      rw [List.drop_eq_getElem_cons hil, List.getD_eq_getElem?_getD, List.getElem?_eq_getElem hil]
      rfl
    rw [hd]
    generalize hW : ws.getD i 0 = w at hwi hg
    have head : ∀ q, Ev (fun k => (cond (!(decide ((l.length : Int) < (w : Int)))) (kit_IsDigits k ((B l).extract 0 w)) (some false)).bind fun y0 =>
        cond (cond (decide ((l.length : Int) < (w : Int))) true (!y0)) (some ([], false)) (
          cond (decide ((0 : Int) ≤ (w : Int))) (cond (decide ((w : Int) ≤ (l.length : Int))) (
          (strconv_Atoi k ((B l).extract 0 w)).bind fun y1 =>
          cond (decide (acc.length + 1 < 17592186044416)) (cond (decide ((0 : Int) ≤ (w : Int))) (cond (decide ((w : Int) ≤ (l.length : Int))) (
          amount_parts_c3 k ((B l).extract w l.length) (acc ++ [y1.1]) (ws.map fun w => ((w : Nat) : Int)) (ws.length : Int) (wi64 ((i : Int) + 1))) none) none) none) none) none)) q →
        Ev (fun k => amount_parts_c3 k (B l) acc (ws.map fun w => ((w : Nat) : Int)) (ws.length : Int) (i : Int)) q := by
      intro q hq
      refine .step (fun k => amount_parts_c3_eq k _ _ _ _ _) (.ck (by omega) (.ck (by omega) (.ck (by rw [List.length_map]; omega) ?_)))
      rw [hg, size_B, Int.toNat_natCast]
      refine .tt (bor' fun _ => by simp) (.tt (bor' fun z => ?_) hq)
      rw [Bool.not_eq_true', decide_eq_false_iff_not] at z
      exact decide_eq_true (by omega)
    by_cases hlen : w ≤ l.length
    · have e1 : (B l).extract 0 w = B (l.take w) := by rw [B_ext, List.drop_zero]
      have e2 : (B l).extract w l.length = B (l.drop w) := by rw [B_ext, List.take_of_length_le (Nat.le_refl _)]
      rw [e1, e2, decide_eq_false (by omega : ¬ ((l.length : Int) < (w : Int)))] at head
      have htl : (l.take w).length = w := by rw [List.length_take]; omega
      have hk := ev_kDig (B (l.take w)) (by rw [size_B]; omega)
      rw [L_B] at hk
      cases hdg : digB (l.take w) with
      | false =>
        rw [hdg] at hk
        refine ⟨([], false), head _ (.bind (.tt rfl hk) (.tt rfl (.pure _))), ?_, fun z => by cases z⟩
        show false = (decide (w ≤ l.length) && (digB (l.take w) && _))
        rw [hdg]; simp
      | true =>
        rw [hdg] at hk
        obtain ⟨q, q1, q2, q3⟩ := ih (i + 1) (acc ++ [((dv (l.take w) : Nat) : Int)]) (l.drop w) (by omega) (by omega) (by simp; omega) (by rw [List.length_drop]; omega)
        refine ⟨q, head _ (.bind (.tt rfl hk) (.ff rfl (.ck (by omega) (.ck (by omega) (.bind (ev_Atoi (l.take w) hdg (by omega)) (.ck (by omega) (.ck (by omega) (.ck (by omega) ?_)))))))), ?_, fun z => ?_⟩
        · rw [show wi64 ((i : Int) + 1) = ((i + 1 : Nat) : Int) by rw [wi64_id (by omega) (by omega)]; rfl]
          exact q1
        · rw [q2]
          show _ = (decide (w ≤ l.length) && (digB (l.take w) && _))
          rw [hdg, decide_eq_true hlen]; rfl
        · rw [q3 z, List.append_assoc]; rfl
    · rw [decide_eq_true (by omega : ((l.length : Int) < (w : Int)))] at head
      refine ⟨([], false), head _ (.bind (x := false) (.ff rfl (.pure _)) (.tt rfl (.pure _))), ?_, fun z => by cases z⟩
      show false = (decide (w ≤ l.length) && _)
      rw [decide_eq_false hlen]; rfl
theorem ev_parts (a b c : Nat) (h : (1 ≤ a ∧ a ≤ 18) ∧ (1 ≤ b ∧ b ≤ 18) ∧ (1 ≤ c ∧ c ≤ 18)) (l : List UInt8) (hl : l.length < 1125899906842624) :
    ∃ q, Ev (fun k => amount_parts k (B l) [(a : Int), (b : Int), (c : Int)]) q ∧ q.2 = okP [a, b, c] l ∧ (q.2 = true → q.1 = valP [a, b, c] l) := by
  obtain ⟨q, q1, q2, q3⟩ := ev_partsAny [a, b, c] (by simp; omega) (by simp) _ 0 [] l rfl (by simp) (by simp) hl
  exact ⟨q, .step (fun k => amount_parts_eq k _ _) q1, q2, q3⟩
theorem okP3 {a b c : Nat} {l : List UInt8} : okP [a, b, c] l = true ↔ l.length = a + b + c ∧ digB (l.take a) = true ∧ digB ((l.drop a).take b) = true ∧ digB (l.drop (a + b)) = true := by
  simp only [okP, Bool.and_eq_true, decide_eq_true_eq, List.drop_drop, List.length_drop, List.isEmpty_iff, List.drop_eq_nil_iff]
  constructor
  · rintro ⟨h1, h2, h3, h4, h5, h6, h7⟩
    have hl : l.length = a + b + c := by omega
    refine ⟨hl, h2, h4, ?_⟩
    rwa [List.take_of_length_le (by rw [List.length_drop]; omega)] at h6
  · rintro ⟨h1, h2, h3, h4⟩
    refine ⟨by omega, h2, by omega, h3, by omega, ?_, by omega⟩
    rwa [List.take_of_length_le (by rw [List.length_drop]; omega)]
theorem valP3 {a b c : Nat} {l : List UInt8} (h : l.length = a + b + c) : valP [a, b, c] l = [((dv (l.take a) : Nat) : Int), ((dv ((l.drop a).take b) : Nat) : Int), ((dv (l.drop (a + b)) : Nat) : Int)] := by
  simp only [valP, List.drop_drop]
  rw [List.take_of_length_le (l := l.drop (a + b)) (by rw [List.length_drop]; omega)]
def fA (r : Int × Bool) : Int × Int := if r.2 = true then (r.1, 0) else (0, 10)
theorem ev_aFin (y m d : Int) : ∃ r, Ev (fun k => amount_dayOf k y m d) r ∧ fA r = finD y m d := by
  refine ⟨_, ev_adayOf y m d, ?_⟩
  unfold finD fA
  by_cases h : okDt y m d
  · rw [if_pos h, if_pos h]; rfl
  · rw [if_neg h, if_neg h]; rfl

theorem ev_aForm {a b c : Nat} (h : (1 ≤ a ∧ a ≤ 18) ∧ (1 ≤ b ∧ b ≤ 18) ∧ (1 ≤ c ∧ c ≤ 18)) (l : List UInt8) (hl : l.length < 1125899906842624) {f : Nat → List Int × Bool → Option (Int × Bool)} {t : Int × Int}
    (hf : ∀ q : List Int × Bool, q.2 = false → Ev (fun k => f k q) (0, false)) (hno : okP [a, b, c] l = false → t = (0, 10))
    (hyes : l.length = a + b + c → digB (l.take a) = true → digB ((l.drop a).take b) = true → digB (l.drop (a + b)) = true → ∃ r, Ev (fun k => f k ([((dv (l.take a) : Nat) : Int), ((dv ((l.drop a).take b) : Nat) : Int), ((dv (l.drop (a + b)) : Nat) : Int)], true)) r ∧ fA r = t) :
    ∃ r, Ev (fun k => (amount_parts k (B l) [(a : Int), (b : Int), (c : Int)]).bind fun y0 => f k y0) r ∧ fA r = t := by
  obtain ⟨⟨q1, q2⟩, e1, e2, e3⟩ := ev_parts a b c h l hl
  cases hq : q2 with
  | false =>
    subst hq
    exact ⟨(0, false), .bind e1 (hf _ rfl), (hno e2.symm).symm⟩
  | true =>
    subst hq
    obtain ⟨h1, h2, h3, h4⟩ := okP3.1 e2.symm
    obtain ⟨r, r1, r2⟩ := hyes h1 h2 h3 h4
    have e4 := e3 rfl
    rw [valP3 h1] at e4
    simp only at e4
    subst e4
    exact ⟨r, .bind e1 r1, r2⟩
theorem okP3_no {a b c : Nat} {l : List UInt8} (h : okP [a, b, c] l = false) (hl : l.length = a + b + c) : nmL (l.take a) = -1 ∨ nmL ((l.drop a).take b) = -1 ∨ nmL (l.drop (a + b)) = -1 := by
  cases h1 : digB (l.take a) with
  | false => exact .inl (nmL_no h1)
  | true =>
    cases h2 : digB ((l.drop a).take b) with
    | false => exact .inr (.inl (nmL_no h2))
    | true =>
      cases h3 : digB (l.drop (a + b)) with
      | false => exact .inr (.inr (nmL_no h3))
      | true =>
        rw [okP3.2 ⟨hl, h1, h2, h3⟩] at h
        cases h
end Go.Proofs.YtgoepklennckmaaGreatDoor.Eq
namespace Go.Proofs.YtgoepklennckmaaGreatDoor.Eq
open Go Go.Ra
set_option linter.unusedVariables false
set_option linter.unusedSimpArgs false

theorem ev_rd1A (l : List UInt8) (c : Int) (hl : l.length ≤ 140737488351232) : ∃ r, Ev (fun k => amount_readDay k (B l) 1 c) r ∧ fA r = (if l.length = 8 then finD (nmL (l.take 4)) (nmL ((l.drop 4).take 2)) (nmL (l.drop 6)) else (0, 10)) := by
  obtain ⟨r, r1, r2⟩ := ev_aForm (a := 4) (b := 2) (c := 2) (by decide) l (by omega) (t := if l.length = 8 then finD (nmL (l.take 4)) (nmL ((l.drop 4).take 2)) (nmL (l.drop 6)) else (0, 10))
    (f := fun k y0 => cond (!y0.2) (some (0, false)) (cond (decide (0 < (y0.1.length : Int))) (cond (decide (1 < (y0.1.length : Int))) (cond (decide (2 < (y0.1.length : Int))) ((amount_dayOf k (y0.1.getD 0 0) (y0.1.getD 1 0) (y0.1.getD 2 0)).bind fun y1 => some y1) none) none) none))
    (fun q hq => by rw [hq]; exact .tt rfl (.pure _))
    (fun hno => by
      split
      · rename_i h8
        exact finD_no (okP3_no hno h8)
      · rfl)
    (fun h8 d1 d2 d3 => by
      obtain ⟨r, r1, r2⟩ := ev_aFin ((dv (l.take 4) : Nat) : Int) ((dv ((l.drop 4).take 2) : Nat) : Int) ((dv (l.drop (4 + 2)) : Nat) : Int)
      refine ⟨r, .ff rfl (.ck (by simp) (.ck (by simp) (.ck (by simp) (.ret r1 rfl)))), ?_⟩
      rw [r2, if_pos h8, nmL_yes d1, nmL_yes d2, nmL_yes d3])
  exact ⟨r, .step (fun k => amount_readDay_eq k _ _ _) (.tt rfl r1), r2⟩
end Go.Proofs.YtgoepklennckmaaGreatDoor.Eq
namespace Go.Ra
open Go Go.Ra
end Go.Ra
namespace Go.Proofs.YtgoepklennckmaaGreatDoor.Eq
open Go Go.Ra
set_option linter.unusedVariables false
set_option linter.unusedSimpArgs false

theorem ev_kDigB (l : List UInt8) (hn : l.length < 1125899906842624) : Ev (fun k => kit_IsDigits k (B l)) (digB l) := by
  have := ev_kDig (B l) (by rw [size_B]; exact hn)
  rwa [L_B] at this
end Go.Proofs.YtgoepklennckmaaGreatDoor.Eq
namespace Go.Ra
open Go Go.Ra
end Go.Ra
namespace Go.Proofs.YtgoepklennckmaaGreatDoor.Eq
open Go Go.Ra
set_option linter.unusedVariables false
set_option linter.unusedSimpArgs false

end Go.Proofs.YtgoepklennckmaaGreatDoor.Eq
namespace Go.Proofs.YtgoepklennckmaaGreatDoor.Eq
open Go Go.Ra
set_option linter.unusedVariables false
set_option linter.unusedSimpArgs false
def bad : (Int × Int) × Int := ((0, 0), 10)
def wholeL (w : List UInt8) : Bool := digB w && (decide (w.length = 1) || decide (w.head? ≠ some 48))
def rtc (neg : Bool) (w f : List UInt8) (has : Bool) : (Int × Int) × Int := if (wholeL w && (!has || (digB f && decide (f.length ≤ 9)))) = true then rdR neg w f else bad
def rtx (l : List UInt8) : (Int × Int) × Int := if 40 < l.length then bad else rtc (cutP l).2 (cutB (cutP l).1 46).1 (cutB (cutP l).1 46).2.1 (cutB (cutP l).1 46).2.2
theorem cutP_le (l : List UInt8) : (cutP l).1.length ≤ l.length := by
  unfold cutP
  split
  · simp
  · exact Nat.le_refl _
theorem cutB_le (l : List UInt8) (c : UInt8) : (cutB l c).1.length + (cutB l c).2.1.length ≤ l.length := by
  rcases cutB_cases l c with ⟨_, h⟩ | ⟨a, b, rfl, _, h⟩
  · rw [h]; simp
  · rw [h]; simp
theorem cutB_no (l : List UInt8) (c : UInt8) (h : (cutB l c).2.2 = false) : (cutB l c).2.1 = [] := by
  rcases cutB_cases l c with ⟨_, e⟩ | ⟨a, b, rfl, _, e⟩
  · rw [e]
  · rw [e] at h; cases h
theorem rdR_bad {neg : Bool} {w f : List UInt8} : rdR neg w f = (if neg = true ∧ dv (w ++ f) = 0 then bad else if dv (w ++ f) ≤ 1000000000000000 then (((if neg = true then -((dv (w ++ f) : Nat) : Int) else ((dv (w ++ f) : Nat) : Int)), ((f.length : Nat) : Int)), 0) else ((0, 0), 1)) := by
  unfold rdR mk bad
  cases neg with
  | true =>
    rw [if_pos rfl]
    by_cases hz : dv (w ++ f) = 0
    · rw [if_pos hz, if_pos ⟨rfl, hz⟩]
    · rw [if_neg hz, if_neg (show ¬ (true = true ∧ dv (w ++ f) = 0) from fun z => hz z.2)]
      by_cases hl : dv (w ++ f) ≤ 1000000000000000
      · rw [if_pos (by omega), if_pos hl, if_pos rfl]
      · rw [if_neg (by omega), if_neg hl]
  | false =>
    rw [if_neg (by decide), if_neg (show ¬ (false = true ∧ dv (w ++ f) = 0) from fun z => by cases z.1)]
    by_cases hl : dv (w ++ f) ≤ 1000000000000000
    · rw [if_pos (by omega), if_pos hl, if_neg (by decide)]
    · rw [if_neg (by omega), if_neg hl]
theorem whole_dg {w : List UInt8} (h : wholeL w = true) : digB w = true := by
  unfold wholeL at h
  rw [Bool.and_eq_true] at h
  exact h.1
theorem dg_both {w f : List UInt8} {has : Bool} (hw : wholeL w = true) (hf : (!has || (digB f && decide (f.length ≤ 9))) = true) (hno : has = false → f = []) : ∀ b ∈ w ++ f, dgB b = true := by
  intro b hb
  rcases List.mem_append.1 hb with hb | hb
  · exact digB_all (whole_dg hw) b hb
  · cases has with
    | false => rw [hno rfl] at hb; cases hb
    | true =>
      simp only [Bool.not_true, Bool.false_or, Bool.and_eq_true] at hf
      exact digB_all hf.1 b hb
theorem ev_aRead (l : List UInt8) (hl : l.length ≤ 140737488351232) : Ev (fun k => amount_ReadText k (B l)) (rtx l) := by
  have hcp := ev_CutPre (B l)
  rw [L_B] at hcp
  have hle := cutP_le l
  have hcb := ev_Cut (B (cutP l).1) 46 (by rw [size_B]; omega)
  rw [L_B] at hcb
  have hle2 := cutB_le (cutP l).1 46
  have hno := cutB_no (cutP l).1 46
  refine .step (fun k => amount_ReadText_eq k _) (.bind hcp (.bind hcb ?_))
  unfold rtx
  generalize (cutP l).2 = neg
  generalize (cutB (cutP l).1 46).2.2 = has at hno
  generalize (cutB (cutP l).1 46).2.1 = f at hno hle2
  generalize (cutB (cutP l).1 46).1 = w at hle2
  simp only [size_B]
  by_cases hX : 40 < l.length
  · rw [if_pos hX, decide_eq_true (by omega : ((l.length : Nat) : Int) > 40)]
    exact .bind (x := false) (.ff rfl (.pure _)) (.bind (x := false) (.ff rfl (.pure _)) (.tt rfl (.pure _)))
  · rw [if_neg hX, decide_eq_false (by omega : ¬ ((l.length : Nat) : Int) > 40)]
    refine .bind (.tt rfl (ev_isWhole w (by omega))) ?_
    have hwd : (digB w && (decide (w.length = 1) || decide (w.head? ≠ some 48))) = wholeL w := rfl
    rw [hwd]
    unfold rtc
    cases hw : wholeL w with
    | false =>
      exact .bind (x := false) (.ff rfl (.pure _)) (.tt rfl (.pure _))
    | true =>
      cases has with
      | false =>
        have hf := hno rfl
        subst hf
        refine .bind (x := false) (.ff rfl (.pure _)) (.ff rfl (.ret ?_ rfl))
        exact ev_aread neg w [] (dg_both (has := false) hw rfl (fun _ => rfl)) (by simp; omega)
      | true =>
        refine .bind (.tt rfl (ev_kDigB f (by omega))) ?_
        cases hd : digB f with
        | false => exact .tt rfl (.pure _)
        | true =>
          by_cases h9 : f.length ≤ 9
          · rw [decide_eq_false (by omega : ¬ ((f.length : Nat) : Int) > 9), decide_eq_true h9]
            refine .ff rfl (.ret ?_ rfl)
            exact ev_aread neg w f (dg_both (has := true) hw (by rw [hd, decide_eq_true h9]; rfl) (fun z => by cases z)) (by rw [List.length_append]; omega)
          · rw [decide_eq_true (by omega : ((f.length : Nat) : Int) > 9), decide_eq_false h9]
            exact .tt rfl (.pure _)
def rix (l : List UInt8) (b : Int) : (Int × Int) × Int :=
  if ¬ (0 ≤ b ∧ b ≤ 9) then ((0, 0), 1) else if 30 < l.length ∨ digB (cutP l).1 = false then bad
  else if dv (cutP l).1 ≤ 1000000000000000 then (((if (cutP l).2 = true then -((dv (cutP l).1 : Nat) : Int) else ((dv (cutP l).1 : Nat) : Int)), b), 0) else ((0, 0), 1)
theorem ev_aReadImp (l : List UInt8) (b : Int) (hl : l.length ≤ 140737488351232) : Ev (fun k => amount_ReadImplied k (B l) b) (rix l b) := by
  refine .step (fun k => amount_ReadImplied_eq k _ _) (.bind (ev_Outside b 0 9) ?_)
  unfold rix
  by_cases hb : 0 ≤ b ∧ b ≤ 9
  · rw [if_neg (not_not_intro hb), decide_eq_false (by omega)]
    have hcp := ev_CutPre (B l)
    rw [L_B] at hcp
    have hle := cutP_le l
    refine .ff rfl (.bind hcp ?_)
    generalize (cutP l).2 = neg
    generalize (cutP l).1 = w at hle
    simp only [size_B]
    by_cases hX : 30 < l.length
    · rw [if_pos (.inl hX), decide_eq_true (by omega : ((l.length : Nat) : Int) > 30)]
      exact .bind (x := false) (.ff rfl (.pure _)) (.tt rfl (.pure _))
    · rw [decide_eq_false (by omega : ¬ ((l.length : Nat) : Int) > 30)]
      refine .bind (.tt rfl (ev_kDigB w (by omega))) ?_
      cases hd : digB w with
      | false => rw [if_pos (.inr rfl)]; exact .tt rfl (.pure _)
      | true =>
        rw [if_neg (fun z => by rcases z with z | z; exact hX z; cases z)]
        have hrd := ev_aread false w [] (by simpa using digB_all hd) (by simp; omega)
        have hrr : rdR false w [] = mk ((dv w : Nat) : Int) 0 := by unfold rdR; rw [if_neg (by decide), List.append_nil]; rfl
        rw [hrr] at hrd
        refine .ff rfl (.bind hrd ?_)
        by_cases hv : dv w ≤ 1000000000000000
        · have hmk : mk ((dv w : Nat) : Int) 0 = ((((dv w : Nat) : Int), 0), 0) := by unfold mk; rw [if_pos (by omega)]
          rw [hmk, if_pos hv]
          cases neg with
          | true =>
            refine .ff rfl (.tt rfl (.to (.pure _) ?_))
            rw [wi64_id (by simp only; omega) (by simp only; omega), if_pos rfl]
            simp
          | false => exact .ff rfl (.ff rfl (.pure _))
        · have hmk : mk ((dv w : Nat) : Int) 0 = ((0, 0), 1) := by unfold mk; rw [if_neg (by omega)]
          rw [hmk, if_neg hv]
          exact .tt rfl (.pure _)
  · rw [if_pos hb, decide_eq_true (by omega)]
    exact .tt rfl (.pure _)
end Go.Proofs.YtgoepklennckmaaGreatDoor.Eq
namespace Go.Proofs.YtgoepklennckmaaGreatDoor.Eq
open Go Go.Ra
set_option linter.unusedVariables false
theorem ev_WTextN (n : Nat) (hn : 0 < n) (ha : Sm (-(n : Int))) : Ev (fun k => whole_Int_Text k (true, digs 4294967296 n)) (B (45 :: Lib.decDigits n)) := by
  have hlen := ha.len
  have hW : W (-(n : Int)) = (true, digs 4294967296 n) := by unfold W; simp; omega
  have hne := digs_ne (b := 4294967296) (by decide) hn
  rw [hW] at hlen
  simp only at hlen
  refine .step (fun k => whole_Int_Text_eq k _) ?_
  have hl0 : (((digs 4294967296 n).length : Int) == 0) = false := by
    have := List.length_pos_iff.2 hne
    simpa using hne
  refine .ff hl0 (.bind (ev_CloneU _ (by simp only; omega)) ?_)
  have key : ∀ (m c : Nat) (acc : List UInt8), c ≤ m → c ≤ n → acc.length + c ≤ acc.length + n → acc.length ≤ 1000 → acc ++ revDig c c = revDig n n → Ev (fun k => whole_Int_Text_c5 k (true, digs 4294967296 n) (bl acc) (digs 4294967296 c)) (B (45 :: Lib.decDigits n)) := by
    intro m
    induction m with
    | zero =>
      intro c acc h1 h2 _ h3 h4
      have : c = 0 := by omega
      subst this
      have e : acc = revDig n n := by simpa [revDig] using h4
      refine .step (fun k => whole_Int_Text_c5_eq k _ _ _) (.nk (by simp [digs_zero]) (.tt rfl (.ck (by rw [bl_len]; omega) (.bind (ev_ReverseB _ (by rw [List.length_append, bl_len]; simp; omega)) (.to (.pure _) ?_)))))
      have e45 : bl acc ++ [45] = bl (acc ++ [45]) := by rw [bl_app]; rfl
      rw [e45, bl_rev, strOf_bl, List.reverse_append, e, dec_rev n n (Nat.le_refl _) hn]
      rfl
    | succ m ih =>
      intro c acc h1 h2 _ h3 h4
      rcases Nat.eq_zero_or_pos c with rfl | hc
      · exact ih 0 acc (by omega) (by omega) (by omega) h3 h4
      · have hcn : (digs 4294967296 c).length ≤ 100 := by
          refine digs_len (by decide) 100 c (Nat.lt_of_le_of_lt h2 ?_)
          have := ha
          unfold Sm at this
          rw [Int.natAbs_neg, Int.natAbs_natCast] at this
          exact this
        have hcp := List.length_pos_iff.2 (digs_ne (b := 4294967296) (by decide) hc)
        refine .step (fun k => whole_Int_Text_c5_eq k _ _ _) (.ck (by omega) (ev_Text_c8 _ _ _ (dD c) (by omega) (by rw [bl_len]; omega) ?_))
        rw [dV c]
        have e1 : ((c : Int) / 10).toNat = c / 10 := by omega
        have e2 : bl acc ++ [48 + (c : Int) % 10] = bl (acc ++ [UInt8.ofNat (48 + c % 10)]) := by
          rw [bl_app]
          congr 1
          show _ = [((((UInt8.ofNat (48 + c % 10)).toNat : Nat)) : Int)]
          rw [dig_byte]
        rw [e1, e2]
        have hlen2 : acc.length + 1 ≤ (revDig n n).length := by
          rw [← h4, List.length_append, revDig_step hc]
          simp
        have hrl : (revDig n n).length ≤ 1000 := by
          have : (revDig n n).length = (Lib.decDigits n).length := by rw [← dec_rev n n (Nat.le_refl _) hn, List.length_reverse]
          rw [this, Lib.decDigits_length]
          refine nDig_le 1000 n (by decide) (Nat.lt_of_lt_of_le (m := 4294967296 ^ 100) ?_ (by decide +kernel))
          have := ha
          unfold Sm at this
          rw [Int.natAbs_neg, Int.natAbs_natCast] at this
          exact this
        refine ih (c / 10) _ (by omega) (by omega) (by omega) (by rw [List.length_append]; simp; omega) ?_
        rw [List.append_assoc, List.singleton_append, ← revDig_step hc]
        exact h4
  exact key n n [] (Nat.le_refl _) (Nat.le_refl _) (by omega) (by simp) (by simp)

theorem ev_WTextA (a : Int) (ha : Sm a) : Ev (fun k => whole_Int_Text k (W a)) (B (Lib.itoa a)) := by
  by_cases h : 0 ≤ a
  · exact ev_WText a ha h
  · obtain ⟨n, rfl⟩ : ∃ n : Nat, a = -(n : Int) := ⟨a.natAbs, by omega⟩
    have hW : W (-(n : Int)) = (true, digs 4294967296 n) := by unfold W; simp; omega
    have := ev_WTextN n (by omega) ha
    rw [hW]
    refine this.to ?_
    unfold Lib.itoa
    rw [if_pos (by omega)]
    have : (-(n : Int)).natAbs = n := by omega
    rw [this]
theorem ev_norms : ∀ (n : Nat) (d s : Int × Int), okD d → d.2.toNat = n → ∃ y, Ev (fun k => interchangeref1_Normal_c1 k d s) y ∧ Ev (fun k => amount_Least_c1 k d s) y := by
  intro n
  induction n with
  | zero =>
    intro d s h hn
    have h2 := h.2.2.1
    exact ⟨d, .step (fun k => interchangeref1_Normal_c1_eq k _ _) (.tt (bor' fun _ => rfl) (.ff (by rw [decide_eq_false (by omega)]; rfl) (.pure _))), .step (fun k => amount_Least_c1_eq k _ _) (.tt (bor' fun _ => rfl) (.ff (by rw [decide_eq_false (by omega)]; rfl) (.pure _)))⟩
  | succ n ih =>
    intro d s h hn
    have h' := h
    unfold okD at h'
    cases hc : (cond (decide (d.2 > 0)) ((d.1.tmod 10) == 0) false) with
    | false => exact ⟨d, .step (fun k => interchangeref1_Normal_c1_eq k _ _) (.tt (bor' fun _ => rfl) (.ff hc (.pure _))), .step (fun k => amount_Least_c1_eq k _ _) (.tt (bor' fun _ => rfl) (.ff hc (.pure _)))⟩
    | true =>
      have hb : -1000000000000000 ≤ d.1.tdiv 10 ∧ d.1.tdiv 10 ≤ 1000000000000000 := by
        have := Int.natAbs_tdiv d.1 10
        have h3 : (d.1.tdiv 10).natAbs ≤ d.1.natAbs := by
          rw [Int.natAbs_tdiv]
          exact Nat.div_le_self _ _
        omega
      have e1 : wi64 (d.1.tdiv 10) = d.1.tdiv 10 := wi64_id (by omega) (by omega)
      have e2 : wi64 (d.2 - 1) = d.2 - 1 := wi64_id (by omega) (by omega)
      obtain ⟨y, y1, y2⟩ := ih (d.1.tdiv 10, d.2 - 1) s (by unfold okD; simp only; omega) (by simp only; omega)
      refine ⟨y, .step (fun k => interchangeref1_Normal_c1_eq k _ _) (.tt (bor' fun _ => rfl) (.tt hc ?_)), .step (fun k => amount_Least_c1_eq k _ _) (.tt (bor' fun _ => rfl) (.tt hc ?_))⟩
      · rw [e1, e2]; exact y1
      · rw [e1, e2]; exact y2
theorem ev_norm (d : Int × Int) (h : okD d) : ∃ y, Ev (fun k => interchangeref1_Normal k d) y ∧ Ev (fun k => amount_Least k d) y := by
  obtain ⟨y, y1, y2⟩ := ev_norms _ d (0, 0) h rfl
  exact ⟨y, .step (fun k => interchangeref1_Normal_eq k _) y1, .step (fun k => amount_Least_eq k _) y2⟩
theorem rtx_ok (l : List UInt8) (h : (rtx l).2 = 0) : okD (rtx l).1 := by
  unfold rtx rtc at *
  split
  · rename_i h1
    rw [if_pos h1] at h
    exact absurd h (by decide)
  · rename_i h1
    rw [if_neg h1] at h
    split
    · rename_i h2
      rw [if_pos h2, rdR_bad] at h
      rw [rdR_bad]
      have hf : (cutB (cutP l).1 46).2.1.length ≤ 9 := by
        cases hh : (cutB (cutP l).1 46).2.2 with
        | false => rw [cutB_no _ _ hh]; simp
        | true =>
          rw [hh] at h2
          simp only [Bool.not_true, Bool.false_or, Bool.and_eq_true, decide_eq_true_eq] at h2
          exact h2.2.2
      split
      · rename_i h3
        rw [if_pos h3] at h
        exact absurd h (by decide)
      · rename_i h3
        rw [if_neg h3] at h
        split
        · rename_i h4
          unfold okD
          simp only
          split <;> omega
        · rename_i h4
          rw [if_neg h4] at h
          exact absurd h (by decide)
    · rename_i h2
      rw [if_neg h2] at h
      exact absurd h (by decide)
def prB (b : UInt8) : Bool := decide ((32 : Int) ≤ (b.toNat : Int)) && decide ((b.toNat : Int) ≤ 126)
theorem dropW_self {p : UInt8 → Bool} : ∀ {l : List UInt8}, l.dropWhile p = l → ∀ b, l.head? = some b → p b = false
  | [], _, _, h => by cases h
  | x :: l, h, b, hb => by
    have e : x = b := by simpa using hb
    subst e
    cases hp : p x with
    | false => rfl
    | true =>
      rw [List.dropWhile_cons_of_pos hp] at h
      have := congrArg List.length h
      have h2 := (List.dropWhile_sublist p (l := l)).length_le
      simp at this
      omega
theorem dropW_id {p : UInt8 → Bool} : ∀ {l : List UInt8}, (∀ b, l.head? = some b → p b = false) → l.dropWhile p = l
  | [], _ => rfl
  | x :: l, h => by
    have := h x rfl
    rw [List.dropWhile_cons, this]
    rfl
theorem trim_self (l cs : List UInt8) : Lib.trimS l cs = l ↔ (∀ b, l.head? = some b → cs.contains b = false) ∧ (∀ b, l.getLast? = some b → cs.contains b = false) := by
  unfold Lib.trimS Lib.trimLeftS Lib.trimRightS
  constructor
  · intro h
    have l1 := (List.dropWhile_sublist (cs.contains ·) (l := (l.reverse.dropWhile (cs.contains ·)).reverse)).length_le
    have l2 := (List.dropWhile_sublist (cs.contains ·) (l := l.reverse)).length_le
    rw [h] at l1
    rw [List.length_reverse] at l1 l2
    have e1 : l.reverse.dropWhile (cs.contains ·) = l.reverse := List.Sublist.eq_of_length (List.dropWhile_sublist _) (by rw [List.length_reverse]; omega)
    rw [e1, List.reverse_reverse] at h
    refine ⟨dropW_self h, fun b hb => dropW_self e1 b ?_⟩
    rw [List.head?_reverse]
    exact hb
  · rintro ⟨h1, h2⟩
    have e1 : l.reverse.dropWhile (cs.contains ·) = l.reverse := dropW_id fun b hb => h2 b (by rw [List.head?_reverse] at hb; exact hb)
    rw [e1, List.reverse_reverse]
    exact dropW_id h1
def plB (l : List UInt8) : Bool := l.all prB && ((l.getD 0 0 != 32) && (l.getD (l.length - 1) 0 != 32))
theorem ev_Trim32 (s : ByteArray) (hs : s.size < 1125899906842624) : Ev (fun k => strings_Trim k s (bs [32])) (B (Lib.trimS (L s) [32])) := by
  refine .off (n := 0) fun k => ?_
  rw [strings_Trim_eq, decide_eq_true (by omega)]
  rfl
theorem plB_eq (l : List UInt8) (h0 : 0 < l.length) : plB l = (l.all prB && decide (Lib.trimS l [32] = l)) := by
  unfold plB
  congr 1
  have hc : ∀ b : UInt8, [32].contains b = (b == 32) := fun b => by by_cases h : b = 32 <;> simp [h]
  have hh : l.head? = some (l.getD 0 0) := by
    cases l with
    | nil => simp at h0
    | cons x l => rfl
  have hl : l.getLast? = some (l.getD (l.length - 1) 0) := by
    rw [List.getLast?_eq_getElem?, List.getD_eq_getElem?_getD, List.getElem?_eq_getElem (by omega)]
    rfl
  by_cases h : Lib.trimS l [32] = l
  · rw [decide_eq_true h]
    obtain ⟨h1, h2⟩ := (trim_self l [32]).1 h
    have q1 := h1 _ hh
    have q2 := h2 _ hl
    rw [hc] at q1 q2
    unfold bne
    rw [q1, q2]
    rfl
  · rw [decide_eq_false h]
    cases hb : ((l.getD 0 0 != 32) && (l.getD (l.length - 1) 0 != 32)) with
    | false => rfl
    | true =>
      refine absurd ((trim_self l [32]).2 ⟨fun b hb1 => ?_, fun b hb1 => ?_⟩) h
      · rw [hh] at hb1
        have e := Option.some.inj hb1
        rw [← e, hc]
        unfold bne at hb
        simp only [Bool.and_eq_true, Bool.not_eq_true'] at hb
        exact hb.1
      · rw [hl] at hb1
        have e := Option.some.inj hb1
        rw [← e, hc]
        unfold bne at hb
        simp only [Bool.and_eq_true, Bool.not_eq_true'] at hb
        exact hb.2
theorem ev_aPlain (s : ByteArray) (hs : s.size < 1125899906842624) (h0 : 0 < s.size) : Ev (fun k => (kit_InBytes k s 32 126).bind fun y3 => (cond y3 (strings_Trim k s (bs [32])) (some (bs []))).bind fun y4 => some (cond y3 (eqS y4 s) false)) (plB (L s)) := by
  have hsz := size_L s
  rw [plB_eq (L s) (by omega)]
  refine .bind (ev_InBytes s 32 126 hs) ?_
  have e : ((L s).all fun b => decide ((32 : Int) ≤ (b.toNat : Int)) && decide ((b.toNat : Int) ≤ 126)) = (L s).all prB := rfl
  rw [e]
  cases (L s).all prB with
  | false => exact .bind (x := bs []) (.ff rfl (.pure _)) (.pure _)
  | true =>
    refine .bind (.tt rfl (ev_Trim32 s hs)) (.to (.pure _) ?_)
    show eqS (B (Lib.trimS (L s) [32])) s = (true && decide (Lib.trimS (L s) [32] = L s))
    rw [eqS_L, L_B, Bool.true_and]
theorem ev_dayA (l : List UInt8) (hl : l.length ≤ 140737488351232) : ∃ t, Ev (fun k => amount_ReadDay k (B l) 1 1) t ∧ (t.2 = 0 → 1 ≤ t.1 ∧ t.1 ≤ 3652059) := by
  obtain ⟨r, h2, h3⟩ := ev_rd1A l 1 hl
  refine ⟨(if l.length = 8 then finD (nmL (l.take 4)) (nmL ((l.drop 4).take 2)) (nmL (l.drop 6)) else (0, 10)), .step (fun k => amount_ReadDay_eq k _ _ _) (.bind (.step (fun k => amount_isForm_eq k _) (.bind (ev_outF _ _ _) (.pure _))) (.ff rfl (.bind (ev_outF _ _ _) (.ff rfl (.bind h2 ?_))))), fun h => ?_⟩
  · rw [← h3]
    unfold fA
    cases hr : r.2 with
    | true => exact .ff rfl (.pure _)
    | false => exact .tt rfl (.pure _)
  · split
    · rename_i h8
      rw [if_pos h8] at h
      unfold finD at *
      split
      · rename_i hok
        exact (okDt_ok hok).bound
      · rename_i hok
        rw [if_neg hok] at h
        exact absurd h (by decide)
    · rename_i h8
      rw [if_neg h8] at h
      exact absurd h (by decide)
theorem ev_dayTxA {n form : Int} (hn : 1 ≤ n ∧ n ≤ 3652059) (hf : (wOf form == 0) = false) : ∃ w : ByteArray, Ev (fun k => amount_DayText k n form) (w, 0) ∧ (w.size : Int) = wOf form := by
  obtain ⟨t, h1, rfl⟩ := Dt.ex hn.1 hn.2
  have h3 := thu_in hn.1 hn.2
  obtain ⟨v, h4, h5⟩ := Dt.ex h3.1 h3.2
  have z := szs h1 h4 h5
  have s1 := pad_size z.y4
  have s3 := pad_size z.m2
  have s4 := pad_size z.d2
  have s5 := pad_size z.v4
  have s6 := pad_size z.w2
  have s7 := pad_size z.e1
  have s8 : (bs [45]).size = 1 := rfl
  have hfr : 1 ≤ form ∧ form ≤ 5 ∧ form ≠ 2 := by
    rw [wOf_zero] at hf
    unfold inB at hf
    simp at hf
    omega
  refine ⟨_, ev_aDayText h1 h4 h5 ⟨hfr.1, hfr.2.1⟩, ?_⟩
  unfold dtx wOf
  by_cases f1 : form = 1
  · subst f1
    show (((pad t.y 4 ++ pad t.m 2) ++ pad t.d 2).size : Int) = 8
    rw [ByteArray.size_append, ByteArray.size_append]
    omega
  by_cases f3 : form = 3
  · subst f3
    show (((pad t.d 2 ++ pad t.m 2) ++ pad t.y 4).size : Int) = 8
    rw [ByteArray.size_append, ByteArray.size_append]
    omega
  by_cases f4 : form = 4
  · subst f4
    show (((((pad t.y 4 ++ bs [45]) ++ pad t.m 2) ++ bs [45]) ++ pad t.d 2).size : Int) = 10
    rw [ByteArray.size_append, ByteArray.size_append, ByteArray.size_append, ByteArray.size_append]
    omega
  have f5 : form = 5 := by omega
  subst f5
  show (((pad v.y 4 ++ pad (wk v.y t.n) 2) ++ pad ((t.n - 1) % 7 + 1) 1).size : Int) = 7
  rw [ByteArray.size_append, ByteArray.size_append]
  omega
end Go.Proofs.YtgoepklennckmaaGreatDoor.Eq
namespace Go.Proofs.YtgoepklennckmaaGreatDoor.Eq
open Go Go.Ra
set_option linter.unusedVariables false
structure ColOk (m : Int) (b : Col) : Prop where
  ty : b.2.1 = 1 ∨ b.2.1 = 2 ∨ b.2.1 = 3
  w1 : 1 ≤ b.2.2.1
  w2 : b.2.2.1 ≤ 100
  pl : b.2.1 = 2 → 0 ≤ b.2.2.2.1 ∧ b.2.2.2.1 ≤ 9
  fm : b.2.1 = 3 → (wOf b.2.2.2.2.1 == 0) = false
  idle : busy m b = false
  wd : m = 0 → b.2.1 = 3 → b.2.2.1 = wOf b.2.2.2.2.1
  pd : m = 0 → b.2.1 ≠ 3 → b.2.2.2.2.2.2.1 = 32 ∨ (b.2.2.2.2.2.2.1 = 48 ∧ b.2.2.2.2.2.1 = true)
theorem cond0 {c : Bool} {x y : Int} (hx : x ≠ 0) (h : cond c x y = 0) : c = false ∧ y = 0 := by
  cases c with
  | true => exact absurd h hx
  | false => exact ⟨rfl, h⟩
theorem inB_iff {a b c : Int} : inB a b c = true ↔ b ≤ a ∧ a ≤ c := by unfold inB; simp
theorem not_f {a : Bool} (h : (!a) = false) : a = true := by cases a <;> trivial
theorem colF_ok {m : Int} {own : Bool} {b : Col} (h : colF m own b = 0) : ColOk m b := by
  unfold colF at h
  obtain ⟨_, h⟩ := cond0 (by decide) h
  obtain ⟨_, h⟩ := cond0 (by decide) h
  obtain ⟨h1, h⟩ := cond0 (by decide) h
  obtain ⟨h2, h⟩ := cond0 (by decide) h
  obtain ⟨h3, h⟩ := cond0 (by decide) h
  obtain ⟨h4, h⟩ := cond0 (by decide) h
  obtain ⟨h5, h⟩ := cond0 (by decide) h
  have t1 := inB_iff.1 (not_f h1)
  have t2 := inB_iff.1 (not_f h2)
  refine ⟨by omega, t2.1, t2.2, fun z => ?_, fun z => ?_, h5, fun z z3 => ?_, fun z z3 => ?_⟩
  · rw [z] at h3
    exact inB_iff.1 (not_f (by simpa using h3))
  · rw [z] at h4
    simpa using h4
  · rw [z, z3] at h
    simp at h
    by_cases e : b.2.2.1 = wOf b.2.2.2.2.1
    · exact e
    · rw [show (b.2.2.1 != wOf b.2.2.2.2.1) = true by simpa using e] at h
      exact absurd h (by decide)
  · have e3 : (b.2.1 == 3) = false := by simpa using z3
    rw [z, e3] at h
    obtain ⟨h6, _⟩ := cond0 (c := (!(b.2.2.2.2.2.2.1 == 32) && !((b.2.1 == 2) && (b.2.2.2.2.2.2.1 == 48) && b.2.2.2.2.2.1))) (x := 3) (y := 0) (by decide) h
    by_cases e : b.2.2.2.2.2.2.1 = 32
    · exact .inl e
    · have e' : (b.2.2.2.2.2.2.1 == 32) = false := by simpa using e
      rw [e'] at h6
      have h7 : ((b.2.1 == 2) && (b.2.2.2.2.2.2.1 == 48) && b.2.2.2.2.2.1) = true := not_f (by simpa using h6)
      simp at h7
      exact .inr ⟨h7.1.2, h7.2⟩
theorem ne_size {c : ByteArray} (h : eqS c (bs []) = false) : 0 < c.size := by
  rcases Nat.eq_zero_or_pos c.size with h0 | h0
  · have hl : (L c).length = 0 := by have := size_L c; omega
    have : L c = [] := List.eq_nil_of_length_eq_zero hl
    rw [eqS_nil, this] at h
    cases h
  · exact h0
end Go.Proofs.YtgoepklennckmaaGreatDoor.Eq
namespace Go.Proofs.YtgoepklennckmaaGreatDoor.Eq
open Go Go.Ra
set_option linter.unusedVariables false
structure FmtOk (a : Fmt) : Prop where
  m12 : mk12 a.1 a.2.1 = false
  m3 : mk3 a.1 a.2.1 = false
  tag : ∀ kd ∈ a.2.2.1, kd.1.size ≤ 6
  tag1 : ∀ kd ∈ a.2.2.1, 1 ≤ kd.1.size
  len : ∀ kd ∈ a.2.2.1, kd.2.1.length ≤ 50
  col : ∀ kd ∈ a.2.2.1, ∀ b ∈ kd.2.1, ColOk a.1 b
theorem fmt_ok {a : Fmt} (h : fmtF a = 0) : FmtOk a := by
  unfold fmtF at h
  obtain ⟨h1, h⟩ := cond0 (by decide) h
  obtain ⟨h2, h⟩ := cond0 (by decide) h
  obtain ⟨_, h⟩ := cond0 (by decide) h
  obtain ⟨_, h⟩ := cond0 (by decide) h
  obtain ⟨h3, _⟩ := nz_zero h
  have key : ∀ kd ∈ a.2.2.1, (1 ≤ kd.1.size ∧ kd.1.size ≤ 6) ∧ kd.2.1.length ≤ 50 ∧ ∀ b ∈ kd.2.1, ColOk a.1 b := by
    intro kd hkd
    obtain ⟨i, hi, rfl⟩ := List.getElem_of_mem hkd
    have hk := h3 i (Nat.zero_le _) (by omega)
    rw [getD_nat hi] at hk
    generalize a.2.2.1[i] = kd at *
    unfold kndF at hk
    obtain ⟨k1, hk⟩ := cond0 (by decide) hk
    obtain ⟨_, hk⟩ := cond0 (by decide) hk
    obtain ⟨_, hk⟩ := cond0 (by decide) hk
    obtain ⟨k2, hk⟩ := cond0 (by decide) hk
    obtain ⟨k3, _⟩ := nz_zero hk
    have k1' := not_f k1
    unfold tagB at k1'
    rw [Bool.and_eq_true] at k1'
    have := inB_iff.1 k1'.1
    have k2' := of_decide_eq_false k2
    refine ⟨⟨by omega, by omega⟩, by omega, fun b hb => ?_⟩
    obtain ⟨j, hj, rfl⟩ := List.getElem_of_mem hb
    have := k3 j (Nat.zero_le _) (by omega)
    unfold colAt at this
    rw [getD_nat hj] at this
    exact colF_ok this
  exact ⟨h1, h2, fun kd h => (key kd h).1.2, fun kd h => (key kd h).1.1, fun kd h => (key kd h).2.1, fun kd h => (key kd h).2.2⟩
structure FitR (b : Row) : Prop where
  n : b.2.length < 1125899906842624
  s : ∀ c ∈ b.2, c.size ≤ 140737488351232
theorem kAt_at {ks : List Knd} {t : ByteArray} {i : Nat} (hi : i < ks.length) (h : kOf ks t = i) : kAt ks t = (ks[i], true) := by
  unfold kAt
  rw [if_pos (by omega), h, getD_at hi]
theorem kAt_no {ks : List Knd} {t : ByteArray} (h : kOf ks t < 0) : kAt ks t = (knd0, false) := by
  unfold kAt
  rw [if_neg (by omega)]
theorem len_eq (n m : Nat) : ((n : Int) != (m : Int)) = decide (n ≠ m) := by
  by_cases h : n = m
  · subst h; simp
  · rw [decide_eq_true h]
    have : (n : Int) ≠ (m : Int) := by omega
    simpa using this
theorem ev_RepC (c : UInt8) (n : Nat) (h : n ≤ 1000000) : Ev (fun k => strings_Repeat k (B [c]) (n : Int)) (B (List.replicate n c)) := by
  refine .off (n := 0) fun k => ?_
  show strings_Repeat (k + 0) (B [c]) (n : Int) = _
  have hs : (B [c]).size = 1 := rfl
  rw [strings_Repeat_eq, decide_eq_true (by omega : (0 : Int) ≤ (n : Int)), decide_eq_true (show (n : Int) ≤ 9223372036854775807 by omega), hs, decide_eq_true (by omega)]
  show some (B (Lib.repeatL [c] ((n : Int)).toNat)) = _
  have := Lib.repeatL_replicate c 1 n
  rw [Int.toNat_natCast]
  have e : Lib.repeatL [c] n = List.replicate n c := by simpa using this
  rw [e]
theorem ev_HasPre45 (s : ByteArray) : Ev (fun k => strings_HasPrefix k s (bs [45])) (decide ((L s).head? = some 45)) := .step (fun k => strings_HasPrefix_eq k _ _) (.ret (ev_HasPre s 45) rfl)
theorem padW {w : ByteArray} {n : Int} (h0 : 1 ≤ n) (h1 : n ≤ 100) (h : (w.size : Int) ≤ n) : wi64 (n - (w.size : Int)) = ((n.toNat - w.size : Nat) : Int) ∧ maxI 0 (wi64 (n - (w.size : Int))) = ((n.toNat - w.size : Nat) : Int) := by
  have e : wi64 (n - (w.size : Int)) = ((n.toNat - w.size : Nat) : Int) := by rw [wi64_id (by omega) (by omega)]; omega
  refine ⟨e, ?_⟩
  rw [e]
  unfold maxI
  split <;> omega
theorem B_nil_app (l : ByteArray) : bs [] ++ l = l := by
  rw [← B_L (bs [] ++ l), L_app]
  show B ([] ++ L l) = l
  rw [List.nil_append, B_L]
end Go.Proofs.YtgoepklennckmaaGreatDoor.Eq
namespace Go.Proofs.YtgoepklennckmaaGreatDoor.Eq
open Go Go.Ra
end Go.Proofs.YtgoepklennckmaaGreatDoor.Eq
namespace Go.Proofs.YtgoepklennckmaaGreatDoor.Eq
open Go Go.Ra
set_option linter.unusedVariables false
abbrev row0 : Row := (bs [], [])
theorem row_eta (r : Row) : (r.1, r.2) = r := rfl
structure FitRs (l : List Row) : Prop where
  n : l.length < 1125899906842624
  r : ∀ r ∈ l, FitR r
theorem dropR {l : List Row} {i : Nat} (hi : i < l.length) : l.drop i = l[i] :: l.drop (i + 1) := List.drop_eq_getElem_cons hi
theorem ev_eqTexts (l : List ByteArray) (hn : l.length < 1125899906842624) : Ev (fun k => slices_Equal_Lstring_string k l l) true := by
  refine .step (fun k => slices_Equal_Lstring_string_eq k _ _) (.ff (by simp) ?_)
  refine ev_up l.length (fun _ => true) (fun k i => slices_Equal_Lstring_string_c4 k l l (l.length : Int) i) (fun i hi h => ?_) ?_
  · refine .step (fun k => slices_Equal_Lstring_string_c4_eq k _ _ _ _) (.ck (by omega) (.ck (by omega) (.ck (by omega) (.ck (by omega) (.ck (by omega) (.ff (by rw [eqS_self]; rfl) ?_))))))
    rw [wj hi hn]
    exact h
  · exact .step (fun k => slices_Equal_Lstring_string_c4_eq k _ _ _ _) (.nk (by omega) (.pure _))
def fwF : Nat → Int → (Int × Int) × Int
  | 0, S => mk S 0
  | n + 1, S => if S.natAbs % 10 = 0 then fwF n (if S < 0 then -((S.natAbs / 10 : Nat) : Int) else ((S.natAbs / 10 : Nat) : Int)) else mk S ((n + 1 : Nat) : Int)
theorem ev_fewest (s4 : Int × Int) : ∀ (n : Nat) (S : Int), n ≤ 9 → Sm S → Ev (fun k => amount_Fewest_c2 k (n : Int) (W S) s4 (W 10)) (fwF n S)
  | 0, S, _, hS => .step (fun k => amount_Fewest_c2_eq k _ _ _ _) (.nk (by omega) (.ret (ev_Made S 0) rfl))
  | n + 1, S, hn, hS => by
    have h10 : Sm 10 := .of (by decide)
    have hb := ev_By S 10 hS h10 (by decide)
    have e10 : (10 : Int).natAbs = 10 := rfl
    rw [e10] at hb
    refine .step (fun k => amount_Fewest_c2_eq k _ _ _ _) (.ck (by omega) (.bind hb (.bind (ev_Sign _) ?_)))
    unfold fwF
    by_cases h : S.natAbs % 10 = 0
    · rw [if_pos h, h]
      have hw : wi64 (((n + 1 : Nat) : Int) - 1) = (n : Int) := by rw [wi64_id (by omega) (by omega)]; omega
      have hq : Sm ((S.natAbs / 10 : Nat) : Int) := by
        unfold Sm at *
        rw [Int.natAbs_natCast]
        omega
      refine .ff rfl (.bind (ev_Sign _) ?_)
      rw [hw]
      by_cases hs : S < 0
      · rw [if_pos hs]
        refine .ck (by rw [Int.sign_eq_neg_one_of_neg hs]; decide) (.bind (ev_Minus _ hq) (ev_fewest s4 n _ (by omega) ?_))
        unfold Sm at *
        rw [Int.natAbs_neg]
        exact hq
      · rw [if_neg hs]
        refine .nk ?_ (ev_fewest s4 n _ (by omega) hq)
        have := Int.sign_nonneg_iff.2 (Int.not_lt.1 hs)
        omega
    · rw [if_neg h]
      refine .tt ?_ (.ret (ev_Made S _) rfl)
      have : (((S.natAbs % 10 : Nat) : Int)).sign ≠ 0 := by
        rw [ne_eq, Int.sign_eq_zero_iff_zero]
        omega
      simpa using this
theorem Ev.uniq {α : Type} {f : Nat → Option α} {x y : α} (h1 : Ev f x) (h2 : Ev f y) : x = y := by
  obtain ⟨K, hK⟩ := h1
  obtain ⟨M, hM⟩ := h2
  have a := hK (K + M) (by omega)
  rw [hM (K + M) (by omega)] at a
  exact (Option.some.inj a).symm
def sumL : List ByteArray → Int
  | [] => 0
  | v :: l => (if eqS v (bs []) = true then 0 else sc (rtx (L v)).1 9) + sumL l
theorem sumL_cons (v : ByteArray) (l : List ByteArray) : sumL (v :: l) = (if eqS v (bs []) = true then 0 else sc (rtx (L v)).1 9) + sumL l := rfl
def DecL (l : List ByteArray) : Prop := ∀ v ∈ l, v.size ≤ 140737488351232 ∧ (eqS v (bs []) = false → (rtx (L v)).2 = 0)
theorem txL_small {d : Int × Int} (h : okD d) : (txL d).length ≤ 140737488351232 := by
  have hb := bef_len h
  have hh := behL_len d.1.natAbs d.2.toNat
  unfold okD at h
  unfold txL
  simp only [List.length_append]
  split <;> split <;> simp <;> omega
theorem rtx_back {d : Int × Int} (h : okD d) : rtx (txL d) = (d, 0) := Ev.uniq (ev_aRead _ (txL_small h)) (ev_readBack h)
end Go.Proofs.YtgoepklennckmaaGreatDoor.Eq
namespace Go.Proofs.YtgoepklennckmaaGreatDoor.Eq
open Go Go.Ra
set_option linter.unusedVariables false
end Go.Proofs.YtgoepklennckmaaGreatDoor.Eq
namespace Go.Proofs.YtgoepklennckmaaGreatDoor.Eq
open Go Go.Ra
end Go.Proofs.YtgoepklennckmaaGreatDoor.Eq
namespace Go.Proofs.YtgoepklennckmaaGreatDoor.Eq
open Go Go.Ra
set_option linter.unusedVariables false
end Go.Proofs.YtgoepklennckmaaGreatDoor.Eq
namespace Go.Proofs.YtgoepklennckmaaGreatDoor.Eq
open Go Go.Ra
set_option linter.unusedVariables false
structure IsV (b : Col) (c : ByteArray) : Prop where
  num : b.2.1 = 2 → (rtx (L c)).2 = 0 ∧ (rtx (L c)).1.2 ≤ b.2.2.2.1 ∧ Ev (fun k => amount_Least k (rtx (L c)).1) (rtx (L c)).1
  day : b.2.1 = 3 → ∃ n : Int, (1 ≤ n ∧ n ≤ 3652059) ∧ Ev (fun k => amount_ReadDay k c 1 1) (n, 0)
  txt : b.2.1 ≠ 2 → b.2.1 ≠ 3 → plB (L c) = true
theorem ev_isVal (b : Col) (c : ByteArray) (hc : c.size ≤ 140737488351232) (hne : eqS c (bs []) = false) : ∃ t : Bool, Ev (fun k => flat_isValue k b c) t ∧ (t = true ↔ IsV b c) := by
  have hsz := size_L c
  have h0 := ne_size hne
  by_cases h2 : b.2.1 = 2
  · have e2 : (b.2.1 == 2) = true := by simpa using h2
    have ha := ev_aRead (L c) (by omega)
    rw [B_L] at ha
    cases hz : ((rtx (L c)).2 == 0) with
    | false =>
      refine ⟨false, .step (fun k => flat_isValue_eq k _ _) (.tt e2 (.bind ha ?_)), (fun z => by cases z), fun z => ?_⟩
      · rw [hz]; exact .bind (x := (0, 0)) (.ff rfl (.pure _)) (.pure _)
      · rw [(z.num h2).1] at hz
        cases hz
    | true =>
      have hz' : (rtx (L c)).2 = 0 := by simpa using hz
      obtain ⟨y, y1, y2⟩ := ev_norm _ (rtx_ok _ hz')
      by_cases hp : (rtx (L c)).1.2 ≤ b.2.2.2.1
      · refine ⟨(y.1 == (rtx (L c)).1.1) && ((y.2 == (rtx (L c)).1.2) && true), .step (fun k => flat_isValue_eq k _ _) (.tt e2 (.bind ha ?_)), fun z => ⟨fun _ => ⟨hz', hp, ?_⟩, fun q => by omega, fun q => absurd h2 q⟩, fun z => ?_⟩
        · rw [hz, decide_eq_true hp]
          exact .bind (.tt rfl y2) (.pure _)
        · have e : y = (rtx (L c)).1 := by
            simp at z
            exact Prod.ext z.1 z.2
          rw [e] at y2
          exact y2
        · have e := Ev.uniq y2 (z.num h2).2.2
          rw [e]
          simp
      · refine ⟨false, .step (fun k => flat_isValue_eq k _ _) (.tt e2 (.bind ha ?_)), (fun z => by cases z), fun z => absurd (z.num h2).2.1 hp⟩
        rw [hz, decide_eq_false hp]
        exact .bind (x := (0, 0)) (.ff rfl (.pure _)) (.pure _)
  · have e2 : (b.2.1 == 2) = false := by simpa using h2
    by_cases h3 : b.2.1 = 3
    · have e3 : (b.2.1 == 3) = true := by simpa using h3
      obtain ⟨t, t2, t3⟩ := ev_dayA (L c) (by omega)
      rw [B_L] at t2
      refine ⟨t.2 == 0, .step (fun k => flat_isValue_eq k _ _) (.ff e2 (.tt e3 (.bind t2 (.pure _)))), fun z => ⟨fun q => absurd q h2, fun _ => ⟨t.1, ?_⟩, fun _ q => absurd h3 q⟩, fun z => ?_⟩
      · have hz : t.2 = 0 := by simpa using z
        have ht : t = (t.1, 0) := by rw [← hz]
        rw [ht] at t2
        exact ⟨t3 hz, t2⟩
      · obtain ⟨n, _, n2⟩ := z.day h3
        rw [Ev.uniq t2 n2]
        rfl
    · have e3 : (b.2.1 == 3) = false := by simpa using h3
      exact ⟨_, .step (fun k => flat_isValue_eq k _ _) (.ff e2 (.ff e3 (ev_aPlain c (by omega) h0))), fun z => ⟨fun q => absurd q h2, fun q => absurd q h3, fun _ _ => z⟩, fun z => z.txt h2 h3⟩
theorem ev_wrF (a : Fmt) (b : Col) (hb : ColOk a.1 b) (c : ByteArray) (hc : c.size ≤ 140737488351232) (hne : eqS c (bs []) = false) (hv : IsV b c) :
    ∃ w : ByteArray, Ev (fun k => flat_written k a b c) w ∧ (b.2.1 = 3 → (w.size : Int) = wOf b.2.2.2.2.1) ∧ (b.2.1 ≠ 3 → b.2.1 ≠ 2 → w = c) ∧ (b.2.1 = 2 → a.1 ≠ 0 → w = c) ∧ (b.2.1 = 2 → a.1 = 0 → w = B (Lib.itoa (sc (rtx (L c)).1 b.2.2.2.1))) := by
  have hsz := size_L c
  rcases hb.ty with t1 | t2 | t3
  · have e2 : (b.2.1 == 2) = false := by rw [t1]; rfl
    have e3 : (b.2.1 == 3) = false := by rw [t1]; rfl
    exact ⟨c, .step (fun k => flat_written_eq k _ _ _) (.ff hne (.ff (by rw [e2]; rfl) (.ff e3 (.pure _)))), fun z => by omega, fun _ _ => rfl, fun _ _ => rfl, fun z => by omega⟩
  · have e2 : (b.2.1 == 2) = true := by simpa using t2
    have e3 : (b.2.1 == 3) = false := by rw [t2]; rfl
    by_cases hm : a.1 = 0
    · obtain ⟨hz, hp, _⟩ := hv.num t2
      have hok := rtx_ok _ hz
      have hpl := hb.pl t2
      have ha := ev_aRead (L c) (by omega)
      rw [B_L] at ha
      have hsm : Sm (sc (rtx (L c)).1 b.2.2.2.1) := .of (Nat.le_trans (sc_abs hok (by omega)) (Nat.pow_le_pow_right (by decide) (by decide)))
      exact ⟨B (Lib.itoa (sc (rtx (L c)).1 b.2.2.2.1)), .step (fun k => flat_written_eq k _ _ _) (.ff hne (.tt (by rw [e2, hm]; rfl) (.bind ha (.bind (ev_Scaled _ _ hok hp (by omega)) (.ret (ev_WTextA _ hsm) rfl))))), fun z => by omega, fun _ z => absurd t2 z, fun _ z => absurd hm z, fun _ _ => rfl⟩
    · have hm' : (a.1 == 0) = false := by simpa using hm
      exact ⟨c, .step (fun k => flat_written_eq k _ _ _) (.ff hne (.ff (by rw [e2, hm']; rfl) (.ff e3 (.pure _)))), fun z => by omega, fun _ _ => rfl, fun _ _ => rfl, fun _ z => absurd z hm⟩
  · have e2 : (b.2.1 == 2) = false := by rw [t3]; rfl
    have e3 : (b.2.1 == 3) = true := by simpa using t3
    obtain ⟨n, hn, n2⟩ := hv.day t3
    obtain ⟨w, w2, w3⟩ := ev_dayTxA hn (hb.fm t3)
    exact ⟨w, .step (fun k => flat_written_eq k _ _ _) (.ff hne (.ff (by rw [e2]; rfl) (.tt e3 (.bind n2 (.bind w2 (.pure _)))))), fun _ => w3, fun z => absurd t3 z, fun z => by omega, fun z => by omega⟩
structure VF (a : Fmt) (b : Col) (c : ByteArray) : Prop where
  need : eqS c (bs []) = true → b.2.2.2.2.2.2.2 = false
  isV : eqS c (bs []) = false → IsV b c
  len : eqS c (bs []) = false → ∀ w : ByteArray, Ev (fun k => flat_written k a b c) w → (w.size : Int) ≤ b.2.2.1
  bar : eqS c (bs []) = false → a.1 ≠ 0 → a.2.1 = 0 → Lib.indexByte (L c) a.1.toNat.toUInt8 < 0
theorem ev_vf (a : Fmt) (b : Col) (hb : ColOk a.1 b) (c : ByteArray) (hc : c.size ≤ 140737488351232) : ∃ f : Int, Ev (fun k => flat_valueFault k a b c) f ∧ (f = 0 ↔ VF a b c) := by
  cases he : eqS c (bs []) with
  | true =>
    cases hr : b.2.2.2.2.2.2.2 with
    | true =>
      refine ⟨13, .step (fun k => flat_valueFault_eq k _ _ _) (.tt (by rw [he, hr]; rfl) (.pure _)), fun z => absurd z (by decide), fun z => ?_⟩
      have := z.need he
      rw [hr] at this
      cases this
    | false => exact ⟨0, .step (fun k => flat_valueFault_eq k _ _ _) (.ff (by rw [he, hr]; rfl) (.tt he (.pure _))), fun _ => ⟨fun _ => hr, (fun z => by rw [he] at z; cases z), (fun z => by rw [he] at z; cases z), (fun z => by rw [he] at z; cases z)⟩, fun _ => rfl⟩
  | false =>
    obtain ⟨t, t1, t2⟩ := ev_isVal b c hc he
    cases t with
    | false =>
      refine ⟨6, .step (fun k => flat_valueFault_eq k _ _ _) (.ff (by rw [he]; rfl) (.ff he (.bind t1 (.pure _)))), fun z => absurd z (by decide), fun z => ?_⟩
      have := t2.2 (z.isV he)
      cases this
    | true =>
      have hv := t2.1 rfl
      obtain ⟨w, w1, _⟩ := ev_wrF a b hb c hc he hv
      by_cases hw : (w.size : Int) > b.2.2.1
      · refine ⟨16, .step (fun k => flat_valueFault_eq k _ _ _) (.ff (by rw [he]; rfl) (.ff he (.bind t1 (.ff rfl (.bind w1 (.ck hw (.pure _))))))), fun z => absurd z (by decide), fun z => ?_⟩
        have := z.len he w w1
        omega
      · have hlen : ∀ w' : ByteArray, Ev (fun k => flat_written k a b c) w' → (w'.size : Int) ≤ b.2.2.1 := fun w' h' => by
          rw [← Ev.uniq w1 h']
          omega
        have hj : Ev (fun k => strings_IndexByte k c a.1) (Lib.indexByte (L c) a.1.toNat.toUInt8) := .step (fun k => strings_IndexByte_eq k _ _) (.bind (x := Lib.indexByte (L c) a.1.toNat.toUInt8) (.off (n := 0) fun k => by rw [stringslite_IndexByte_eq]) (.pure _))
        by_cases hg : a.1 ≠ 0 ∧ a.2.1 = 0
        · have hg' : (cond (a.1 != 0) (a.2.1 == 0) false) = true := by
            have h1 : (a.1 != 0) = true := by simpa using hg.1
            rw [h1, hg.2]; rfl
          by_cases hx : Lib.indexByte (L c) a.1.toNat.toUInt8 ≥ 0
          · refine ⟨12, .step (fun k => flat_valueFault_eq k _ _ _) (.ff (by rw [he]; rfl) (.ff he (.bind t1 (.ff rfl (.bind w1 (.nk hw (.bind (.tt hg' hj) (.tt (by rw [hg', decide_eq_true hx]; rfl) (.pure _))))))))), fun z => absurd z (by decide), fun z => ?_⟩
            have := z.bar he hg.1 hg.2
            omega
          · exact ⟨0, .step (fun k => flat_valueFault_eq k _ _ _) (.ff (by rw [he]; rfl) (.ff he (.bind t1 (.ff rfl (.bind w1 (.nk hw (.bind (.tt hg' hj) (.ff (by rw [hg', decide_eq_false hx]; rfl) (.pure _))))))))), fun _ => ⟨(fun z => by rw [he] at z; cases z), fun _ => hv, fun _ => hlen, fun _ _ _ => by omega⟩, fun _ => rfl⟩
        · have hg' : (cond (a.1 != 0) (a.2.1 == 0) false) = false := by
            by_cases h1 : a.1 = 0
            · rw [h1]; rfl
            · have h1' : (a.1 != 0) = true := by simpa using h1
              have h2 : ¬ a.2.1 = 0 := fun z => hg ⟨h1, z⟩
              have h2' : (a.2.1 == 0) = false := by simpa using h2
              rw [h1', h2']; rfl
          exact ⟨0, .step (fun k => flat_valueFault_eq k _ _ _) (.ff (by rw [he]; rfl) (.ff he (.bind t1 (.ff rfl (.bind w1 (.nk hw (.bind (x := 0) (.ff hg' (.pure _)) (.ff (by rw [hg']; rfl) (.pure _))))))))), fun _ => ⟨(fun z => by rw [he] at z; cases z), fun _ => hv, fun _ => hlen, fun _ q1 q2 => absurd ⟨q1, q2⟩ hg⟩, fun _ => rfl⟩
end Go.Proofs.YtgoepklennckmaaGreatDoor.Eq
namespace Go.Proofs.YtgoepklennckmaaGreatDoor.Eq
open Go Go.Ra
set_option linter.unusedVariables false
def RowVF (a : Fmt) (b : Row) : Prop := ∃ i : Nat, ∃ hi : i < a.2.2.1.length, kOf a.2.2.1 b.1 = i ∧ b.2.length = (a.2.2.1[i]).2.1.length ∧ ∀ j (hj : j < b.2.length) (hj' : j < (a.2.2.1[i]).2.1.length), VF a ((a.2.2.1[i]).2.1[j]) (b.2[j])
theorem ev_rowVF (a : Fmt) (b : Row) (ha : FitF a) (hok : FmtOk a) (hb : FitR b) : ∃ y : Int × Int, Ev (fun k => flat_checkRow k a b) y ∧ (y.2 = 0 → RowVF a b) ∧ (RowVF a b → y.2 = 0) := by
  by_cases h0 : kOf a.2.2.1 b.1 < 0
  · refine ⟨(0, 9), .step (fun k => flat_checkRow_eq k _ _) (.bind (ev_kindAt a _ ha.n) ?_), fun z => absurd z (by decide), fun ⟨i, hi, hk, _⟩ => by omega⟩
    rw [kAt_no h0]
    exact .tt rfl (.pure _)
  · obtain ⟨i, hi, hk, _⟩ := ixI_get (show 0 ≤ ixI (tagP b.1) a.2.2.1 from Int.not_lt.1 h0)
    have hk' : kOf a.2.2.1 b.1 = (i : Int) := hk
    have hmem := List.getElem_mem hi
    have hcl := hok.len _ hmem
    have hcol := hok.col _ hmem
    have hA : Ev (fun k => flat_kindAt k a b.1) (a.2.2.1[i], true) := (ev_kindAt a _ ha.n).to (kAt_at hi hk')
    by_cases hlen : b.2.length = (a.2.2.1[i]).2.1.length
    · have key : ∃ y : Int × Int, Ev (fun k => flat_checkRow_c7 k a b (a.2.2.1[i]).2.1 ((a.2.2.1[i]).2.1.length : Int) 0) y ∧ Ev (fun k => flat_checkRow_c7 k a b (a.2.2.1[i]).2.1 ((a.2.2.1[i]).2.1.length : Int) 0) y ∧
          ((y.2 = 0 → ∀ j, 0 ≤ j → ∀ (hj : j < b.2.length) (hj' : j < (a.2.2.1[i]).2.1.length), VF a ((a.2.2.1[i]).2.1[j]) (b.2[j])) ∧ ((∀ j, 0 ≤ j → ∀ (hj : j < b.2.length) (hj' : j < (a.2.2.1[i]).2.1.length), VF a ((a.2.2.1[i]).2.1[j]) (b.2[j])) → y.2 = 0)) := by
        refine ev_up2 b.2.length (fun (m : Nat) (y : Int × Int) => (y.2 = 0 → ∀ j, m ≤ j → ∀ (hj : j < b.2.length) (hj' : j < (a.2.2.1[i]).2.1.length), VF a ((a.2.2.1[i]).2.1[j]) (b.2[j])) ∧ ((∀ j, m ≤ j → ∀ (hj : j < b.2.length) (hj' : j < (a.2.2.1[i]).2.1.length), VF a ((a.2.2.1[i]).2.1[j]) (b.2[j])) → y.2 = 0)) (fun k j => flat_checkRow_c7 k a b (a.2.2.1[i]).2.1 ((a.2.2.1[i]).2.1.length : Int) j) (fun k j => flat_checkRow_c7 k a b (a.2.2.1[i]).2.1 ((a.2.2.1[i]).2.1.length : Int) j) (fun m hm h => ?_) ?_
        · obtain ⟨y, _, y2, y3, y4⟩ := h
          have hm' : m < (a.2.2.1[i]).2.1.length := by omega
          obtain ⟨f, f1, f2⟩ := ev_vf a ((a.2.2.1[i]).2.1[m]) (hcol _ (List.getElem_mem hm')) (b.2[m]) (hb.s _ (List.getElem_mem hm))
          have he : Ev (fun k => flat_checkRow_c7 k a b (a.2.2.1[i]).2.1 ((a.2.2.1[i]).2.1.length : Int) ((m : Nat) : Int)) (cond (f != 0) ((m : Int), f) y) := by
            refine .step (fun k => flat_checkRow_c7_eq k _ _ _ _ _) (.ck (by omega) (.ck (by omega) (.ck (by omega) (.ck (by omega) (.ck (by omega) ?_)))))
            rw [getD_at hm, getD_at hm', wj hm hb.n, col_eta]
            exact .bind f1 (.sel rfl (fun _ => .pure _) fun _ => y2)
          refine ⟨_, he, he, fun z j hj1 hj2 hj3 => ?_, fun z => ?_⟩
          · cases hf : (f != 0) with
            | true =>
              rw [hf] at z
              have z' : f = 0 := z
              rw [z'] at hf
              cases hf
            | false =>
              rw [hf] at z
              have hf0 : f = 0 := by simpa using hf
              by_cases e : j = m
              · subst e; exact f2.1 hf0
              · exact y3 z j (by omega) hj2 hj3
          · rw [f2.2 (z m (Nat.le_refl _) hm hm')]
            exact y4 fun j q1 q2 q3 => z j (by omega) q2 q3
        · have he : Ev (fun k => flat_checkRow_c7 k a b (a.2.2.1[i]).2.1 ((a.2.2.1[i]).2.1.length : Int) ((b.2.length : Nat) : Int)) (0, 0) := .step (fun k => flat_checkRow_c7_eq k _ _ _ _ _) (.nk (by omega) (.pure _))
          exact ⟨(0, 0), he, he, fun _ j hj1 hj2 => absurd hj2 (by omega), fun _ => rfl⟩
      obtain ⟨y, y1, _, y3, y4⟩ := key
      refine ⟨y, .step (fun k => flat_checkRow_eq k _ _) (.bind hA (.ff rfl (.ff (by rw [len_eq]; exact decide_eq_false (fun z => z hlen)) y1))), fun z => ⟨i, hi, hk', hlen, fun j hj hj' => y3 z j (Nat.zero_le _) hj hj'⟩, fun ⟨i', hi', hk2, _, hv⟩ => y4 fun j _ q2 q3 => ?_⟩
      have : i' = i := by omega
      subst this
      exact hv j q2 q3
    · refine ⟨(0, 3), .step (fun k => flat_checkRow_eq k _ _) (.bind hA (.ff rfl (.tt (by rw [len_eq]; exact decide_eq_true hlen) (.pure _)))), fun z => absurd z (by decide), fun ⟨i', hi', hk2, hl2, _⟩ => ?_⟩
      have : i' = i := by omega
      subst this
      exact absurd hl2 hlen
theorem ev_rowsVF (a : Fmt) (l : List Row) (ha : FitF a) (hok : FmtOk a) (hl : FitRs l) : ∃ y : Int × Int, Ev (fun k => flat_checkRows k a l) y ∧ (y.2 = 0 → ∀ r ∈ l, RowVF a r) ∧ ((∀ r ∈ l, RowVF a r) → y.2 = 0) := by
  have key : ∃ y : Int × Int, Ev (fun k => flat_checkRows_c2 k a l (l.length : Int) 0) y ∧ Ev (fun k => flat_checkRows_c2 k a l (l.length : Int) 0) y ∧ ((y.2 = 0 → ∀ j, 0 ≤ j → ∀ hj : j < l.length, RowVF a l[j]) ∧ ((∀ j, 0 ≤ j → ∀ hj : j < l.length, RowVF a l[j]) → y.2 = 0)) := by
    refine ev_up2 l.length (fun (m : Nat) (y : Int × Int) => (y.2 = 0 → ∀ j, m ≤ j → ∀ hj : j < l.length, RowVF a l[j]) ∧ ((∀ j, m ≤ j → ∀ hj : j < l.length, RowVF a l[j]) → y.2 = 0)) (fun k j => flat_checkRows_c2 k a l (l.length : Int) j) (fun k j => flat_checkRows_c2 k a l (l.length : Int) j) (fun m hm h => ?_) ?_
    · obtain ⟨y, _, y2, y3, y4⟩ := h
      obtain ⟨f, f1, f2, f3⟩ := ev_rowVF a l[m] ha hok (hl.r _ (List.getElem_mem hm))
      have he : Ev (fun k => flat_checkRows_c2 k a l (l.length : Int) ((m : Nat) : Int)) (cond (f.2 != 0) ((m : Int), f.2) y) := by
        refine .step (fun k => flat_checkRows_c2_eq k _ _ _ _) (.ck (by omega) (.ck (by omega) (.ck (by omega) ?_)))
        rw [getD_at hm, wj hm hl.n]
        exact .bind f1 (.sel rfl (fun _ => .pure _) fun _ => y2)
      refine ⟨_, he, he, fun z j hj1 hj2 => ?_, fun z => ?_⟩
      · cases hf : (f.2 != 0) with
        | true =>
          rw [hf] at z
          have z' : f.2 = 0 := z
          rw [z'] at hf
          cases hf
        | false =>
          rw [hf] at z
          have hf0 : f.2 = 0 := by simpa using hf
          by_cases e : j = m
          · subst e; exact f2 hf0
          · exact y3 z j (by omega) hj2
      · rw [f3 (z m (Nat.le_refl _) hm)]
        exact y4 fun j q1 q2 => z j (by omega) q2
    · have he : Ev (fun k => flat_checkRows_c2 k a l (l.length : Int) ((l.length : Nat) : Int)) (0, 0) := .step (fun k => flat_checkRows_c2_eq k _ _ _ _) (.nk (by omega) (.pure _))
      exact ⟨(0, 0), he, he, fun _ j hj1 hj2 => absurd hj2 (by omega), fun _ => rfl⟩
  obtain ⟨y, y1, _, y3, y4⟩ := key
  refine ⟨y, .step (fun k => flat_checkRows_eq k _ _) y1, fun z r hr => ?_, fun z => y4 fun j _ hj => z _ (List.getElem_mem hj)⟩
  obtain ⟨j, hj, rfl⟩ := List.getElem_of_mem hr
  exact y3 z j (Nat.zero_le _) hj
def valN (kd : Knd) (r : Row) (t : ByteArray) : ByteArray := if 0 ≤ cOf kd.2.1 t then r.2.getD (cOf kd.2.1 t).toNat (bs []) else bs []
def turnR (kd o : Knd) (r : Row) : Row := (r.1, o.2.1.map fun c => valN kd r c.1)
theorem ev_turned2 {kd o : Knd} (hk : kd.2.1.length < 1125899906842624) (ho : o.2.1.length ≤ 50) (r : Row) (hr : r.2.length = kd.2.1.length) (hc : ∀ c ∈ kd.2.1, 0 ≤ cOf o.2.1 c.1) : Ev (fun k => flat_turned k kd o r) (turnR kd o r, 0) := by
  have hoc : o.2.1.length < 1125899906842624 := by omega
  refine .step (fun k => flat_turned_eq k _ _ _) ?_
  have lost : Ev (fun k => flat_turned_c13 k o r row0 (turnR kd o r) 0 kd.2.1 (kd.2.1.length : Int) 0) (turnR kd o r, 0) := by
    refine ev_up kd.2.1.length (fun _ => (turnR kd o r, 0)) (fun k j => flat_turned_c13 k o r row0 (turnR kd o r) 0 kd.2.1 (kd.2.1.length : Int) j) (fun j hj h => ?_) ?_
    · have hj2 : j < r.2.length := by omega
      have hcj := hc _ (List.getElem_mem hj)
      refine .step (fun k => flat_turned_c13_eq k _ _ _ _ _ _ _ _) (.ck (by omega) (.ck (by omega) (.ck (by omega) (.ck (by omega) (.ck (by omega) ?_)))))
      rw [getD_at hj, getD_at hj2, wj hj hk]
      refine .bind (.gd rfl fun _ => ev_columnAt o _ hoc) (.ff ?_ h)
      cases eqS (r.2[j]) (bs []) with
      | true => rfl
      | false => exact decide_eq_false (show ¬ (cOf o.2.1 (kd.2.1[j]).1 < 0) by omega)
    · exact .step (fun k => flat_turned_c13_eq k _ _ _ _ _ _ _ _) (.nk (by omega) (.pure _))
  have key : ∀ (m j : Nat), o.2.1.length - j = m → j ≤ o.2.1.length → Ev (fun k => flat_turned_c3 k kd o r row0 (r.1, (o.2.1.take j).map fun c => valN kd r c.1) o.2.1 (o.2.1.length : Int) (j : Int)) (turnR kd o r, 0) := by
    intro m
    induction m with
    | zero =>
      intro j hm hj
      refine .step (fun k => flat_turned_c3_eq k _ _ _ _ _ _ _ _) (.nk (by omega) ?_)
      rw [List.take_of_length_le (by omega)]
      exact lost
    | succ m ih =>
      intro j hm hj
      have hj1 : j < o.2.1.length := by omega
      have hstep : Ev (fun k => flat_turned_c9 k kd o r row0 (r.1, (o.2.1.take j).map fun c => valN kd r c.1) (valN kd r (o.2.1[j]).1) o.2.1 (o.2.1.length : Int) (j : Int)) (turnR kd o r, 0) := by
        refine .step (fun k => flat_turned_c9_eq k _ _ _ _ _ _ _ _ _) (.ck (by simp only [List.length_map, List.length_take]; omega) ?_)
        rw [wj hj1 hoc]
        have e : ((o.2.1.take j).map fun c => valN kd r c.1) ++ [valN kd r (o.2.1[j]).1] = (o.2.1.take (j + 1)).map fun c => valN kd r c.1 := by
          rw [← List.take_append_getElem hj1, List.map_append]
          rfl
        have := ih (j + 1) (by omega) (by omega)
        rw [← e] at this
        exact this
      refine .step (fun k => flat_turned_c3_eq k _ _ _ _ _ _ _ _) (.ck (by omega) (.ck (by omega) (.ck (by omega) ?_)))
      rw [getD_at hj1]
      refine .bind (ev_columnAt kd _ hk) ?_
      have hlt := (ixI_lt (colP (o.2.1[j]).1) kd.2.1).2
      have hlt' : cOf kd.2.1 (o.2.1[j]).1 < kd.2.1.length := hlt
      by_cases h : cOf kd.2.1 (o.2.1[j]).1 ≥ 0
      · have e : valN kd r (o.2.1[j]).1 = r.2.getD (cOf kd.2.1 (o.2.1[j]).1).toNat (bs []) := if_pos h
        rw [e] at hstep
        exact .ck h (.ck h (.ck (by omega) hstep))
      · have e : valN kd r (o.2.1[j]).1 = bs [] := if_neg h
        rw [e] at hstep
        exact .nk h hstep
  have := key _ 0 rfl (Nat.zero_le _)
  exact this
def turnG (a b : Fmt) (r : Row) : Row := turnR (kAt a.2.2.1 r.1).1 (kAt b.2.2.1 r.1).1 r
end Go.Proofs.YtgoepklennckmaaGreatDoor.Eq
namespace Go.Proofs.YtgoepklennckmaaGreatDoor.Eq
open Go Go.Ra
set_option linter.unusedVariables false
def midB (a : Fmt) (r : Row) : Bool := cond (cond (eqS a.2.2.2.1 (bs [])) true (!(eqS r.1 a.2.2.2.1))) (cond (eqS a.2.2.2.2.1 (bs [])) true (!(eqS r.1 a.2.2.2.2.1))) false
def midL (a : Fmt) (l : List Row) : List Row := l.filter (midB a)
theorem ev_inner (a : Fmt) (l : List Row) (hn : l.length ≤ 3518437208780) : Ev (fun k => flat_inner k a l) (midL a l) := by
  refine .step (fun k => flat_inner_eq k _ _) ?_
  have key : ∀ (m q : Nat) (acc : List Row), l.length - q = m → q ≤ l.length → acc.length ≤ q → Ev (fun k => flat_inner_c3 k a acc l (l.length : Int) (q : Int)) (acc ++ midL a (l.drop q)) := by
    intro m
    induction m with
    | zero =>
      intro q acc hm hq hacc
      rw [List.drop_of_length_le (by omega)]
      exact .step (fun k => flat_inner_c3_eq k _ _ _ _ _) (.nk (by omega) (.to (.pure _) (by simp [midL])))
    | succ m ih =>
      intro q acc hm hq hacc
      have hq3 : q < l.length := by omega
      refine .step (fun k => flat_inner_c3_eq k _ _ _ _ _) (.ck (by omega) (.ck (by omega) (.ck (by omega) ?_)))
      rw [getD_at hq3, wj hq3 (by omega), dropR hq3]
      cases hb : midB a l[q] with
      | true =>
        have e : acc ++ midL a (l[q] :: l.drop (q + 1)) = (acc ++ [l[q]]) ++ midL a (l.drop (q + 1)) := by
          unfold midL
          rw [List.filter_cons, hb, if_pos rfl, List.append_assoc]
          rfl
        rw [e]
        exact .tt hb (.ck (by omega) (ih (q + 1) (acc ++ [l[q]]) (by omega) (by omega) (by rw [List.length_append]; simp; omega)))
      | false =>
        have e : midL a (l[q] :: l.drop (q + 1)) = midL a (l.drop (q + 1)) := by
          unfold midL
          rw [List.filter_cons, hb, if_neg (by decide)]
        rw [e]
        exact .ff hb (ih (q + 1) acc (by omega) (by omega) (by omega))
  exact key _ 0 [] rfl (Nat.zero_le _) (Nat.le_refl _)
theorem ev_inner1 (a : Fmt) (l : List Row) (hn : l.length ≤ 3518437208780) : Ev (fun k => flat_inner_1 k a l) (midL a l) := by
  refine .step (fun k => flat_inner_1_eq k _ _) ?_
  have key : ∀ (m q : Nat) (acc : List Row), l.length - q = m → q ≤ l.length → acc.length ≤ q → Ev (fun k => flat_inner_1_c3 k a acc l (l.length : Int) (q : Int)) (acc ++ midL a (l.drop q)) := by
    intro m
    induction m with
    | zero =>
      intro q acc hm hq hacc
      rw [List.drop_of_length_le (by omega)]
      exact .step (fun k => flat_inner_1_c3_eq k _ _ _ _ _) (.nk (by omega) (.to (.pure _) (by simp [midL])))
    | succ m ih =>
      intro q acc hm hq hacc
      have hq3 : q < l.length := by omega
      refine .step (fun k => flat_inner_1_c3_eq k _ _ _ _ _) (.ck (by omega) (.ck (by omega) (.ck (by omega) ?_)))
      rw [getD_at hq3, wj hq3 (by omega), dropR hq3]
      cases hb : midB a l[q] with
      | true =>
        have e : acc ++ midL a (l[q] :: l.drop (q + 1)) = (acc ++ [l[q]]) ++ midL a (l.drop (q + 1)) := by
          unfold midL
          rw [List.filter_cons, hb, if_pos rfl, List.append_assoc]
          rfl
        rw [e]
        exact .tt hb (.ck (by omega) (ih (q + 1) (acc ++ [l[q]]) (by omega) (by omega) (by rw [List.length_append]; simp; omega)))
      | false =>
        have e : midL a (l[q] :: l.drop (q + 1)) = midL a (l.drop (q + 1)) := by
          unfold midL
          rw [List.filter_cons, hb, if_neg (by decide)]
        rw [e]
        exact .ff hb (ih (q + 1) acc (by omega) (by omega) (by omega))
  exact key _ 0 [] rfl (Nat.zero_le _) (Nat.le_refl _)
theorem midL_append (a : Fmt) (l m : List Row) : midL a (l ++ m) = midL a l ++ midL a m := List.filter_append ..
def valT (a : Fmt) (d : ByteArray) (r : Row) : ByteArray := valN (kAt a.2.2.1 r.1).1 r d
def offT (a : Fmt) (d : ByteArray) (r : Row) : Bool := cond (decide (cOf (kAt a.2.2.1 r.1).1.2.1 d ≥ 0)) (((kAt a.2.2.1 r.1).1.2.1.getD (cOf (kAt a.2.2.1 r.1).1.2.1 d).toNat col0).2.1 != 2) false
theorem ev_offT (a : Fmt) (d : ByteArray) (r : Row) (ha : FitF a) : Ev (fun k => flat_sumFault_1_r k r a) (offT a a.2.2.2.2.2.2 r) := by
  have hkc := kAt_len a.2.2.1 r.1 ha.c
  have hlt := (ixI_lt (colP a.2.2.2.2.2.2) (kAt a.2.2.1 r.1).1.2.1).2
  have hlt' : cOf (kAt a.2.2.1 r.1).1.2.1 a.2.2.2.2.2.2 < (kAt a.2.2.1 r.1).1.2.1.length := hlt
  exact .step (fun k => flat_sumFault_1_r_eq k _ _) (.bind (ev_kindAt a _ ha.n) (.bind (ev_columnAt _ _ hkc) (.tt (bor' fun z => z) (.tt (bor' fun _ => by simpa using hlt') (.pure _)))))
theorem ev_sumFault (a : Fmt) (l : List Row) (ha : FitF a) (hn : l.length ≤ 3518437208780) : ∃ t : Bool, Ev (fun k => flat_sumFault k a l) t ∧ (t = false ↔ (eB a.2.2.2.2.2.2 = true ∨ ∀ r ∈ l, offT a a.2.2.2.2.2.2 r = false)) := by
  have hS : Ev (fun k => slices_ContainsFunc_Lapi_Row_api_Row_of_flat_sumFault_1 k l a) (decide (ixI (offT a a.2.2.2.2.2.2) l ≥ 0)) := by
    refine .step (fun k => slices_ContainsFunc_Lapi_Row_api_Row_of_flat_sumFault_1_eq k _ _) (.bind (x := ixI (offT a a.2.2.2.2.2.2) l) (.step (fun k => slices_IndexFunc_Lapi_Row_api_Row_of_flat_sumFault_1_eq k _ _) ?_) (.pure _))
    refine ev_loop _ l (fun k i => slices_IndexFunc_Lapi_Row_api_Row_of_flat_sumFault_1_c2 k l a (l.length : Int) i) (fun i hi y q1 q2 => ?_) (.step (fun k => slices_IndexFunc_Lapi_Row_api_Row_of_flat_sumFault_1_c2_eq k _ _ _ _) (.nk (by omega) (.pure _)))
    refine .step (fun k => slices_IndexFunc_Lapi_Row_api_Row_of_flat_sumFault_1_c2_eq k _ _ _ _) (.ck (by omega) (.ck (by omega) (.ck (by omega) ?_)))
    rw [getD_at hi, wj hi (by omega)]
    exact .bind (ev_offT a a.2.2.2.2.2.2 l[i] ha) (.cond (fun z => .to (.pure _) (q1 z).symm) q2)
  refine ⟨cond (!eB a.2.2.2.2.2.2) (decide (ixI (offT a a.2.2.2.2.2.2) l ≥ 0)) false, .step (fun k => flat_sumFault_eq k _ _) (.bind (.gd (e := !eB a.2.2.2.2.2.2) rfl fun _ => hS) (.to (.pure _) ?_)), ?_⟩
  · show cond (!eB a.2.2.2.2.2.2) _ false = _
    cases eB a.2.2.2.2.2.2 <;> rfl
  · cases he : eB a.2.2.2.2.2.2 with
    | true => exact ⟨fun _ => .inl rfl, fun _ => rfl⟩
    | false =>
      constructor
      · intro z
        have := of_decide_eq_false (show decide (ixI (offT a a.2.2.2.2.2.2) l ≥ 0) = false from z)
        exact .inr (ixI_none.1 (by omega))
      · rintro (z | z)
        · cases z
        · exact decide_eq_false (by have := ixI_none.2 z; omega)
def RowSm (a : Fmt) (r : Row) : Prop := ∃ i : Nat, ∃ hi : i < a.2.2.1.length, kOf a.2.2.1 r.1 = i ∧ r.2.length = (a.2.2.1[i]).2.1.length ∧ ∀ j (hj : j < r.2.length) (hj' : j < (a.2.2.1[i]).2.1.length), eqS (r.2[j]) (bs []) = false → ((a.2.2.1[i]).2.1[j]).2.1 = 2 → (rtx (L (r.2[j]))).2 = 0
theorem RowVF.sm {a : Fmt} {r : Row} (h : RowVF a r) : RowSm a r := by
  obtain ⟨i, hi, h1, h2, h3⟩ := h
  exact ⟨i, hi, h1, h2, fun j hj hj' z w => ((h3 j hj hj').isV z).num w |>.1⟩
theorem ev_sumAll (a : Fmt) (l : List Row) (d : ByteArray) (ha : FitF a) (hl : FitRs l) (hn : l.length ≤ 3518437208780) (hrows : ∀ r ∈ l, RowSm a r) (hoff : ∀ r ∈ l, offT a d r = false) :
    Ev (fun k => flat_sumOf k a l (bs []) d) (fwF 9 (sumL (l.map (valT a d)))) := by
  -- what is known of one value
  have one : ∀ r ∈ l, ∃ i, ∃ hi : i < a.2.2.1.length, kOf a.2.2.1 r.1 = (i : Int) ∧ ((cOf (a.2.2.1[i]).2.1 d < 0 ∧ valT a d r = bs []) ∨ ∃ j, ∃ hj : j < (a.2.2.1[i]).2.1.length, ∃ hjr : j < r.2.length, cOf (a.2.2.1[i]).2.1 d = (j : Int) ∧ valT a d r = r.2[j] ∧ (r.2[j]).size ≤ 140737488351232 ∧ (eqS (r.2[j]) (bs []) = false → (rtx (L (r.2[j]))).2 = 0)) := fun r hr => by
    obtain ⟨i, hi, hk, hlen, hv⟩ := hrows r hr
    refine ⟨i, hi, hk, ?_⟩
    have eA : (kAt a.2.2.1 r.1).1 = a.2.2.1[i] := by rw [kAt_at hi hk]
    by_cases hc : cOf (a.2.2.1[i]).2.1 d < 0
    · left
      refine ⟨hc, ?_⟩
      unfold valT valN
      rw [eA, if_neg (by omega)]
    · right
      obtain ⟨j, hj, hjc, _⟩ := ixI_get (show 0 ≤ ixI (colP d) (a.2.2.1[i]).2.1 from Int.not_lt.1 hc)
      have hjc' : cOf (a.2.2.1[i]).2.1 d = (j : Int) := hjc
      have hjr : j < r.2.length := by omega
      refine ⟨j, hj, hjr, hjc', ?_, (hl.r r hr).s _ (List.getElem_mem hjr), fun z => ?_⟩
      · unfold valT valN
        rw [eA, hjc', if_pos (by omega), getD_at hjr]
      · have ho := hoff r hr
        unfold offT at ho
        rw [eA, hjc', decide_eq_true (show ((j : Nat) : Int) ≥ 0 by omega), getD_at hj] at ho
        have h2 : ((a.2.2.1[i]).2.1[j]).2.1 = 2 := by simpa using ho
        exact hv j hjr hj z h2
  have dec : ∀ q, DecL ((l.drop q).map (valT a d)) := fun q v hv => by
    obtain ⟨r, hr, rfl⟩ := List.mem_map.1 hv
    obtain ⟨i, hi, _, h | ⟨j, hj, hjr, _, e, hs, hz⟩⟩ := one r (List.mem_of_mem_drop hr)
    · rw [h.2]
      exact ⟨Nat.zero_le _, fun z => by rw [eqS_self] at z; cases z⟩
    · rw [e]
      exact ⟨hs, hz⟩
  have key : ∀ (m q : Nat) (S : Int), l.length - q = m → q ≤ l.length → S.natAbs ≤ q * 10 ^ 35 → S + sumL ((l.drop q).map (valT a d)) = sumL (l.map (valT a d)) → Ev (fun k => flat_sumOf_c3 k (bs []) d a (0, 0) (W S) l (l.length : Int) (q : Int)) (fwF 9 (sumL (l.map (valT a d)))) := by
    intro m
    induction m with
    | zero =>
      intro q S hq hq2 hb hS
      rw [List.drop_of_length_le (by omega)] at hS
      have e : S = sumL (l.map (valT a d)) := by simpa [sumL] using hS
      rw [← e]
      have hSm : Sm S := .of (Nat.le_trans hb (Nat.le_trans (Nat.mul_le_mul_right _ (show q ≤ 3518437208780 by omega)) (by decide)))
      exact .step (fun k => flat_sumOf_c3_eq k _ _ _ _ _ _ _ _) (.nk (by omega) (.ret (.step (fun k => amount_Fewest_eq k _ _) (.bind (ev_Of 10 (by decide) (by decide)) (ev_fewest (0, 0) 9 S (by decide) hSm))) rfl))
    | succ m ih =>
      intro q S hq hq2 hb hS
      have hq3 : q < l.length := by omega
      have hb' : S.natAbs ≤ (q + 1) * 10 ^ 35 := Nat.le_trans hb (Nat.mul_le_mul_right _ (Nat.le_succ q))
      obtain ⟨i, hi, hk, hcase⟩ := one _ (List.getElem_mem hq3)
      have hmem := List.getElem_mem hi
      have hA : Ev (fun k => flat_kindAt k a (l[q]).1) (a.2.2.1[i], true) := (ev_kindAt a _ ha.n).to (kAt_at hi hk)
      have hC := ev_columnAt (a.2.2.1[i]) d (ha.c _ hmem)
      rw [dropR hq3, List.map_cons, sumL_cons] at hS
      refine .step (fun k => flat_sumOf_c3_eq k _ _ _ _ _ _ _ _) (.ck (by omega) (.ck (by omega) (.ck (by omega) ?_)))
      rw [getD_at hq3, wj hq3 (by omega), eqS_self]
      rcases hcase with ⟨hc, e⟩ | ⟨j, hj, hjr, hjc, e, hs, hz⟩
      · rw [e, eqS_self, if_pos rfl] at hS
        refine .bind hA (.bind hC ?_)
        rw [decide_eq_true hc]
        exact .tt rfl (.tt rfl (.tt rfl (ih (q + 1) S (by omega) (by omega) hb' (by omega))))
      · rw [e] at hS
        refine .bind hA (.bind (hC.to hjc) ?_)
        rw [decide_eq_false (by omega : ¬ ((j : Nat) : Int) < 0), getD_at hjr]
        refine .tt (by simp) (.tt (by simp; omega) ?_)
        cases hem : eqS ((l[q]).2[j]) (bs []) with
        | true =>
          rw [hem, if_pos rfl] at hS
          exact .tt rfl (ih (q + 1) S (by omega) (by omega) hb' (by omega))
        | false =>
          rw [hem, if_neg (by decide)] at hS
          have hsz := size_L ((l[q]).2[j])
          have hok2 := rtx_ok _ (hz hem)
          have hr := ev_aRead (L ((l[q]).2[j])) (by omega)
          rw [B_L] at hr
          have hsc := sc_abs (p := 9) hok2 (by decide)
          have hS1 : Sm S := .of (Nat.le_trans hb (Nat.le_trans (Nat.mul_le_mul_right _ (show q ≤ 3518437208780 by omega)) (by decide)))
          have hS2 : Sm (sc (rtx (L ((l[q]).2[j]))).1 9) := .of (Nat.le_trans hsc (Nat.pow_le_pow_right (by decide) (by decide)))
          refine .ff rfl (.ck (by omega) (.ck (by omega) (.bind hr (.bind (ev_Value _ hok2) (.bind (ev_Plus S _ hS1 hS2) (ih (q + 1) _ (by omega) (by omega) ?_ (by omega)))))))
          rw [Nat.succ_mul]
          omega
  refine .step (fun k => flat_sumOf_eq k _ _ _ _) (.bind (ev_Of 0 (by decide) (by decide)) ?_)
  exact key _ 0 0 rfl (Nat.zero_le _) (by simp) (by rw [List.drop_zero, Int.zero_add])
theorem ev_told2 {d : Int × Int} (h : okD d) : Ev (fun k => amount_Told k d) (B (txL d)) := by
  have := ev_aText d
  rw [if_pos h] at this
  exact .step (fun k => amount_Told_eq k _) (.bind this (.pure _))
theorem ev_cloneT (l : List ByteArray) (hn : l.length < 8796093022208) : Ev (fun k => slices_Clone_Lstring_string k l) l := by
  cases l with
  | nil => exact .step (fun k => slices_Clone_Lstring_string_eq k _) (.pure _)
  | cons x t => exact .step (fun k => slices_Clone_Lstring_string_eq k _) (.ff rfl (.ck (by omega) (.pure _)))
theorem ev_cloneR (l : List Row) (hn : l.length ≤ 2000) (hl : FitRs l) (h8 : ∀ r ∈ l, r.2.length < 8796093022208) : Ev (fun k => flat_cloneRows k l) l := by
  have h0 : Ev (fun k => slices_Clone_Lapi_Row_api_Row k l) l := by
    cases l with
    | nil => exact .step (fun k => slices_Clone_Lapi_Row_api_Row_eq k _) (.pure _)
    | cons x t => exact .step (fun k => slices_Clone_Lapi_Row_api_Row_eq k _) (.ff rfl (.ck (by omega) (.pure _)))
  refine .step (fun k => flat_cloneRows_eq k _) (.bind h0 ?_)
  refine ev_up l.length (fun _ => l) (fun k i => flat_cloneRows_c3 k l (l.length : Int) i) (fun i hi h => ?_) ?_
  · refine .step (fun k => flat_cloneRows_c3_eq k _ _ _) (.ck (by omega) (.ck (by omega) (.ck (by omega) ?_)))
    rw [getD_at hi, wj hi (by omega)]
    refine .bind (ev_cloneT _ (h8 _ (List.getElem_mem hi))) (.ck (by omega) (.ck (by omega) ?_))
    have e : l.set ((i : Nat) : Int).toNat ((l[i]).1, (l[i]).2) = l := by
      rw [Int.toNat_natCast]
      exact List.set_getElem_self hi
    rw [e]
    exact h
  · exact .step (fun k => flat_cloneRows_c3_eq k _ _ _) (.nk (by omega) (.pure _))
end Go.Proofs.YtgoepklennckmaaGreatDoor.Eq
namespace Go.Proofs.YtgoepklennckmaaGreatDoor.Eq
open Go Go.Ra
set_option linter.unusedVariables false
structure FieldOk (a : Fmt) (b : Col) (v : ByteArray) (w : List UInt8) : Prop where
  fill : Ev (fun k => flat_filled k a b v) (B w)
  len : (w.length : Int) = b.2.2.1
  back : Ev (fun k => flat_fromFilled k a b (B w)) (v, true)
  no10 : (10 : UInt8) ∉ w
theorem B_ne {l : List UInt8} (h : l ≠ []) : eqS (B l) (bs []) = false := by
  rw [eqS_nil, L_B]
  cases l with
  | nil => exact absurd rfl h
  | cons => rfl
theorem trim_pad {x : List UInt8} (n : Nat) (hx : Lib.trimS x [32] = x) (h0 : x ≠ []) : Lib.trimS (x ++ List.replicate n 32) [32] = x := by
  obtain ⟨h1, h2⟩ := (trim_self x [32]).1 hx
  unfold Lib.trimS Lib.trimRightS Lib.trimLeftS
  rw [List.reverse_append, List.reverse_replicate, List.dropWhile_append_of_pos (fun b hb => by rw [List.eq_of_mem_replicate hb]; decide), dropW_id (l := x.reverse) (fun b hb => h2 b (by rw [List.getLast?_eq_head?_reverse]; exact hb)), List.reverse_reverse]
  exact dropW_id h1
theorem trim_no {x : List UInt8} (h : ∀ b ∈ x, b ≠ 32) : Lib.trimS x [32] = x := by
  refine (trim_self x [32]).2 ⟨fun b hb => ?_, fun b hb => ?_⟩
  · have := h b (List.mem_of_mem_head? hb)
    simpa using this
  · have := h b (List.mem_of_getLast? hb)
    simpa using this
theorem ev_fieldText (a : Fmt) (b : Col) (v : ByteArray) (hm : a.1 = 0) (hb : ColOk a.1 b) (ht : b.2.1 = 1) (hr : b.2.2.2.2.2.1 = false) (hf : b.2.2.2.2.2.2.1 = 32) (hne : eqS v (bs []) = false) (hv : plB (L v) = true) (hs : (v.size : Int) ≤ b.2.2.1) :
    FieldOk a b v (L v ++ List.replicate (b.2.2.1.toNat - v.size) 32) := by
  have hw1 := hb.w1
  have hw2 := hb.w2
  have hsz := size_L v
  have h0 := ne_size hne
  have k2 : (b.2.1 == 2) = false := by rw [ht]; rfl
  have k3 : (b.2.1 == 3) = false := by rw [ht]; rfl
  have hwr : Ev (fun k => flat_written k a b v) v := .step (fun k => flat_written_eq k _ _ _) (.ff hne (.ff (by rw [k2]; rfl) (.ff k3 (.pure _))))
  have hrep : Ev (fun k => strings_Repeat k (Utf8.encode b.2.2.2.2.2.2.1) (maxI 0 (wi64 (b.2.2.1 - (v.size : Int))))) (B (List.replicate (b.2.2.1.toNat - v.size) 32)) := by
    rw [hf, enc_one (by omega) (by omega), (padW hw1 hw2 hs).2]
    exact ev_RepC 32 _ (by omega)
  have hBv : B (L v) = v := B_L v
  have hwl : (L v ++ List.replicate (b.2.2.1.toNat - v.size) 32).length = b.2.2.1.toNat := by rw [List.length_append, List.length_replicate]; omega
  have hfill : Ev (fun k => flat_filled k a b v) (B (L v ++ List.replicate (b.2.2.1.toNat - v.size) 32)) := by
    refine .step (fun k => flat_filled_eq k _ _ _) (.bind hwr (.ff hne (.bind (x := false) (.ff (by rw [hr]; rfl) (.pure _)) (.ff (by rw [hr]; rfl) (.ff hr (.ff k3 (.bind hrep (.ck ?_ (.to (.pure _) ?_)))))))))
    · rw [size_B, List.length_replicate]; omega
    · rw [← B_app, hBv]
  have hpl := hv
  rw [plB_eq _ (by omega), Bool.and_eq_true] at hpl
  have htr : Lib.trimS (L v) [32] = L v := by simpa using hpl.2
  have hLne : L v ≠ [] := fun z => by rw [z, List.length_nil] at hsz; omega
  have hT : Ev (fun k => strings_Trim k (B (L v ++ List.replicate (b.2.2.1.toNat - v.size) 32)) (bs [32])) v := by
    have h := ev_Trim32 (B (L v ++ List.replicate (b.2.2.1.toNat - v.size) 32)) (by rw [size_B]; omega)
    rw [L_B, trim_pad _ htr hLne, hBv] at h
    exact h
  obtain ⟨t, t1, t2⟩ := ev_isVal b v (by omega) hne
  have htt : t = true := t2.2 ⟨fun q => by omega, fun q => by omega, fun _ _ => hv⟩
  have hval : Ev (fun k => flat_valueOf k a b v) (v, true) := .step (fun k => flat_valueOf_eq k _ _ _) (.ff hne (.ff (by rw [k2]; rfl) (.ff k3 (.bind t1 (.to (.pure _) (by rw [htt]))))))
  refine ⟨hfill, by omega, ?_, fun hmem => ?_⟩
  · refine .step (fun k => flat_fromFilled_eq k _ _ _) (.bind hT (.ff (by rw [k2]; rfl) (.bind hval (.bind (.tt rfl hfill) (.to (.pure _) ?_)))))
    show (v, cond true (eqS _ _) false) = _
    rw [eqS_self]
    rfl
  · rcases List.mem_append.1 hmem with h | h
    · have := List.all_eq_true.1 hpl.1 _ h
      exact absurd this (by decide)
    · have := List.eq_of_mem_replicate h
      exact absurd this (by decide)
theorem Ev.unstep {α : Type} {f g : Nat → Option α} {y : α} (h : ∀ k, f (k + 1) = g k) (hf : Ev f y) : Ev g y := by
  obtain ⟨K, hK⟩ := hf
  exact ⟨K, fun k hk => by rw [← h]; exact hK (k + 1) (by omega)⟩
theorem ev_leastSc {d : Int × Int} (hd : okD d) (hL : Ev (fun k => amount_Least k d) d) (h0 : 0 ≤ d.1) : ∀ j : Nat, d.1 * 10 ^ j ≤ 1000000000000000000 → d.2 + j ≤ 9 → Ev (fun k => amount_Least_c1 k (d.1 * 10 ^ j, d.2 + (j : Int)) (0, 0)) d
  | 0, _, _ => by
    have h : Ev (fun k => amount_Least_c1 k d (0, 0)) d := Ev.unstep (f := fun k => amount_Least k d) (g := fun k => amount_Least_c1 k d (0, 0)) (fun k => amount_Least_eq k d) hL
    simpa using h
  | j + 1, hb, hp => by
    have e : d.1 * 10 ^ (j + 1) = (d.1 * 10 ^ j) * 10 := by rw [Int.pow_succ, Int.mul_assoc]
    have hnn : 0 ≤ d.1 * 10 ^ j := Int.mul_nonneg h0 (Int.pow_nonneg (by omega))
    have ih := ev_leastSc hd hL h0 j (by omega) (by omega)
    have hd2 := hd.2.2.1
    have e1 : wi64 ((d.1 * 10 ^ j * 10).tdiv 10) = d.1 * 10 ^ j := by rw [Int.mul_tdiv_cancel _ (by decide), wi64_id (by omega) (by omega)]
    have e2 : wi64 (d.2 + ((j + 1 : Nat) : Int) - 1) = d.2 + (j : Int) := by rw [wi64_id (by omega) (by omega)]; omega
    rw [e]
    refine .step (fun k => amount_Least_c1_eq k _ _) (.tt (by simp) (.tt ?_ ?_))
    · rw [decide_eq_true (show d.2 + ((j + 1 : Nat) : Int) > 0 by omega), Int.mul_tmod_left]
      rfl
    · show Ev (fun k => amount_Least_c1 k (wi64 ((d.1 * 10 ^ j * 10).tdiv 10), wi64 (d.2 + ((j + 1 : Nat) : Int) - 1)) (0, 0)) d
      rw [e1, e2]
      exact ih
theorem ev_TrimL48 : ∀ (n : Nat) (l : List UInt8), l.length = n → n < 1125899906842624 → Ev (fun k => strings_trimLeftByte_c1 k (B l) 48) (B (l.dropWhile (fun b => b == 48))) := by
  intro n
  induction n with
  | zero =>
    intro l hl _
    have e : l = [] := List.eq_nil_of_length_eq_zero hl
    subst e
    exact .step (fun k => strings_trimLeftByte_c1_eq k _ _) (.tt (by simp) (.tt (bor' fun w => by exact absurd (of_decide_eq_true w) (by decide)) (.ff rfl (.pure _))))
  | succ n ih =>
    intro l hl hn
    cases l with
    | nil => simp at hl
    | cons x t =>
      have hlt : t.length = n := by simpa using hl
      have hsz : ((B (x :: t)).size : Int) > 0 := by rw [size_B, List.length_cons]; omega
      have hb : bt (B (x :: t)) 0 = ((x.toNat : Nat) : Int) := by
        have := bt_B (l := x :: t) (i := 0) (by simp)
        simpa using this
      have e : (bt (B (x :: t)) 0 == 48) = (x == 48) := by
        rw [hb]
        cases h : (x == 48) with
        | true =>
          have : x = 48 := by simpa using h
          rw [this]; rfl
        | false =>
          have hne : x ≠ 48 := by simpa using h
          have : x.toNat ≠ 48 := fun z => hne (UInt8.toNat_inj.1 (by rw [z]; rfl))
          simp only [beq_eq_false_iff_ne, ne_eq]
          omega
      refine .step (fun k => strings_trimLeftByte_c1_eq k _ _) (.tt (by simp) (.tt (bor' fun _ => by simpa using hsz) ?_))
      rw [decide_eq_true hsz, e]
      cases h : (x == 48) with
      | true =>
        refine .tt rfl (.ck (by omega) ?_)
        have e2 : (B (x :: t)).extract 1 (B (x :: t)).size = B t := by
          rw [B_ext, size_B, List.take_of_length_le (Nat.le_refl _)]
          rfl
        rw [e2, List.dropWhile_cons, h, if_pos rfl]
        exact ih t hlt (by omega)
      | false =>
        rw [List.dropWhile_cons, h, if_neg (by decide)]
        exact .ff rfl (.pure _)
theorem ev_TrimLeft48 (l : List UInt8) (hn : l.length < 1125899906842624) (h0 : l ≠ []) : Ev (fun k => strings_TrimLeft k (B l) (bs [48])) (B (l.dropWhile (fun b => b == 48))) := by
  have hb : eqS (bs [48]) (bs []) = false := B_ne (l := [48]) (by simp)
  have s1 : (bs [48] : ByteArray).size = 1 := rfl
  have b1 : bt (bs [48]) 0 = 48 := by decide
  refine .step (fun k => strings_TrimLeft_eq k _ _) (.ff (by rw [B_ne h0, hb]; rfl) (.tt (by simp) (.tt (bor' fun _ => by rw [s1]; decide) (.tt (by rw [s1, b1]; rfl) (.tt (by rw [s1]; rfl) (.ret ?_ rfl))))))
  rw [b1]
  exact .step (fun k => strings_trimLeftByte_eq k _ _) (ev_TrimL48 _ l rfl hn)
structure NumV (b : Col) (d : Int × Int) : Prop where
  ok : okD d
  least : Ev (fun k => amount_Least k d) d
  nn : 0 ≤ d.1
  pl : d.2 ≤ b.2.2.2.1
  big : sc d b.2.2.2.1 ≤ 1000000000000000
theorem isV_num {b : Col} {d : Int × Int} (h : NumV b d) (h2 : b.2.1 = 2) : IsV b (B (txL d)) := ⟨fun _ => by
  rw [L_B, rtx_back h.ok]
  exact ⟨rfl, h.pl, h.least⟩, fun q => by omega, fun q => absurd h2 q⟩
theorem tx_ne {d : Int × Int} (h : okD d) : txL d ≠ [] := fun z => by
  have h1 := ptL_len d.1.natAbs d.2.toNat
  have h2 : (txL d).length = 0 := by rw [z]; rfl
  unfold txL befL at h2
  simp only [List.length_append, List.length_take] at h2
  omega
theorem ev_fieldNum (a : Fmt) (b : Col) (d : Int × Int) (hm : a.1 = 0) (hb : ColOk a.1 b) (h2 : b.2.1 = 2) (hr : b.2.2.2.2.2.1 = true) (hf : b.2.2.2.2.2.2.1 = 48) (hn : NumV b d) (hs : ((Lib.itoa (sc d b.2.2.2.1)).length : Int) ≤ b.2.2.1) :
    FieldOk a b (B (txL d)) (List.replicate (b.2.2.1.toNat - (Lib.itoa (sc d b.2.2.2.1)).length) 48 ++ Lib.itoa (sc d b.2.2.2.1)) := by
  have hw1 := hb.w1
  have hw2 := hb.w2
  have hpl := hb.pl h2
  have k2 : (b.2.1 == 2) = true := by rw [h2]; rfl
  have k3 : (b.2.1 == 3) = false := by rw [h2]; rfl
  have hne : eqS (B (txL d)) (bs []) = false := B_ne (tx_ne hn.ok)
  have hsm := txL_small hn.ok
  have hvs : (B (txL d)).size ≤ 140737488351232 := by rw [size_B]; exact hsm
  obtain ⟨w, w1, _, _, _, w5⟩ := ev_wrF a b hb (B (txL d)) hvs hne (isV_num hn h2)
  have hw := w5 h2 hm
  rw [L_B, rtx_back hn.ok] at hw
  subst hw
  have hu0 : 0 ≤ sc d b.2.2.2.1 := Int.mul_nonneg hn.nn (Int.pow_nonneg (by omega))
  obtain ⟨n, hnat⟩ : ∃ n : Nat, sc d b.2.2.2.1 = (n : Int) := ⟨(sc d b.2.2.2.1).toNat, by omega⟩
  have hit : Lib.itoa (sc d b.2.2.2.1) = Lib.decDigits n := by rw [hnat, itoa_nat]
  obtain ⟨hdg, hdv⟩ := dec_dig n
  have hall : ∀ x ∈ Lib.decDigits n, dgB x = true := fun x hx => by
    unfold digB at hdg
    simp only [Bool.and_eq_true] at hdg
    exact List.all_eq_true.1 hdg.2 x hx
  have hdne : Lib.decDigits n ≠ [] := fun z => by rw [z] at hdg; exact absurd hdg (by decide)
  have hbig := hn.big
  rw [hit] at w1 hs ⊢
  generalize hZ : b.2.2.1.toNat - (Lib.decDigits n).length = z at *
  have hz100 : z ≤ 100 := by omega
  have hdpos : 0 < (Lib.decDigits n).length := List.length_pos_iff.2 hdne
  have hwl : (List.replicate z 48 ++ Lib.decDigits n).length = b.2.2.1.toNat := by rw [List.length_append, List.length_replicate]; omega
  have hwne : (List.replicate z 48 ++ Lib.decDigits n : List UInt8) ≠ [] := fun q => hdne (List.append_eq_nil_iff.1 q).2
  have hwdg : ∀ x ∈ (List.replicate z 48 ++ Lib.decDigits n : List UInt8), dgB x = true := fun x hx => by
    rcases List.mem_append.1 hx with h | h
    · rw [List.eq_of_mem_replicate h]; rfl
    · exact hall x h
  have hrep : Ev (fun k => strings_Repeat k (Utf8.encode b.2.2.2.2.2.2.1) (maxI 0 (wi64 (b.2.2.1 - ((B (Lib.decDigits n)).size : Int))))) (B (List.replicate z 48)) := by
    rw [hf, enc_one (by omega) (by omega), (padW hw1 hw2 (by rw [size_B]; exact hs)).2, size_B, hZ]
    exact ev_RepC 48 _ (by omega)
  have hhead : decide ((L (B (Lib.decDigits n))).head? = some 45) = false := by
    rw [L_B]
    refine decide_eq_false fun q => ?_
    have := hall 45 (List.mem_of_mem_head? q)
    exact absurd this (by decide)
  have hfill : Ev (fun k => flat_filled k a b (B (txL d))) (B (List.replicate z 48 ++ Lib.decDigits n)) := by
    refine .step (fun k => flat_filled_eq k _ _ _) (.bind w1 (.ff hne (.bind (.tt (by rw [hr, hf]; rfl) (ev_HasPre45 _)) (.ff ?_ (.tt hr (.bind hrep (.ck ?_ (.to (.pure _) ?_))))))))
    · rw [hhead, hr, hf]; rfl
    · rw [size_B, size_B, List.length_replicate]; omega
    · rw [← B_app]
  have hT : Ev (fun k => strings_Trim k (B (List.replicate z 48 ++ Lib.decDigits n)) (bs [32])) (B (List.replicate z 48 ++ Lib.decDigits n)) := by
    have h := ev_Trim32 (B (List.replicate z 48 ++ Lib.decDigits n)) (by rw [size_B]; omega)
    rw [L_B, trim_no fun x hx q => by have := hwdg x hx; rw [q] at this; exact absurd this (by decide)] at h
    exact h
  have hcp : cutP (List.replicate z 48 ++ Lib.decDigits n) = (List.replicate z 48 ++ Lib.decDigits n, false) := by
    unfold cutP
    rw [if_neg fun q => ?_]
    have := hwdg 45 (List.mem_of_mem_head? q)
    exact absurd this (by decide)
  have hCP : Ev (fun k => strings_CutPrefix k (B (List.replicate z 48 ++ Lib.decDigits n)) (bs [45])) (B (List.replicate z 48 ++ Lib.decDigits n), false) := by
    have h := ev_CutPre (B (List.replicate z 48 ++ Lib.decDigits n))
    rw [L_B, hcp] at h
    exact h
  have hTL := ev_TrimLeft48 (List.replicate z 48 ++ Lib.decDigits n) (by omega) hwne
  rw [List.dropWhile_append_of_pos (fun x hx => by rw [List.eq_of_mem_replicate hx]; rfl)] at hTL
  -- the value
  have hval : Ev (fun k => flat_valueOf k a b (B (Lib.decDigits n))) (B (txL d), true) := by
    have hl16 : (Lib.decDigits n).length ≤ 16 := by
      have := itoa_len (n := (n : Int)) (k := 16) (by omega) (by decide) (by omega)
      rw [itoa_nat] at this
      exact this
    have hcp2 : cutP (Lib.decDigits n) = (Lib.decDigits n, false) := by
      unfold cutP
      rw [if_neg fun q => ?_]
      have := hall 45 (List.mem_of_mem_head? q)
      exact absurd this (by decide)
    have hri := ev_aReadImp (Lib.decDigits n) b.2.2.2.1 (by omega)
    have hrv : rix (Lib.decDigits n) b.2.2.2.1 = ((sc d b.2.2.2.1, b.2.2.2.1), 0) := by
      unfold rix
      rw [if_neg (by omega), hcp2]
      simp only
      rw [if_neg (by rw [hdg]; simp; omega), hdv, if_pos (by omega), hnat]
      simp
    rw [hrv] at hri
    have hle : Ev (fun k => amount_Least k (sc d b.2.2.2.1, b.2.2.2.1)) d := by
      have hj : d.2 + (((b.2.2.2.1 - d.2).toNat : Nat) : Int) = b.2.2.2.1 := by have := hn.pl; omega
      have h := ev_leastSc hn.ok hn.least hn.nn (b.2.2.2.1 - d.2).toNat (by unfold sc at hbig; omega) (by omega)
      rw [hj] at h
      exact .step (fun k => amount_Least_eq k _) h
    obtain ⟨t, t1, t2⟩ := ev_isVal b (B (txL d)) hvs hne
    have htt : t = true := t2.2 (isV_num hn h2)
    have hmm : (a.1 == 0) = true := by rw [hm]; rfl
    exact .step (fun k => flat_valueOf_eq k _ _ _) (.ff (B_ne hdne) (.tt (by rw [k2, hmm]; rfl) (.bind hri (.ff rfl (.bind hle (.bind (ev_told2 hn.ok) (.bind t1 (.to (.pure _) (by rw [htt])))))))))
  refine ⟨hfill, by omega, ?_, fun hmem => ?_⟩
  · refine .step (fun k => flat_fromFilled_eq k _ _ _) (.bind hT (.tt ?_ (.bind hCP (.bind hTL ?_))))
    · rw [k2, hf, B_ne hwne]; rfl
    · by_cases h0 : n = 0
      · have e0 : Lib.decDigits n = [48] := by rw [h0, Lib.decDigits_one (by decide)]; rfl
        have e : (Lib.decDigits n).dropWhile (fun b => b == 48) = [] := by rw [e0]; rfl
        have e2 : bs [48] = B (Lib.decDigits n) := by rw [e0]; rfl
        rw [e]
        refine .tt (eqS_self (bs [])) (.ff rfl ?_)
        rw [e2]
        refine .bind hval (.bind (.tt rfl hfill) (.to (.pure _) ?_))
        show (B (txL d), cond true (eqS _ _) false) = _
        rw [eqS_self]
        rfl
      · have e : (Lib.decDigits n).dropWhile (fun b => b == 48) = Lib.decDigits n := dropW_id fun x hx => by
          have := dec_head n (by omega)
          rw [hx] at this
          simpa using this
        rw [e]
        refine .ff (B_ne hdne) (.ff rfl (.bind hval (.bind (.tt rfl hfill) (.to (.pure _) ?_))))
        show (B (txL d), cond true (eqS _ _) false) = _
        rw [eqS_self]
        rfl
  · have := hwdg 10 hmem
    exact absurd this (by decide)
end Go.Proofs.YtgoepklennckmaaGreatDoor.Eq
namespace Go.Proofs.YtgoepklennckmaaGreatDoor.Eq
open Go Go.Ra
set_option linter.unusedVariables false
structure FldsOk (a : Fmt) (cs : List Col) (vs : List ByteArray) (ws : List (List UInt8)) : Prop where
  n : cs.length ≤ 50
  lv : vs.length = cs.length
  lw : ws.length = cs.length
  col : ∀ b ∈ cs, 1 ≤ b.2.2.1 ∧ b.2.2.1 ≤ 100
  fld : ∀ i (hi : i < cs.length) (hv : i < vs.length) (hw : i < ws.length), FieldOk a cs[i] vs[i] ws[i]
theorem flat_drop {ws : List (List UInt8)} {i : Nat} (hi : i < ws.length) : (ws.drop i).flatten = ws[i] ++ (ws.drop (i + 1)).flatten := by
  rw [List.drop_eq_getElem_cons hi, List.flatten_cons]
theorem FldsOk.wl {a : Fmt} {cs : List Col} {vs : List ByteArray} {ws : List (List UInt8)} (h : FldsOk a cs vs ws) (i : Nat) (hi : i < cs.length) : (ws[i]'(by rw [h.lw]; exact hi)).length ≤ 100 ∧ ((ws[i]'(by rw [h.lw]; exact hi)).length : Int) = (cs[i]).2.2.1 := by
  have h1 := (h.fld i hi (by rw [h.lv]; exact hi) (by rw [h.lw]; exact hi)).len
  have h2 := h.col _ (List.getElem_mem hi)
  exact ⟨by omega, h1⟩
theorem ev_lineOf0 (a : Fmt) (b : Row) (i : Nat) (ha : FitF a) (hm : a.1 = 0) (hi : i < a.2.2.1.length) (hk : kOf a.2.2.1 b.1 = i) (ws : List (List UInt8)) (h : FldsOk a (a.2.2.1[i]).2.1 b.2 ws) (ht : b.1.size ≤ 6) :
    Ev (fun k => flat_lineOf k a b) (B (L b.1 ++ ws.flatten)) := by
  have hcl := h.n
  have hA : Ev (fun k => flat_kindAt k a b.1) (a.2.2.1[i], true) := (ev_kindAt a _ ha.n).to (kAt_at hi hk)
  have key : ∀ (m j : Nat) (s : List UInt8), (a.2.2.1[i]).2.1.length - j = m → j ≤ (a.2.2.1[i]).2.1.length → s.length ≤ 6 + 600 * j →
      Ev (fun k => flat_lineOf_c5 k a b (B s) (a.2.2.1[i]).2.1 ((a.2.2.1[i]).2.1.length : Int) (j : Int)) (B (s ++ (ws.drop j).flatten)) := by
    intro m
    induction m with
    | zero =>
      intro j s hj1 hj2 hs
      have e : ws.drop j = [] := List.drop_eq_nil_of_le (by rw [h.lw]; omega)
      rw [e, List.flatten_nil, List.append_nil]
      exact .step (fun k => flat_lineOf_c5_eq k _ _ _ _ _ _) (.nk (by omega) (.pure _))
    | succ m ih =>
      intro j s hj1 hj2 hs
      have hj3 : j < (a.2.2.1[i]).2.1.length := by omega
      have hj4 : j < b.2.length := by rw [h.lv]; exact hj3
      have hj5 : j < ws.length := by rw [h.lw]; exact hj3
      have hf := h.fld j hj3 hj4 hj5
      have hwl := (h.wl j hj3).1
      have wj : wi64 ((j : Int) + 1) = ((j + 1 : Nat) : Int) := by rw [wi64_id (by omega) (by omega)]; omega
      have y1 := ih (j + 1) (s ++ ws[j]) (by omega) (by omega) (by rw [List.length_append]; omega)
      rw [List.append_assoc, ← flat_drop hj5] at y1
      refine .step (fun k => flat_lineOf_c5_eq k _ _ _ _ _ _) (.ck (by omega) (.ck (by omega) (.ck (by omega) (.tt (by rw [hm]; rfl) (.ck (by omega) (.ck (by omega) ?_))))))
      rw [getD_at hj3, getD_at hj4, wj, col_eta]
      refine .bind hf.fill (.ck (by rw [size_B, size_B]; omega) ?_)
      rw [B_app]
      exact y1
  have y := key _ 0 (L b.1) rfl (Nat.zero_le _) (by rw [← size_L]; omega)
  rw [List.drop_zero, B_L] at y
  refine .step (fun k => flat_lineOf_eq k _ _) (.bind hA (.ck (by omega) ?_))
  rw [B_nil_app]
  exact y
abbrev rst (a : Fmt) (l : ByteArray) (p : Int) : Int × Int × List Knd × ByteArray × ByteArray × ByteArray × ByteArray × ByteArray × Int := (a.1, (a.2.1, (a.2.2.1, (a.2.2.2.1, (a.2.2.2.2.1, (a.2.2.2.2.2.1, (a.2.2.2.2.2.2, (l, p))))))))
theorem ev_fixed (a : Fmt) (b : Col) (p w q : List UInt8) (v : ByteArray) (hw : FieldOk a b v w) (h1 : 1 ≤ b.2.2.1 ∧ b.2.2.1 ≤ 100) (hn : p.length + q.length ≤ 1000000) :
    Ev (fun k => flat_reader_fixed k (a, (B (p ++ (w ++ q)), (p.length : Int))) b) (v, (true, (a, (B (p ++ (w ++ q)), ((p ++ w).length : Int))))) := by
  have hl := hw.len
  have e1 : wi64 (((B (p ++ (w ++ q))).size : Int) - (p.length : Int)) = (w.length + q.length : Nat) := by
    rw [size_B, List.length_append, List.length_append, wi64_id (by omega) (by omega)]; omega
  have e2 : wi64 ((p.length : Int) + b.2.2.1) = ((p ++ w).length : Int) := by
    rw [List.length_append, wi64_id (by omega) (by omega)]; omega
  refine .step (fun k => flat_reader_fixed_eq k _ _) (.nk ?_ (.ck (by show (0 : Int) ≤ (p.length : Int); omega) (.ck ?_ (.ck ?_ ?_))))
  · show ¬ (wi64 (((B (p ++ (w ++ q))).size : Int) - (p.length : Int)) < b.2.2.1)
    rw [e1]; omega
  · show (p.length : Int) ≤ wi64 ((p.length : Int) + b.2.2.1)
    rw [e2, List.length_append]; omega
  · show wi64 ((p.length : Int) + b.2.2.1) ≤ ((B (p ++ (w ++ q))).size : Int)
    rw [e2, size_B, List.length_append, List.length_append, List.length_append]; omega
  · show Ev (fun k => (flat_fromFilled k a b ((B (p ++ (w ++ q))).extract (p.length : Int).toNat (wi64 ((p.length : Int) + b.2.2.1)).toNat)).bind fun y0 => some (y0.1, (y0.2, (a, (B (p ++ (w ++ q)), wi64 ((p.length : Int) + b.2.2.1)))))) _
    rw [e2]
    have e3 : (B (p ++ (w ++ q))).extract (p.length : Int).toNat ((p ++ w).length : Int).toNat = B w := by
      rw [B_ext, Int.toNat_natCast, Int.toNat_natCast, ← List.append_assoc, List.take_left, List.drop_left]
    rw [e3]
    exact .bind hw.back (.pure _)
theorem ev_readLine0 (a : Fmt) (b : Row) (i : Nat) (ha : FitF a) (hm : a.1 = 0) (hi : i < a.2.2.1.length) (hk : kOf a.2.2.1 b.1 = i) (ws : List (List UInt8)) (h : FldsOk a (a.2.2.1[i]).2.1 b.2 ws) (ht : b.1.size ≤ 6)
    (ht0 : (a.2.2.1.getD 0 knd0).1.size = b.1.size) (hc : ∃ y : Int × Int, Ev (fun k => flat_checkRow k a b) y ∧ y.2 = 0) (hl : ws.flatten.length ≤ 5000) :
    Ev (fun k => flat_readLine k a (B (L b.1 ++ ws.flatten))) (b, (0, 0)) := by
  have hcl := h.n
  obtain ⟨y, y1, y2⟩ := hc
  have hA : Ev (fun k => flat_kindAt k a b.1) (a.2.2.1[i], true) := (ev_kindAt a _ ha.n).to (kAt_at hi hk)
  have htg : (a.2.2.1[i]).1 = b.1 := by
    obtain ⟨h1, hp, _⟩ := ixI_at hk
    exact (eqS_iff _ _).1 hp
  have hsz : (B (L b.1 ++ ws.flatten)).size = b.1.size + ws.flatten.length := by rw [size_B, List.length_append, ← size_L]
  have emin : minI ((a.2.2.1.getD 0 knd0).1.size : Int) ((B (L b.1 ++ ws.flatten)).size : Int) = ((L b.1).length : Int) := by
    rw [ht0, hsz, ← size_L]
    unfold minI
    split <;> omega
  have hT : Ev (fun k => flat_reader_tag k (a, (B (L b.1 ++ ws.flatten), 0))) (a.2.2.1[i], (true, (a, (B (L b.1 ++ ws.flatten), ((L b.1).length : Int))))) := by
    refine .step (fun k => flat_reader_tag_eq k _) (.tt (by show (a.1 == 0) = true; rw [hm]; rfl) (.ck (by show 0 < (a.2.2.1.length : Int); omega) (.ck ?_ (.ck ?_ ?_))))
    · show 0 ≤ minI ((a.2.2.1.getD 0 knd0).1.size : Int) ((B (L b.1 ++ ws.flatten)).size : Int)
      rw [emin]; omega
    · show minI ((a.2.2.1.getD 0 knd0).1.size : Int) ((B (L b.1 ++ ws.flatten)).size : Int) ≤ ((B (L b.1 ++ ws.flatten)).size : Int)
      rw [emin, size_B, List.length_append]; omega
    · show Ev (fun k => (flat_kindAt k a ((B (L b.1 ++ ws.flatten)).extract 0 (minI ((a.2.2.1.getD 0 knd0).1.size : Int) ((B (L b.1 ++ ws.flatten)).size : Int)).toNat)).bind fun y0 => some (y0.1, (y0.2, (a, (B (L b.1 ++ ws.flatten), minI ((a.2.2.1.getD 0 knd0).1.size : Int) ((B (L b.1 ++ ws.flatten)).size : Int)))))) _
      rw [emin]
      have e : (B (L b.1 ++ ws.flatten)).extract 0 ((L b.1).length : Int).toNat = b.1 := by
        rw [B_ext, Int.toNat_natCast, List.take_left, List.drop_zero, B_L]
      rw [e]
      exact .bind hA (.pure _)
  have key : ∀ (m j : Nat) (p : List UInt8), (a.2.2.1[i]).2.1.length - j = m → j ≤ (a.2.2.1[i]).2.1.length → p ++ (ws.drop j).flatten = L b.1 ++ ws.flatten →
      Ev (fun k => flat_readLine_c9 k (B (L b.1 ++ ws.flatten)) a ((bs []), []) (a.2.2.1[i]) ((a.2.2.1[i]).1, b.2.take j) (rst a (B (L b.1 ++ ws.flatten)) (p.length : Int)) (a.2.2.1[i]).2.1 ((a.2.2.1[i]).2.1.length : Int) (j : Int)) (b, (0, 0)) := by
    intro m
    induction m with
    | zero =>
      intro j p hj1 hj2 hp
      have e : ws.drop j = [] := List.drop_eq_nil_of_le (by rw [h.lw]; omega)
      rw [e, List.flatten_nil, List.append_nil] at hp
      have e2 : ((a.2.2.1[i]).1, b.2.take j) = b := by rw [htg, List.take_of_length_le (by rw [h.lv]; omega)]
      rw [e2]
      refine .step (fun k => flat_readLine_c9_eq k _ _ _ _ _ _ _ _ _) (.nk (by omega) (.nk ?_ (.bind y1 (.ff (by rw [y2]; rfl) (.pure _)))))
      show ¬ ((p.length : Int) < ((B (L b.1 ++ ws.flatten)).size : Int))
      rw [hp, size_B]; omega
    | succ m ih =>
      intro j p hj1 hj2 hp
      have hj3 : j < (a.2.2.1[i]).2.1.length := by omega
      have hj4 : j < b.2.length := by rw [h.lv]; exact hj3
      have hj5 : j < ws.length := by rw [h.lw]; exact hj3
      have hf := h.fld j hj3 hj4 hj5
      have hcol := h.col _ (List.getElem_mem hj3)
      have wj : wi64 ((j : Int) + 1) = ((j + 1 : Nat) : Int) := by rw [wi64_id (by omega) (by omega)]; omega
      rw [flat_drop hj5] at hp
      have hlen := congrArg List.length hp
      simp only [List.length_append] at hlen
      have hb6 : (L b.1).length ≤ 6 := by rw [← size_L]; exact ht
      have hF := ev_fixed a ((a.2.2.1[i]).2.1[j]) p ws[j] (ws.drop (j + 1)).flatten b.2[j] hf hcol (by omega)
      rw [hp] at hF
      have z := ih (j + 1) (p ++ ws[j]) (by omega) (by omega) (by rw [List.append_assoc]; exact hp)
      refine .step (fun k => flat_readLine_c9_eq k _ _ _ _ _ _ _ _ _) (.ck (by omega) (.ck (by omega) (.ck (by omega) (.tt (by rw [hm]; rfl) ?_))))
      rw [getD_at hj3, col_eta, wj]
      refine .bind hF (.ff rfl (.ck ?_ ?_))
      · show (b.2.take j).length + 1 < 8796093022208
        rw [List.length_take]; omega
      · rw [← List.take_append_getElem hj4] at z
        exact z
  have z := key _ 0 (L b.1) rfl (Nat.zero_le _) (by rw [List.drop_zero])
  rw [List.take_zero] at z
  refine .step (fun k => flat_readLine_eq k _ _) (.nk (by rw [hsz]; omega) (.bind hT (.ff rfl ?_)))
  exact z
end Go.Proofs.YtgoepklennckmaaGreatDoor.Eq
namespace Go.Proofs.YtgoepklennckmaaGreatDoor.Eq
open Go Go.Ra
set_option linter.unusedVariables false
structure LineOk (a : Fmt) (r : Row) (w : List UInt8) : Prop where
  chk : ∃ y : Int × Int, Ev (fun k => flat_checkRow k a r) y ∧ y.2 = 0
  wr : Ev (fun k => flat_lineOf k a r) (B w)
  rd : Ev (fun k => flat_readLine k a (B w)) (r, (0, 0))
  no10 : (10 : UInt8) ∉ w
  len : w.length ≤ 900
def fileL (f : Row → List UInt8) (l : List Row) : List UInt8 := l.flatMap fun r => f r ++ [10]
theorem fileL_cons (f : Row → List UInt8) (r : Row) (l : List Row) : fileL f (r :: l) = f r ++ 10 :: fileL f l := by
  unfold fileL
  rw [List.flatMap_cons, List.append_assoc]
  rfl
theorem fileL_ne (f : Row → List UInt8) (r : Row) (l : List Row) : fileL f (r :: l) ≠ [] := fun h => by
  rw [fileL_cons] at h
  have := congrArg List.length h
  simp at this
theorem ev_Write0 (a : Fmt) (f : Row → List UInt8) (l : List Row) (hf : Ev (fun k => flat_CheckFormat k a) 0) (hn : l.length ≤ 2000) (hl : ∀ r ∈ l, LineOk a r (f r)) (hs : (fileL f l).length ≤ 500000) :
    Ev (fun k => flat_Write k a l) (B (fileL f l), (0, (0, 0))) := by
  have key : ∀ (m j : Nat) (s : List UInt8), l.length - j = m → j ≤ l.length → s ++ fileL f (l.drop j) = fileL f l →
      Ev (fun k => flat_Write_c8 k a (B s) l (l.length : Int) (j : Int)) (B (fileL f l), (0, (0, 0))) := by
    intro m
    induction m with
    | zero =>
      intro j s hj1 hj2 hs1
      have e : l.drop j = [] := List.drop_eq_nil_of_le (by omega)
      rw [e] at hs1
      have e2 : s = fileL f l := by rw [← hs1]; unfold fileL; simp
      rw [e2]
      exact .step (fun k => flat_Write_c8_eq k _ _ _ _ _) (.nk (by omega) (.nk (by rw [size_B]; omega) (.pure _)))
    | succ m ih =>
      intro j s hj1 hj2 hs1
      have hj3 : j < l.length := by omega
      obtain ⟨⟨y, y1, y2⟩, hw, _, _, hlen⟩ := hl _ (List.getElem_mem hj3)
      have wj : wi64 ((j : Int) + 1) = ((j + 1 : Nat) : Int) := by rw [wi64_id (by omega) (by omega)]; omega
      rw [List.drop_eq_getElem_cons hj3, fileL_cons] at hs1
      have hL := congrArg List.length hs1
      simp only [List.length_append, List.length_cons] at hL
      have z := ih (j + 1) (s ++ (f l[j] ++ [10])) (by omega) (by omega) (by rw [← hs1]; simp)
      refine .step (fun k => flat_Write_c8_eq k _ _ _ _ _) (.ck (by omega) (.ck (by omega) (.ck (by omega) ?_)))
      rw [getD_at hj3, wj]
      refine .bind y1 (.ff (by rw [y2]; rfl) (.ck (by rw [size_B]; omega) (.bind hw (.ck (by rw [size_B]; omega) (.ck ?_ ?_)))))
      · rw [show bs [10] = B [10] from rfl, B_app, size_B, size_B, List.length_append]
        simp only [List.length_cons, List.length_nil]
        omega
      · rw [show bs [10] = B [10] from rfl, B_app, B_app]
        exact z
  refine .step (fun k => flat_Write_eq k _ _) (.bind hf (.ff rfl (.nk (by omega) ?_)))
  exact key _ 0 [] rfl (Nat.zero_le _) (by rw [List.drop_zero, List.nil_append])
theorem ev_Read0 (a : Fmt) (f : Row → List UInt8) (l : List Row) (hf : Ev (fun k => flat_CheckFormat k a) 0) (hn : l.length ≤ 2000) (hl : ∀ r ∈ l, LineOk a r (f r)) (hs : (fileL f l).length ≤ 500000) :
    Ev (fun k => flat_Read k a (B (fileL f l))) (l, (0, (0, 0))) := by
  have key : ∀ (m : Nat) (rest done : List Row), rest.length = m → done ++ rest = l → Ev (fun k => flat_Read_c7 k (B (fileL f rest)) a done) (l, (0, (0, 0))) := by
    intro m
    induction m with
    | zero =>
      intro rest done hm hd
      have e : rest = [] := List.eq_nil_of_length_eq_zero hm
      subst e
      rw [List.append_nil] at hd
      subst hd
      exact .step (fun k => flat_Read_c7_eq k _ _ _) (.ff (by rw [show B (fileL f []) = bs [] from rfl, eqS_self]; rfl) (.pure _))
    | succ m ih =>
      intro rest done hm hd
      cases rest with
      | nil => simp at hm
      | cons r t =>
        have hmem : r ∈ l := by rw [← hd]; simp
        obtain ⟨_, _, hr, h10, hlen⟩ := hl _ hmem
        have hdl : done.length < 2000 := by have := congrArg List.length hd; simp only [List.length_append, List.length_cons] at this; omega
        have hsz : (fileL f (r :: t)).length ≤ (fileL f l).length := by
          rw [← hd]; unfold fileL; rw [List.flatMap_append, List.length_append]; omega
        have hcut := ev_Cut (B (fileL f (r :: t))) 10 (by rw [size_B]; omega)
        rw [L_B, fileL_cons, cutB_app h10] at hcut
        rw [fileL_cons]
        refine .step (fun k => flat_Read_c7_eq k _ _ _) (.tt ?_ (.bind hcut (.ff ?_ (.ff rfl (.bind hr (.ff rfl (.ck (by omega) ?_)))))))
        · rw [← fileL_cons, B_ne (fileL_ne f r t)]; rfl
        · simp only [beq_eq_false_iff_ne, ne_eq]; omega
        · exact ih t (done ++ [r]) (by simpa using hm) (by rw [← hd]; simp)
  refine .step (fun k => flat_Read_eq k _ _) (.bind hf (.ff rfl (.nk (by rw [size_B]; omega) ?_)))
  exact key _ l [] rfl (List.nil_append _)
end Go.Proofs.YtgoepklennckmaaGreatDoor.Eq
namespace Go.Proofs.YtgoepklennckmaaGreatDoor.Eq
open Go Go.Ra
set_option linter.unusedVariables false
def UpF (a : Fmt) : Prop := ∀ i (hi : i < a.2.2.1.length), eB (a.2.2.1[i]).2.2.2 = true ∨ ∃ j : Nat, j < i ∧ kOf a.2.2.1 (a.2.2.1[i]).2.2.2 = (j : Int)
theorem fmt_up {a : Fmt} (h : fmtF a = 0) : UpF a := by
  unfold fmtF at h
  obtain ⟨_, h⟩ := cond0 (by decide) h
  obtain ⟨_, h⟩ := cond0 (by decide) h
  obtain ⟨_, h⟩ := cond0 (by decide) h
  obtain ⟨_, h⟩ := cond0 (by decide) h
  obtain ⟨h3, _⟩ := nz_zero h
  intro i hi
  have hk := h3 i (Nat.zero_le _) (by omega)
  rw [getD_nat hi] at hk
  unfold kndF at hk
  obtain ⟨_, hk⟩ := cond0 (by decide) hk
  obtain ⟨_, hk⟩ := cond0 (by decide) hk
  obtain ⟨_, hk⟩ := cond0 (by decide) hk
  obtain ⟨_, hk⟩ := cond0 (by decide) hk
  obtain ⟨_, hk⟩ := nz_zero hk
  unfold kndT at hk
  obtain ⟨_, hk⟩ := cond0 (by decide) hk
  obtain ⟨hk, _⟩ := cond0 (by decide) hk
  cases he : eB (a.2.2.1[i]).2.2.2 with
  | true => exact .inl rfl
  | false =>
    unfold eB at he
    rw [he] at hk
    simp only [Bool.not_false, Bool.true_and, Bool.or_eq_false_iff, decide_eq_false_iff_not] at hk
    exact .inr ⟨(kOf a.2.2.1 (a.2.2.1[i]).2.2.2).toNat, by omega, by omega⟩
def undB (a : Fmt) (top : ByteArray) : Nat → ByteArray → Bool
  | 0, _ => false
  | f + 1, tag => cond (eqS (kAt a.2.2.1 tag).1.2.2.2 (bs [])) false (cond (eqS (kAt a.2.2.1 tag).1.2.2.2 top) true (undB a top f (kAt a.2.2.1 tag).1.2.2.2))
def lastN (p : Row → Bool) (l : List Row) : Nat → Int
  | 0 => -1
  | m + 1 => if p (l.getD m row0) = true then (m : Int) else lastN p l m
theorem lastN_lt (p : Row → Bool) (l : List Row) : ∀ m, -1 ≤ lastN p l m ∧ lastN p l m < m
  | 0 => ⟨Int.le_refl _, (by decide : (-1 : Int) < 0)⟩
  | m + 1 => by
    have := lastN_lt p l m
    unfold lastN
    split <;> omega
def overN (p q : Row → Bool) (l : List Row) : Nat → Int
  | 0 => -1
  | m + 1 => if p (l.getD m row0) = true then (m : Int) else if q (l.getD m row0) = true then overN p q l m else -1
theorem overN_eq (p q : Row → Bool) (l : List Row) : ∀ m, (0 ≤ overN p q l m → overN p q l m = lastN p l m ∧ ∀ j : Nat, overN p q l m < j → j < m → q (l.getD j row0) = true) ∧ (overN p q l m < 0 → overN p q l m = -1 ∧ (0 ≤ lastN p l m → ∃ j : Nat, lastN p l m < j ∧ j < m ∧ q (l.getD j row0) = false))
  | 0 => ⟨fun z => by have w : (0 : Int) ≤ -1 := z; omega, fun _ => ⟨rfl, fun z => by have w : (0 : Int) ≤ -1 := z; omega⟩⟩
  | m + 1 => by
    have ih := overN_eq p q l m
    have hl := lastN_lt p l m
    unfold overN lastN
    split
    · exact ⟨fun _ => ⟨rfl, fun j h1 h2 => by omega⟩, fun z => by omega⟩
    · split
      · rename_i hq
        refine ⟨fun z => ⟨(ih.1 z).1, fun j h1 h2 => ?_⟩, fun z => ⟨(ih.2 z).1, fun w => ?_⟩⟩
        · by_cases hj : j = m
          · rw [hj]; exact hq
          · exact (ih.1 z).2 j h1 (by omega)
        · obtain ⟨j, h1, h2, h3⟩ := (ih.2 z).2 w
          exact ⟨j, h1, by omega, h3⟩
      · rename_i hq
        exact ⟨fun z => absurd z (by decide), fun _ => ⟨rfl, fun w => ⟨m, by omega, by omega, by simpa using hq⟩⟩⟩
theorem getD_row {l : List Row} {i : Nat} (h : i < l.length) : l.getD i row0 = l[i] := getD_nat h row0
end Go.Proofs.YtgoepklennckmaaGreatDoor.Eq
