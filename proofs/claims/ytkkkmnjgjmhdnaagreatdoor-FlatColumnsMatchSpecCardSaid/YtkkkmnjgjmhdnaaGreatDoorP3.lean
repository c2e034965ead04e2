/- What the functions of this law compute, part 3. -/
import Derived.Test.YtkkkmnjgjmhdnaaGreatDoorP2
namespace Go.Proofs.YtkkkmnjgjmhdnaaGreatDoor.Eq
open Go Go.Ra
set_option linter.unusedVariables false
/-- A format without a fault. -/
structure FmtOk (a : Fmt) : Prop where
  m12 : mk12 a.1 a.2.1 = false
  m3 : mk3 a.1 a.2.1 = false
  tag : ∀ kd ∈ a.2.2.1, kd.1.size ≤ 6
  tag1 : ∀ kd ∈ a.2.2.1, 1 ≤ kd.1.size
  len : ∀ kd ∈ a.2.2.1, kd.2.1.length ≤ 50
  col : ∀ kd ∈ a.2.2.1, ∀ b ∈ kd.2.1, ColOk a.1 b
theorem fmt_ok {a : Fmt} (h : fmtF a = 0) : FmtOk a := by
  unfold fmtF at h
  obtain ⟨h1, h⟩ := cond0 (by decide) h
  obtain ⟨h2, h⟩ := cond0 (by decide) h
  obtain ⟨_, h⟩ := cond0 (by decide) h
  obtain ⟨_, h⟩ := cond0 (by decide) h
  obtain ⟨h3, _⟩ := nz_zero h
  have key : ∀ kd ∈ a.2.2.1, (1 ≤ kd.1.size ∧ kd.1.size ≤ 6) ∧ kd.2.1.length ≤ 50 ∧ ∀ b ∈ kd.2.1, ColOk a.1 b := by
    intro kd hkd
    obtain ⟨i, hi, rfl⟩ := List.getElem_of_mem hkd
    have hk := h3 i (Nat.zero_le _) (by omega)
    rw [getD_nat hi] at hk
    generalize a.2.2.1[i] = kd at *
    unfold kndF at hk
    obtain ⟨k1, hk⟩ := cond0 (by decide) hk
    obtain ⟨_, hk⟩ := cond0 (by decide) hk
    obtain ⟨_, hk⟩ := cond0 (by decide) hk
    obtain ⟨k2, hk⟩ := cond0 (by decide) hk
    obtain ⟨k3, _⟩ := nz_zero hk
    have k1' := not_f k1
    unfold tagB at k1'
    rw [Bool.and_eq_true] at k1'
    have := inB_iff.1 k1'.1
    have k2' := of_decide_eq_false k2
    refine ⟨⟨by omega, by omega⟩, by omega, fun b hb => ?_⟩
    obtain ⟨j, hj, rfl⟩ := List.getElem_of_mem hb
    have := k3 j (Nat.zero_le _) (by omega)
    unfold colAt at this
    rw [getD_nat hj] at this
    exact colF_ok this
  exact ⟨h1, h2, fun kd h => (key kd h).1.2, fun kd h => (key kd h).1.1, fun kd h => (key kd h).2.1, fun kd h => (key kd h).2.2⟩
/-- What memory says of a row's sizes. -/
structure FitR (b : Row) : Prop where
  n : b.2.length < 1125899906842624
  s : ∀ c ∈ b.2, c.size ≤ 140737488351232
/-- What a checked row is. -/
def RowOk (a : Fmt) (b : Row) : Prop := ∃ i : Nat, ∃ hi : i < a.2.2.1.length, kOf a.2.2.1 b.1 = i ∧ b.2.length = (a.2.2.1[i]).2.1.length ∧ ∀ j (hj : j < b.2.length) (hj' : j < (a.2.2.1[i]).2.1.length), ValOk a ((a.2.2.1[i]).2.1[j]) (b.2[j])
theorem kAt_at {ks : List Knd} {t : ByteArray} {i : Nat} (hi : i < ks.length) (h : kOf ks t = i) : kAt ks t = (ks[i], true) := by
  unfold kAt
  rw [if_pos (by omega), h, getD_at hi]
theorem kAt_no {ks : List Knd} {t : ByteArray} (h : kOf ks t < 0) : kAt ks t = (knd0, false) := by
  unfold kAt
  rw [if_neg (by omega)]
theorem len_eq (n m : Nat) : ((n : Int) != (m : Int)) = decide (n ≠ m) := by
  by_cases h : n = m
  · subst h; simp
  · rw [decide_eq_true h]
    have : (n : Int) ≠ (m : Int) := by omega
    simpa using this
theorem ev_checkRow (a : Fmt) (b : Row) (ha : FitF a) (hok : FmtOk a) (hb : FitR b) :
    ∃ y : Int × Int, Ev (fun k => interchangeref6_checkRow k a b) y ∧ Ev (fun k => flat_checkRow k a b) y ∧ (y.2 = 0 → RowOk a b) := by
  have hl := ixI_lt (tagP b.1) a.2.2.1
  by_cases h0 : kOf a.2.2.1 b.1 < 0
  · refine ⟨(0, 9), .step (fun k => interchangeref6_checkRow_eq k _ _) (.bind (ev_rkindOf a _ ha.n) (.ck h0 (.pure _))), .step (fun k => flat_checkRow_eq k _ _) (.bind (ev_kindAt a _ ha.n) ?_), fun z => absurd z (by decide)⟩
    rw [kAt_no h0]
    exact .tt rfl (.pure _)
  · obtain ⟨i, hi, hk, _⟩ := ixI_get (show 0 ≤ ixI (tagP b.1) a.2.2.1 from Int.not_lt.1 h0)
    have hk' : kOf a.2.2.1 b.1 = (i : Int) := hk
    have hmem := List.getElem_mem hi
    have hcl := hok.len _ hmem
    have hcol := hok.col _ hmem
    have hR : Ev (fun k => interchangeref6_kindOf k a b.1) (i : Int) := (ev_rkindOf a _ ha.n).to hk'
    have hA : Ev (fun k => flat_kindAt k a b.1) (a.2.2.1[i], true) := (ev_kindAt a _ ha.n).to (kAt_at hi hk')
    by_cases hlen : b.2.length = (a.2.2.1[i]).2.1.length
    · have key : ∃ y : Int × Int, Ev (fun k => interchangeref6_checkRow_c7 k a (i : Int) b.2 (b.2.length : Int) 0) y ∧ Ev (fun k => flat_checkRow_c7 k a b (a.2.2.1[i]).2.1 ((a.2.2.1[i]).2.1.length : Int) 0) y ∧
          (y.2 = 0 → ∀ j, 0 ≤ j → ∀ (hj : j < b.2.length) (hj' : j < (a.2.2.1[i]).2.1.length), ValOk a ((a.2.2.1[i]).2.1[j]) (b.2[j])) := by
        refine ev_up2 b.2.length (fun (m : Nat) (y : Int × Int) => y.2 = 0 → ∀ j, m ≤ j → ∀ (hj : j < b.2.length) (hj' : j < (a.2.2.1[i]).2.1.length), ValOk a ((a.2.2.1[i]).2.1[j]) (b.2[j])) (fun k j => interchangeref6_checkRow_c7 k a (i : Int) b.2 (b.2.length : Int) j) (fun k j => flat_checkRow_c7 k a b (a.2.2.1[i]).2.1 ((a.2.2.1[i]).2.1.length : Int) j) (fun m hm h => ?_) ?_
        · obtain ⟨y, y1, y2, y3⟩ := h
          have hm' : m < (a.2.2.1[i]).2.1.length := by omega
          obtain ⟨f, f1, f2, f3⟩ := ev_value a ((a.2.2.1[i]).2.1[m]) (hcol _ (List.getElem_mem hm')) (b.2[m]) (hb.s _ (List.getElem_mem hm))
          refine ⟨cond (f != 0) ((m : Int), f) y, .step (fun k => interchangeref6_checkRow_c7_eq k _ _ _ _ _) (.ck (by omega) (.ck (by omega) (.ck (by omega) (.ck (by omega) (.ck (by omega) (.ck (by omega) ?_)))))), .step (fun k => flat_checkRow_c7_eq k _ _ _ _ _) (.ck (by omega) (.ck (by omega) (.ck (by omega) (.ck (by omega) (.ck (by omega) ?_))))), fun z j hj1 hj2 hj3 => ?_⟩
          · rw [getD_at hi, getD_at hm]
            refine .ck (by omega) ?_
            rw [getD_at hm', wj hm hb.n]
            exact f3 _ _ _ fun _ => y1
          · rw [getD_at hm, getD_at hm', wj hm hb.n, col_eta]
            exact .bind f1 (.sel rfl (fun _ => .pure _) fun _ => y2)
          · cases hf : (f != 0) with
            | true =>
              rw [hf] at z
              have z' : f = 0 := z
              rw [z'] at hf
              cases hf
            | false =>
              rw [hf] at z
              have hf0 : f = 0 := by simpa using hf
              by_cases e : j = m
              · subst e; exact f2 hf0
              · exact y3 z j (by omega) hj2 hj3
        · exact ⟨(0, 0), .step (fun k => interchangeref6_checkRow_c7_eq k _ _ _ _ _) (.nk (by omega) (.pure _)), .step (fun k => flat_checkRow_c7_eq k _ _ _ _ _) (.nk (by omega) (.pure _)), fun _ j hj1 hj2 => absurd hj2 (by omega)⟩
      obtain ⟨y, y1, y2, y3⟩ := key
      refine ⟨y, .step (fun k => interchangeref6_checkRow_eq k _ _) (.bind hR (.nk (by omega) (.ck (by omega) (.ck (by omega) ?_)))), .step (fun k => flat_checkRow_eq k _ _) (.bind hA (.ff rfl (.ff (by rw [len_eq]; exact decide_eq_false (fun z => z hlen)) y2))), fun z => ⟨i, hi, hk', hlen, fun j hj hj' => y3 z j (Nat.zero_le _) hj hj'⟩⟩
      rw [getD_at hi, len_eq, decide_eq_false (fun z => z hlen)]
      exact y1
    · refine ⟨(0, 3), .step (fun k => interchangeref6_checkRow_eq k _ _) (.bind hR (.nk (by omega) (.ck (by omega) (.ck (by omega) ?_)))), .step (fun k => flat_checkRow_eq k _ _) (.bind hA (.ff rfl (.tt (by rw [len_eq]; exact decide_eq_true hlen) (.pure _)))), fun z => absurd z (by decide)⟩
      rw [getD_at hi, len_eq, decide_eq_true hlen]
      exact .pure _
/-! ### lines -/
/-! ### marked lines -/
end Go.Proofs.YtkkkmnjgjmhdnaaGreatDoor.Eq
namespace Go.Proofs.YtkkkmnjgjmhdnaaGreatDoor.Eq
open Go Go.Ra
theorem awakeF_at (k : Nat) : interchangelaw6_awake (k + 64) = some true := by kernel_rfl
theorem ev_awakeF : Ev (fun k => interchangelaw6_awake k) true := .off (n := 64) awakeF_at
end Go.Proofs.YtkkkmnjgjmhdnaaGreatDoor.Eq
namespace Go.Proofs.YtkkkmnjgjmhdnaaGreatDoor.Eq
open Go Go.Ra
set_option linter.unusedVariables false
/-- What memory says of rows' sizes. -/
structure FitRs (l : List Row) : Prop where
  n : l.length < 1125899906842624
  r : ∀ r ∈ l, FitR r
theorem ev_checkRows (a : Fmt) (l : List Row) (ha : FitF a) (hok : FmtOk a) (hl : FitRs l) :
    ∃ y : Int × Int, Ev (fun k => interchangeref6_checkRows k a l) y ∧ Ev (fun k => flat_checkRows k a l) y ∧ (y.2 = 0 → ∀ r ∈ l, RowOk a r) := by
  have key : ∃ y : Int × Int, Ev (fun k => interchangeref6_checkRows_c2 k a l (l.length : Int) 0) y ∧ Ev (fun k => flat_checkRows_c2 k a l (l.length : Int) 0) y ∧ (y.2 = 0 → ∀ j, 0 ≤ j → ∀ hj : j < l.length, RowOk a l[j]) := by
    refine ev_up2 l.length (fun (m : Nat) (y : Int × Int) => y.2 = 0 → ∀ j, m ≤ j → ∀ hj : j < l.length, RowOk a l[j]) (fun k j => interchangeref6_checkRows_c2 k a l (l.length : Int) j) (fun k j => flat_checkRows_c2 k a l (l.length : Int) j) (fun m hm h => ?_) ?_
    · obtain ⟨y, y1, y2, y3⟩ := h
      obtain ⟨f, f1, f2, f3⟩ := ev_checkRow a l[m] ha hok (hl.r _ (List.getElem_mem hm))
      refine ⟨cond (f.2 != 0) ((m : Int), f.2) y, .step (fun k => interchangeref6_checkRows_c2_eq k _ _ _ _) (.ck (by omega) (.ck (by omega) (.ck (by omega) ?_))), .step (fun k => flat_checkRows_c2_eq k _ _ _ _) (.ck (by omega) (.ck (by omega) (.ck (by omega) ?_))), fun z j hj1 hj2 => ?_⟩
      · rw [getD_at hm, wj hm hl.n]
        exact .bind f1 (.sel rfl (fun _ => .pure _) fun _ => y1)
      · rw [getD_at hm, wj hm hl.n]
        exact .bind f2 (.sel rfl (fun _ => .pure _) fun _ => y2)
      · cases hf : (f.2 != 0) with
        | true =>
          rw [hf] at z
          have z' : f.2 = 0 := z
          rw [z'] at hf
          cases hf
        | false =>
          rw [hf] at z
          have hf0 : f.2 = 0 := by simpa using hf
          by_cases e : j = m
          · subst e; exact f3 hf0
          · exact y3 z j (by omega) hj2
    · exact ⟨(0, 0), .step (fun k => interchangeref6_checkRows_c2_eq k _ _ _ _) (.nk (by omega) (.pure _)), .step (fun k => flat_checkRows_c2_eq k _ _ _ _) (.nk (by omega) (.pure _)), fun _ j hj1 hj2 => absurd hj2 (by omega)⟩
  obtain ⟨y, y1, y2, y3⟩ := key
  refine ⟨y, .step (fun k => interchangeref6_checkRows_eq k _ _) y1, .step (fun k => flat_checkRows_eq k _ _) y2, fun z r hr => ?_⟩
  obtain ⟨j, hj, rfl⟩ := List.getElem_of_mem hr
  exact y3 z j (Nat.zero_le _) hj
/-- Rows are asked for: both find the same fault, or none. -/
theorem ev_ask (a : Fmt) (l : List Row) (ha : FitF a) (hl : FitRs l) : ∃ y : Int, Ev (fun k => interchangeref6_askRows k a l) y ∧ Ev (fun k => flat_rowsFault k a l) y ∧ (y = 0 → FmtOk a ∧ l.length ≤ 2000 ∧ ∀ r ∈ l, RowOk a r) := by
  cases hf : (fmtF a != 0) with
  | true =>
    refine ⟨fmtF a, .step (fun k => interchangeref6_askRows_eq k _ _) (.bind (ev_rCheckFormat a ha) (.tt hf (.pure _))), .step (fun k => flat_rowsFault_eq k _ _) (.bind (ev_CheckFormat a ha) (.tt hf (.pure _))), fun z => ?_⟩
    rw [z] at hf
    cases hf
  | false =>
    have h0 : fmtF a = 0 := by simpa using hf
    by_cases hn : (l.length : Int) > 2000
    · exact ⟨2, .step (fun k => interchangeref6_askRows_eq k _ _) (.bind (ev_rCheckFormat a ha) (.ff hf (.ck hn (.pure _)))), .step (fun k => flat_rowsFault_eq k _ _) (.bind (ev_CheckFormat a ha) (.ff hf (.ck hn (.pure _)))), fun z => absurd z (by decide)⟩
    · obtain ⟨y, y1, y2, y3⟩ := ev_checkRows a l ha (fmt_ok h0) hl
      exact ⟨y.2, .step (fun k => interchangeref6_askRows_eq k _ _) (.bind (ev_rCheckFormat a ha) (.ff hf (.nk hn (.bind y1 (.pure _))))), .step (fun k => flat_rowsFault_eq k _ _) (.bind (ev_CheckFormat a ha) (.ff hf (.nk hn (.bind y2 (.pure _))))), fun z => ⟨fmt_ok h0, by omega, y3 z⟩⟩
/-! ### a column -/
/-- The values of a column. -/
def valsL (c : ByteArray) (j : Nat) : List Row → List ByteArray
  | [] => []
  | r :: l => if eqS r.1 c = true then r.2.getD j (bs []) :: valsL c j l else valsL c j l
theorem valsL_len (c : ByteArray) (j : Nat) : ∀ l : List Row, (valsL c j l).length ≤ l.length
  | [] => Nat.le_refl _
  | r :: l => by
    have := valsL_len c j l
    unfold valsL
    split
    · simp only [List.length_cons]; omega
    · simp only [List.length_cons]; omega
theorem dropR {l : List Row} {i : Nat} (hi : i < l.length) : l.drop i = l[i] :: l.drop (i + 1) := List.drop_eq_getElem_cons hi
/-- Where a column stands. -/
structure At (a : Fmt) (c d : ByteArray) (i j : Nat) : Prop where
  hi : i < a.2.2.1.length
  hk : kOf a.2.2.1 c = (i : Int)
  hj : j < (a.2.2.1[i]).2.1.length
  hc : cOf (a.2.2.1[i]).2.1 d = (j : Int)
theorem row_at {a : Fmt} {c : ByteArray} {i j : Nat} {r : Row} (hi : i < a.2.2.1.length) (hk : kOf a.2.2.1 c = (i : Int)) (hj : j < (a.2.2.1[i]).2.1.length) (hr : RowOk a r) (he : eqS r.1 c = true) : ∃ h : j < r.2.length, ValOk a ((a.2.2.1[i]).2.1[j]) (r.2[j]) := by
  have e : r.1 = c := (eqS_iff _ _).1 he
  obtain ⟨i', hi', hk', hlen, hv⟩ := hr
  rw [e, hk] at hk'
  have : i' = i := by omega
  subst this
  exact ⟨by omega, hv j (by omega) hj⟩
theorem ev_rColLoop (a : Fmt) (l : List Row) (c d : ByteArray) {i j : Nat} (h : At a c d i j) (hrows : ∀ r ∈ l, RowOk a r) (hn : l.length ≤ 2000) (ha : FitF a) : Ev (fun k => interchangeref6_Column_c9 k c d a (i : Int) [] l (l.length : Int) 0) (valsL c j l, 0) := by
  have key : ∀ (m q : Nat) (acc : List ByteArray), l.length - q = m → q ≤ l.length → acc.length ≤ q → Ev (fun k => interchangeref6_Column_c9 k c d a (i : Int) acc l (l.length : Int) (q : Int)) (acc ++ valsL c j (l.drop q), 0) := by
    intro m
    induction m with
    | zero =>
      intro q acc hq hq2 _
      rw [List.drop_of_length_le (by omega)]
      exact .step (fun k => interchangeref6_Column_c9_eq k _ _ _ _ _ _ _ _) (.nk (by omega) (.to (.pure _) (by simp [valsL])))
    | succ m ih =>
      intro q acc hq hq2 hacc
      have hq3 : q < l.length := by omega
      refine .step (fun k => interchangeref6_Column_c9_eq k _ _ _ _ _ _ _ _) (.ck (by omega) (.ck (by omega) (.ck (by omega) ?_)))
      rw [getD_at hq3, wj hq3 (by omega), dropR hq3]
      unfold valsL
      cases he : eqS (l[q]).1 c with
      | true =>
        obtain ⟨hjr, _⟩ := row_at h.hi h.hk h.hj (hrows _ (List.getElem_mem hq3)) he
        rw [if_pos rfl]
        have hi' := h.hi
        have hcl : Ev (fun k => interchangeref6_columnOf k (a.2.2.1[i]'h.hi) d) (j : Int) := (ev_rcolumnOf _ d (ha.c _ (List.getElem_mem h.hi))).to h.hc
        refine .tt rfl (.ck (by omega) (.ck (by omega) ?_))
        rw [getD_at h.hi]
        refine .bind hcl (.ck (by omega) (.ck (by omega) (.ck (by omega) ?_)))
        have := ih (q + 1) (acc ++ [(l[q]).2.getD j (bs [])]) (by omega) (by omega) (by rw [List.length_append]; simp; omega)
        rw [List.append_assoc] at this
        exact this
      | false =>
        rw [if_neg (by decide)]
        exact .ff rfl (ih (q + 1) acc (by omega) (by omega) (by omega))
  exact key _ 0 [] rfl (Nat.zero_le _) (Nat.le_refl _)
theorem ev_aColLoop (a : Fmt) (l : List Row) (c d : ByteArray) {i j : Nat} (h : At a c d i j) (hrows : ∀ r ∈ l, RowOk a r) (hn : l.length ≤ 2000) : Ev (fun k => flat_Column_c6 k c (j : Int) [] l (l.length : Int) 0) (valsL c j l, 0) := by
  have key : ∀ (m q : Nat) (acc : List ByteArray), l.length - q = m → q ≤ l.length → acc.length ≤ q → Ev (fun k => flat_Column_c6 k c (j : Int) acc l (l.length : Int) (q : Int)) (acc ++ valsL c j (l.drop q), 0) := by
    intro m
    induction m with
    | zero =>
      intro q acc hq hq2 _
      rw [List.drop_of_length_le (by omega)]
      exact .step (fun k => flat_Column_c6_eq k _ _ _ _ _ _) (.nk (by omega) (.to (.pure _) (by simp [valsL])))
    | succ m ih =>
      intro q acc hq hq2 hacc
      have hq3 : q < l.length := by omega
      refine .step (fun k => flat_Column_c6_eq k _ _ _ _ _ _) (.ck (by omega) (.ck (by omega) (.ck (by omega) ?_)))
      rw [getD_at hq3, wj hq3 (by omega), dropR hq3]
      unfold valsL
      cases he : eqS (l[q]).1 c with
      | true =>
        obtain ⟨hjr, _⟩ := row_at h.hi h.hk h.hj (hrows _ (List.getElem_mem hq3)) he
        rw [if_pos rfl]
        refine .tt rfl (.ck (by omega) (.ck (by omega) (.ck (by omega) ?_)))
        have := ih (q + 1) (acc ++ [(l[q]).2.getD j (bs [])]) (by omega) (by omega) (by rw [List.length_append]; simp; omega)
        rw [List.append_assoc] at this
        exact this
      | false =>
        rw [if_neg (by decide)]
        exact .ff rfl (ih (q + 1) acc (by omega) (by omega) (by omega))
  exact key _ 0 [] rfl (Nat.zero_le _) (Nat.le_refl _)
/-- Either both refuse alike, or the column stands somewhere. -/
theorem ev_place (a : Fmt) (l : List Row) (c d : ByteArray) (ha : FitF a) (hl : FitRs l) :
    (∃ f : Int, f ≠ 0 ∧ Ev (fun k => interchangeref6_Column k a l c d) ([], f) ∧ Ev (fun k => flat_columnOf k a l c d) (0, (col0, f))) ∨
    (∃ i j, ∃ h : At a c d i j, FmtOk a ∧ l.length ≤ 2000 ∧ (∀ r ∈ l, RowOk a r) ∧ Ev (fun k => interchangeref6_Column k a l c d) (valsL c j l, 0) ∧ Ev (fun k => flat_columnOf k a l c d) ((j : Int), ((a.2.2.1[i]'h.hi).2.1[j]'h.hj, 0))) := by
  obtain ⟨y, y1, y2, y3⟩ := ev_ask a l ha hl
  cases hf : (y != 0) with
  | true => exact .inl ⟨y, by simpa using hf, .step (fun k => interchangeref6_Column_eq k _ _ _ _) (.bind y1 (.tt hf (.pure _))), .step (fun k => flat_columnOf_eq k _ _ _ _) (.bind y2 (.tt hf (.pure _)))⟩
  | false =>
    obtain ⟨hok, hn, hrows⟩ := y3 (by simpa using hf)
    have hkl := ixI_lt (tagP c) a.2.2.1
    by_cases h0 : kOf a.2.2.1 c < 0
    · refine .inl ⟨5, by decide, .step (fun k => interchangeref6_Column_eq k _ _ _ _) (.bind y1 (.ff hf (.bind (ev_rkindOf a c ha.n) ?_))), .step (fun k => flat_columnOf_eq k _ _ _ _) (.bind y2 (.ff hf (.bind (ev_kindAt a c ha.n) ?_)))⟩
      · rw [decide_eq_true h0]
        exact .tt rfl (.tt rfl (.bind (x := 0) (.ff rfl (.pure _)) (.tt rfl (.pure _))))
      · rw [kAt_no h0]
        exact .tt rfl (.pure _)
    · obtain ⟨i, hi, hk, _⟩ := ixI_get (show 0 ≤ ixI (tagP c) a.2.2.1 from Int.not_lt.1 h0)
      have hk' : kOf a.2.2.1 c = (i : Int) := hk
      have hR : Ev (fun k => interchangeref6_kindOf k a c) (i : Int) := (ev_rkindOf a c ha.n).to hk'
      have hA : Ev (fun k => flat_kindAt k a c) (a.2.2.1[i], true) := (ev_kindAt a c ha.n).to (kAt_at hi hk')
      have hcl := ha.c _ (List.getElem_mem hi)
      have hix := ixI_lt (colP d) (a.2.2.1[i]).2.1
      have hcR := ev_rcolumnOf (a.2.2.1[i]) d hcl
      have hcA := ev_columnAt (a.2.2.1[i]) d hcl
      by_cases h1 : cOf (a.2.2.1[i]).2.1 d < 0
      · refine .inl ⟨5, by decide, .step (fun k => interchangeref6_Column_eq k _ _ _ _) (.bind y1 (.ff hf (.bind hR ?_))), .step (fun k => flat_columnOf_eq k _ _ _ _) (.bind y2 (.ff hf (.bind hA (.ff rfl (.bind hcA (.ck h1 (.pure _)))))))⟩
        rw [decide_eq_false (by omega : ¬ (i : Int) < 0), getD_at hi]
        refine .tt (by simp) (.tt (by simp; omega) (.bind (.tt rfl hcR) (.tt ?_ (.pure _))))
        rw [decide_eq_true h1]
        rfl
      · obtain ⟨j, hj, hjc, _⟩ := ixI_get (show 0 ≤ ixI (colP d) (a.2.2.1[i]).2.1 from Int.not_lt.1 h1)
        have hjc' : cOf (a.2.2.1[i]).2.1 d = (j : Int) := hjc
        have hAt : At a c d i j := ⟨hi, hk', hj, hjc'⟩
        refine .inr ⟨i, j, hAt, hok, hn, hrows, .step (fun k => interchangeref6_Column_eq k _ _ _ _) (.bind y1 (.ff hf (.bind hR ?_))), .step (fun k => flat_columnOf_eq k _ _ _ _) (.bind y2 (.ff hf (.bind hA (.ff rfl (.bind (hcA.to hjc') (.nk (by omega) (.ck (by omega) (.ck (show (j : Int) < ((a.2.2.1[i]).2.1.length : Int) by omega) ?_))))))))⟩
        · rw [decide_eq_false (by omega : ¬ (i : Int) < 0), getD_at hi]
          refine .tt (by simp) (.tt (by simp; omega) (.bind (.tt rfl (hcR.to hjc')) (.ff ?_ (ev_rColLoop a l c d hAt hrows hn ha))))
          rw [decide_eq_false (by omega : ¬ (j : Int) < 0)]
          rfl
        · rw [getD_at hj]
          exact .pure _
theorem ev_eqTexts (l : List ByteArray) (hn : l.length < 1125899906842624) : Ev (fun k => slices_Equal_Lstring_string k l l) true := by
  refine .step (fun k => slices_Equal_Lstring_string_eq k _ _) (.ff (by simp) ?_)
  refine ev_up l.length (fun _ => true) (fun k i => slices_Equal_Lstring_string_c4 k l l (l.length : Int) i) (fun i hi h => ?_) ?_
  · refine .step (fun k => slices_Equal_Lstring_string_c4_eq k _ _ _ _) (.ck (by omega) (.ck (by omega) (.ck (by omega) (.ck (by omega) (.ck (by omega) (.ff (by rw [eqS_self]; rfl) ?_))))))
    rw [wj hi hn]
    exact h
  · exact .step (fun k => slices_Equal_Lstring_string_c4_eq k _ _ _ _) (.nk (by omega) (.pure _))
/-! ### its sum -/
/-- The fewest places. -/
def fwF : Nat → Int → (Int × Int) × Int
  | 0, S => mk S 0
  | n + 1, S => if S.natAbs % 10 = 0 then fwF n (if S < 0 then -((S.natAbs / 10 : Nat) : Int) else ((S.natAbs / 10 : Nat) : Int)) else mk S ((n + 1 : Nat) : Int)
theorem ev_fewest (s4 : Int × Int) : ∀ (n : Nat) (S : Int), n ≤ 9 → Sm S → Ev (fun k => amount_Fewest_c2 k (n : Int) (W S) s4 (W 10)) (fwF n S)
  | 0, S, _, hS => .step (fun k => amount_Fewest_c2_eq k _ _ _ _) (.nk (by omega) (.ret (ev_Made S 0) rfl))
  | n + 1, S, hn, hS => by
    have h10 : Sm 10 := .of (by decide)
    have hb := ev_By S 10 hS h10 (by decide)
    have e10 : (10 : Int).natAbs = 10 := rfl
    rw [e10] at hb
    refine .step (fun k => amount_Fewest_c2_eq k _ _ _ _) (.ck (by omega) (.bind hb (.bind (ev_Sign _) ?_)))
    unfold fwF
    by_cases h : S.natAbs % 10 = 0
    · rw [if_pos h, h]
      have hw : wi64 (((n + 1 : Nat) : Int) - 1) = (n : Int) := by rw [wi64_id (by omega) (by omega)]; omega
      have hq : Sm ((S.natAbs / 10 : Nat) : Int) := by
        unfold Sm at *
        rw [Int.natAbs_natCast]
        omega
      refine .ff rfl (.bind (ev_Sign _) ?_)
      rw [hw]
      by_cases hs : S < 0
      · rw [if_pos hs]
        refine .ck (by rw [Int.sign_eq_neg_one_of_neg hs]; decide) (.bind (ev_Minus _ hq) (ev_fewest s4 n _ (by omega) ?_))
        unfold Sm at *
        rw [Int.natAbs_neg]
        exact hq
      · rw [if_neg hs]
        refine .nk ?_ (ev_fewest s4 n _ (by omega) hq)
        have := Int.sign_nonneg_iff.2 (Int.not_lt.1 hs)
        omega
    · rw [if_neg h]
      refine .tt ?_ (.ret (ev_Made S _) rfl)
      have : (((S.natAbs % 10 : Nat) : Int)).sign ≠ 0 := by
        rw [ne_eq, Int.sign_eq_zero_iff_zero]
        omega
      simpa using this
theorem Ev.uniq {α : Type} {f : Nat → Option α} {x y : α} (h1 : Ev f x) (h2 : Ev f y) : x = y := by
  obtain ⟨K, hK⟩ := h1
  obtain ⟨M, hM⟩ := h2
  have a := hK (K + M) (by omega)
  rw [hM (K + M) (by omega)] at a
  exact (Option.some.inj a).symm
/-- What is told, and read again. -/
theorem ev_told : ∀ (n : Nat) (S : Int), n ≤ 9 → S.natAbs < 10 ^ 100 → ∃ t : ByteArray × Int, Ev (fun k => interchangeref6_told_c2 k (N S) (n : Int)) t ∧ ((t = (bs [], 1) ∧ fwF n S = ((0, 0), 1)) ∨ ∃ d, okD d ∧ t = (B (txL d), 0) ∧ fwF n S = (d, 0))
  | n, S, hn, hS => by
    have hSr : Sr S := .of (Nat.le_trans (Nat.le_of_lt hS) (Nat.pow_le_pow_right (by decide) (by decide)))
    have hsm := ev_rSmall S 1000000000000000 hSr (by decide) (by decide)
    -- the end of the way
    have fin : ∀ p : Int, 0 ≤ p → p ≤ 9 → ∃ t : ByteArray × Int, Ev (fun k => (interchangeref1_Small k (N S) 1000000000000000).bind fun y3 => cond (!y3.2) (some (bs [], 1)) ((interchangeref1_Text k (y3.1, p)).bind fun y4 => some (y4.1, 0))) t ∧ ((t = (bs [], 1) ∧ mk S p = ((0, 0), 1)) ∨ ∃ d, okD d ∧ t = (B (txL d), 0) ∧ mk S p = (d, 0)) := by
      intro p hp0 hp9
      unfold mk
      by_cases h : S.natAbs ≤ 1000000000000000
      · have h' : ((S.natAbs : Nat) : Int) ≤ 1000000000000000 := by omega
        rw [if_pos h'] at hsm
        have hok : okD (S, p) := by unfold okD; simp only; omega
        have ht := ev_rText (S, p)
        rw [if_pos hok] at ht
        exact ⟨_, .bind hsm (.ff rfl (.bind ht (.pure _))), .inr ⟨(S, p), hok, rfl, by rw [if_pos h]⟩⟩
      · have h' : ¬ ((S.natAbs : Nat) : Int) ≤ 1000000000000000 := by omega
        rw [if_neg h'] at hsm
        exact ⟨_, .bind hsm (.tt rfl (.pure _)), .inl ⟨rfl, by rw [if_neg h]⟩⟩
    match n, hn with
    | 0, _ =>
      obtain ⟨t, t1, t2⟩ := fin 0 (by decide) (by decide)
      exact ⟨t, .step (fun k => interchangeref6_told_c2_eq k _ _) (.nk (by omega) t1), t2⟩
    | n + 1, hn =>
      have hdm := ev_rDivMod S.natAbs 10 (by decide) hS (by decide +kernel)
      have eN : (false, (N S).2) = N ((S.natAbs : Nat) : Int) := by
        unfold N
        have : ¬ ((S.natAbs : Nat) : Int) < 0 := by omega
        rw [decide_eq_false this, Int.natAbs_natCast]
      unfold fwF
      by_cases h : S.natAbs % 10 = 0
      · rw [if_pos h]
        rw [h] at hdm
        have hw : wi64 (((n + 1 : Nat) : Int) - 1) = (n : Int) := by rw [wi64_id (by omega) (by omega)]; omega
        obtain ⟨t, t1, t2⟩ := ev_told n (if S < 0 then -((S.natAbs / 10 : Nat) : Int) else ((S.natAbs / 10 : Nat) : Int)) (by omega) (by split <;> omega)
        refine ⟨t, .step (fun k => interchangeref6_told_c2_eq k _ _) (.ck (by omega) (.bind (ev_rOf 10 (by decide) (by decide)) ?_)), t2⟩
        rw [eN, hw]
        refine .bind hdm (.bind (ev_rSign _) (.ff rfl ?_))
        have eq1 : (N ((S.natAbs / 10 : Nat) : Int)).2 = digs 1000000 (S.natAbs / 10) := by unfold N; rw [Int.natAbs_natCast]
        by_cases hs : S < 0
        · have hneg : (N S).1 = true := decide_eq_true hs
          rw [if_pos hs] at t1
          refine .bind (.tt hneg (ev_rSign _)) ?_
          have e : (cond (N S).1 ((((S.natAbs / 10 : Nat) : Int).sign) != 0) false, (N ((S.natAbs / 10 : Nat) : Int)).2) = N (-((S.natAbs / 10 : Nat) : Int)) := by
            rw [hneg, eq1]
            unfold N
            rw [Int.natAbs_neg, Int.natAbs_natCast]
            congr 1
            rcases Nat.eq_zero_or_pos (S.natAbs / 10) with h0 | h0
            · rw [h0]; rfl
            · have h1 : (((S.natAbs / 10 : Nat) : Int)).sign = 1 := Int.sign_eq_one_of_pos (by omega)
              rw [h1]
              have : (-((S.natAbs / 10 : Nat) : Int)) < 0 := by omega
              rw [decide_eq_true this]
              rfl
          rw [e]
          exact t1
        · have hneg : (N S).1 = false := decide_eq_false hs
          rw [if_neg hs] at t1
          refine .bind (x := 0) (.ff hneg (.pure _)) ?_
          have e : (cond (N S).1 ((0 : Int) != 0) false, (N ((S.natAbs / 10 : Nat) : Int)).2) = N ((S.natAbs / 10 : Nat) : Int) := by
            rw [hneg, eq1]
            unfold N
            have : ¬ ((S.natAbs / 10 : Nat) : Int) < 0 := by omega
            rw [decide_eq_false this, Int.natAbs_natCast]
            rfl
          rw [e]
          exact t1
      · rw [if_neg h]
        obtain ⟨t, t1, t2⟩ := fin ((n + 1 : Nat) : Int) (by omega) (by omega)
        refine ⟨t, .step (fun k => interchangeref6_told_c2_eq k _ _) (.ck (by omega) (.bind (ev_rOf 10 (by decide) (by decide)) ?_)), t2⟩
        rw [eN]
        refine .bind hdm (.bind (ev_rSign _) (.tt ?_ t1))
        have : (((S.natAbs % 10 : Nat) : Int)).sign ≠ 0 := by
          rw [ne_eq, Int.sign_eq_zero_iff_zero]
          omega
        simpa using this
/-- The sum of decimals, in units of the ninth place. -/
def sumL : List ByteArray → Int
  | [] => 0
  | v :: l => (if eqS v (bs []) = true then 0 else sc (rtx (L v)).1 9) + sumL l
theorem sumL_cons (v : ByteArray) (l : List ByteArray) : sumL (v :: l) = (if eqS v (bs []) = true then 0 else sc (rtx (L v)).1 9) + sumL l := rfl
theorem valsL_cons (c : ByteArray) (j : Nat) (r : Row) (l : List Row) : valsL c j (r :: l) = if eqS r.1 c = true then r.2.getD j (bs []) :: valsL c j l else valsL c j l := rfl
/-- A list of decimals that were checked. -/
def DecL (l : List ByteArray) : Prop := ∀ v ∈ l, v.size ≤ 140737488351232 ∧ (eqS v (bs []) = false → (rtx (L v)).2 = 0)
theorem sumL_bound : ∀ (l : List ByteArray), DecL l → (sumL l).natAbs ≤ l.length * 10 ^ 35
  | [], _ => by simp [sumL]
  | v :: l, h => by
    have ih := sumL_bound l fun x hx => h x (by simp [hx])
    unfold sumL
    have : (if eqS v (bs []) = true then 0 else sc (rtx (L v)).1 9).natAbs ≤ 10 ^ 35 := by
      split
      · simp
      · rename_i hv
        exact sc_abs (rtx_ok _ ((h v (by simp)).2 (by simpa using hv))) (by decide)
    rw [List.length_cons, Nat.succ_mul]
    omega
theorem ev_rSumLoop (s8 : Int × Int) (l : List ByteArray) (hd : DecL l) (hn : l.length ≤ 2000) {z : (Int × Int) × Int} (hz : Ev (fun k => (interchangeref6_told k (N (sumL l))).bind fun y6 => cond (y6.2 != 0) (some ((0, 0), y6.2)) ((interchangeref1_ReadText k y6.1).bind fun y7 => some y7)) z) :
    Ev (fun k => interchangeref6_SumOf_c9 k s8 (false, []) l (l.length : Int) 0) z := by
  have key : ∀ (m q : Nat) (S : Int), l.length - q = m → q ≤ l.length → S.natAbs ≤ q * 10 ^ 35 → S + sumL (l.drop q) = sumL l → Ev (fun k => interchangeref6_SumOf_c9 k s8 (N S) l (l.length : Int) (q : Int)) z := by
    intro m
    induction m with
    | zero =>
      intro q S hq hq2 _ hS
      rw [List.drop_of_length_le (by omega)] at hS
      have e : S = sumL l := by simpa [sumL] using hS
      rw [e]
      exact .step (fun k => interchangeref6_SumOf_c9_eq k _ _ _ _ _) (.nk (by omega) hz)
    | succ m ih =>
      intro q S hq hq2 hb hS
      have hq3 : q < l.length := by omega
      have hv := hd _ (List.getElem_mem hq3)
      have hsz := size_L l[q]
      refine .step (fun k => interchangeref6_SumOf_c9_eq k _ _ _ _ _) (.ck (by omega) (.ck (by omega) (.ck (by omega) ?_)))
      rw [getD_at hq3, wj hq3 (by omega)]
      rw [List.drop_eq_getElem_cons hq3, sumL_cons] at hS
      cases he : eqS l[q] (bs []) with
      | true =>
        rw [he, if_pos rfl] at hS
        exact .ff rfl (ih (q + 1) S (by omega) (by omega) (Nat.le_trans hb (Nat.mul_le_mul_right _ (Nat.le_succ q))) (by omega))
      | false =>
        rw [he, if_neg (by decide)] at hS
        have hok := rtx_ok _ (hv.2 he)
        have hr := ev_rRead (L l[q]) (by omega)
        rw [B_L] at hr
        have hsc := sc_abs (p := 9) hok (by decide)
        have hS1 : Sr S := .of (Nat.le_trans hb (Nat.le_trans (Nat.mul_le_mul_right _ (show q ≤ 2000 by omega)) (by decide)))
        have hS2 : Sr (sc (rtx (L l[q])).1 9) := .of (Nat.le_trans hsc (Nat.pow_le_pow_right (by decide) (by decide)))
        refine .tt rfl (.bind hr (.bind (ev_rAt _ 9 hok hok.2.2.2 (by decide)) (.bind (ev_rPlus S _ hS1 hS2) (ih (q + 1) _ (by omega) (by omega) ?_ (by omega)))))
        rw [Nat.succ_mul]
        omega
  exact key _ 0 0 rfl (Nat.zero_le _) (by simp) (by rw [List.drop_zero, Int.zero_add])
theorem ev_aSumLoop (a : Fmt) (l : List Row) (c d : ByteArray) {i j : Nat} (h : At a c d i j) (ha : FitF a) (hok : FmtOk a) (hrows : ∀ r ∈ l, RowOk a r) (hn : l.length ≤ 2000) (hd : DecL (valsL c j l)) :
    Ev (fun k => flat_sumOf k a l c d) (fwF 9 (sumL (valsL c j l))) := by
  have hi := h.hi
  have hj := h.hj
  have hcE : eqS c (bs []) = false := by
    obtain ⟨h1, hp, _⟩ := ixI_at h.hk
    have e : (a.2.2.1[i]).1 = c := (eqS_iff _ _).1 hp
    have := hok.tag1 _ (List.getElem_mem hi)
    refine eqS_ne fun z => ?_
    rw [e, z] at this
    exact absurd this (by decide)
  have key : ∀ (m q : Nat) (S : Int), l.length - q = m → q ≤ l.length → S.natAbs ≤ q * 10 ^ 35 → DecL (valsL c j (l.drop q)) → S + sumL (valsL c j (l.drop q)) = sumL (valsL c j l) → Ev (fun k => flat_sumOf_c3 k c d a (0, 0) (W S) l (l.length : Int) (q : Int)) (fwF 9 (sumL (valsL c j l))) := by
    intro m
    induction m with
    | zero =>
      intro q S hq hq2 hb _ hS
      rw [List.drop_of_length_le (by omega)] at hS
      have e : S = sumL (valsL c j l) := by simpa [sumL, valsL] using hS
      rw [← e]
      have hSm : Sm S := .of (Nat.le_trans hb (Nat.le_trans (Nat.mul_le_mul_right _ (show q ≤ 2000 by omega)) (by decide)))
      exact .step (fun k => flat_sumOf_c3_eq k _ _ _ _ _ _ _ _) (.nk (by omega) (.ret (.step (fun k => amount_Fewest_eq k _ _) (.bind (ev_Of 10 (by decide) (by decide)) (ev_fewest (0, 0) 9 S (by decide) hSm))) rfl))
    | succ m ih =>
      intro q S hq hq2 hb hdq hS
      have hq3 : q < l.length := by omega
      have hrow := hrows _ (List.getElem_mem hq3)
      refine .step (fun k => flat_sumOf_c3_eq k _ _ _ _ _ _ _ _) (.ck (by omega) (.ck (by omega) (.ck (by omega) ?_)))
      rw [getD_at hq3, wj hq3 (by omega)]
      rw [dropR hq3, valsL_cons] at hS hdq
      cases he : eqS (l[q]).1 c with
      | false =>
        rw [he, if_neg (by decide)] at hS hdq
        obtain ⟨i', hi', hk', _, _⟩ := hrow
        have hA : Ev (fun k => flat_kindAt k a (l[q]).1) (a.2.2.1[i'], true) := (ev_kindAt a _ ha.n).to (kAt_at hi' hk')
        refine .bind hA (.bind (ev_columnAt _ d (ha.c _ (List.getElem_mem hi'))) ?_)
        rw [hcE]
        exact .tt rfl (.tt rfl (.tt rfl (ih (q + 1) S (by omega) (by omega) (Nat.le_trans hb (Nat.mul_le_mul_right _ (Nat.le_succ q))) hdq hS)))
      | true =>
        rw [he, if_pos rfl] at hS hdq
        obtain ⟨hjr, hv⟩ := row_at h.hi h.hk h.hj hrow he
        have etag : (l[q]).1 = c := (eqS_iff _ _).1 he
        have hA : Ev (fun k => flat_kindAt k a (l[q]).1) (a.2.2.1[i], true) := by
          rw [etag]
          exact (ev_kindAt a c ha.n).to (kAt_at hi h.hk)
        have hC : Ev (fun k => flat_columnAt k (a.2.2.1[i]) d) (j : Int) := (ev_columnAt _ d (ha.c _ (List.getElem_mem hi))).to h.hc
        refine .bind hA (.bind hC ?_)
        rw [hcE, decide_eq_false (by omega : ¬ (j : Int) < 0)]
        have ev : (l[q]).2.getD ((j : Nat) : Int).toNat (bs []) = (l[q]).2[j] := getD_at hjr _
        have ev2 : (l[q]).2.getD j (bs []) = (l[q]).2[j] := getD_nat hjr _
        rw [ev]
        rw [ev2] at hS hdq
        refine .tt (by simp) (.tt (by simp; omega) ?_)
        have hv := hdq _ (List.mem_cons_self ..)
        have hdr : DecL (valsL c j (l.drop (q + 1))) := fun x hx => hdq x (List.mem_cons_of_mem _ hx)
        rw [sumL_cons] at hS
        cases hem : eqS ((l[q]).2[j]) (bs []) with
        | true =>
          rw [hem, if_pos rfl] at hS
          exact .tt rfl (ih (q + 1) S (by omega) (by omega) (Nat.le_trans hb (Nat.mul_le_mul_right _ (Nat.le_succ q))) hdr (by omega))
        | false =>
          rw [hem, if_neg (by decide)] at hS
          have hsz := size_L ((l[q]).2[j])
          have hok2 := rtx_ok _ (hv.2 hem)
          have hr := ev_aRead (L ((l[q]).2[j])) (by omega)
          rw [B_L] at hr
          have hsc := sc_abs (p := 9) hok2 (by decide)
          have hS1 : Sm S := .of (Nat.le_trans hb (Nat.le_trans (Nat.mul_le_mul_right _ (show q ≤ 2000 by omega)) (by decide)))
          have hS2 : Sm (sc (rtx (L ((l[q]).2[j]))).1 9) := .of (Nat.le_trans hsc (Nat.pow_le_pow_right (by decide) (by decide)))
          refine .ff rfl (.ck (by omega) (.ck (by omega) (.bind hr (.bind (ev_Value _ hok2) (.bind (ev_Plus S _ hS1 hS2) (ih (q + 1) _ (by omega) (by omega) ?_ hdr (by omega)))))))
          rw [Nat.succ_mul]
          omega
  refine .step (fun k => flat_sumOf_eq k _ _ _ _) (.bind (ev_Of 0 (by decide) (by decide)) ?_)
  exact key _ 0 0 rfl (Nat.zero_le _) (by simp) (by rw [List.drop_zero]; exact hd) (by rw [List.drop_zero, Int.zero_add])
theorem txL_small {d : Int × Int} (h : okD d) : (txL d).length ≤ 140737488351232 := by
  have hb := bef_len h
  have hh := behL_len d.1.natAbs d.2.toNat
  unfold okD at h
  unfold txL
  simp only [List.length_append]
  split <;> split <;> simp <;> omega
theorem rtx_back {d : Int × Int} (h : okD d) : rtx (txL d) = (d, 0) := Ev.uniq (ev_aRead _ (txL_small h)) (ev_readBack h)
theorem ev_SumOf (a : Fmt) (l : List Row) (c d : ByteArray) (ha : FitF a) (hl : FitRs l) : ∃ y : (Int × Int) × Int, Ev (fun k => interchangeref6_SumOf k a l c d) y ∧ Ev (fun k => flat_SumOf k a l c d) y := by
  rcases ev_place a l c d ha hl with ⟨f, f0, f1, f2⟩ | ⟨i, j, h, hok, hn, hrows, p1, p2⟩
  · have hf : (f != 0) = true := by simpa using f0
    exact ⟨((0, 0), f), .step (fun k => interchangeref6_SumOf_eq k _ _ _ _) (.bind f1 (.tt hf (.pure _))), .step (fun k => flat_SumOf_eq k _ _ _ _) (.bind f2 (.tt hf (.pure _)))⟩
  · have hi := h.hi
    have hj := h.hj
    have hR : Ev (fun k => interchangeref6_kindOf k a c) (i : Int) := (ev_rkindOf a c ha.n).to h.hk
    have hC : Ev (fun k => interchangeref6_columnOf k (a.2.2.1[i]) d) (j : Int) := (ev_rcolumnOf _ d (ha.c _ (List.getElem_mem hi))).to h.hc
    cases ht : (((a.2.2.1[i]).2.1[j]).2.1 != 2) with
    | true =>
      refine ⟨((0, 0), 6), .step (fun k => interchangeref6_SumOf_eq k _ _ _ _) (.bind p1 (.ff rfl (.bind hR (.ck (by omega) (.ck (by omega) ?_))))), .step (fun k => flat_SumOf_eq k _ _ _ _) (.bind p2 (.ff rfl (.tt ht (.pure _))))⟩
      rw [getD_at hi]
      refine .bind hC (.ck (by omega) (.ck (by omega) ?_))
      rw [getD_at hj]
      exact .tt ht (.pure _)
    | false =>
      have ht2 : ((a.2.2.1[i]).2.1[j]).2.1 = 2 := by simpa using ht
      have hd : DecL (valsL c j l) := by
        have gen : ∀ m : List Row, (∀ r ∈ m, RowOk a r ∧ FitR r) → DecL (valsL c j m) := by
          intro m
          induction m with
          | nil => intro _ v hv; cases hv
          | cons r m ih =>
            intro hm v hv
            unfold valsL at hv
            have ih' := ih fun x hx => hm x (by simp [hx])
            cases he : eqS r.1 c with
            | true =>
              rw [he, if_pos rfl] at hv
              rcases List.mem_cons.1 hv with rfl | hv
              · obtain ⟨hjr, _, _, _, _, _, _, h6⟩ := row_at h.hi h.hk h.hj (hm r (by simp)).1 he
                rw [getD_nat hjr]
                exact ⟨(hm r (by simp)).2.s _ (List.getElem_mem hjr), fun z => h6 z ht2⟩
              · exact ih' v hv
            | false =>
              rw [he, if_neg (by decide)] at hv
              exact ih' v hv
        exact gen l fun r hr => ⟨hrows r hr, hl.r r hr⟩
      have hvl := valsL_len c j l
      have hbd := sumL_bound _ hd
      have hS : (sumL (valsL c j l)).natAbs < 10 ^ 100 := Nat.lt_of_le_of_lt (Nat.le_trans hbd (Nat.mul_le_mul_right _ (show (valsL c j l).length ≤ 2000 by omega))) (by decide)
      obtain ⟨t, t1, t2⟩ := ev_told 9 _ (by decide) hS
      have hz : Ev (fun k => (interchangeref6_told k (N (sumL (valsL c j l)))).bind fun y6 => cond (y6.2 != 0) (some ((0, 0), y6.2)) ((interchangeref1_ReadText k y6.1).bind fun y7 => some y7)) (fwF 9 (sumL (valsL c j l))) := by
        refine .bind (.step (fun k => interchangeref6_told_eq k _) t1) ?_
        rcases t2 with ⟨e1, e2⟩ | ⟨q, q1, q2, q3⟩
        · rw [e1, e2]
          exact .tt rfl (.pure _)
        · rw [q2, q3]
          exact .ff rfl (.ret (ev_rRead _ (txL_small q1)) (rtx_back q1))
      refine ⟨fwF 9 (sumL (valsL c j l)), .step (fun k => interchangeref6_SumOf_eq k _ _ _ _) (.bind p1 (.ff rfl (.bind hR (.ck (by omega) (.ck (by omega) ?_))))), .step (fun k => flat_SumOf_eq k _ _ _ _) (.bind p2 (.ff rfl (.ff ht (.ret (ev_aSumLoop a l c d h ha hok hrows hn hd) rfl))))⟩
      rw [getD_at hi]
      refine .bind hC (.ck (by omega) (.ck (by omega) ?_))
      rw [getD_at hj]
      exact .ff ht (ev_rSumLoop (0, 0) _ hd (by omega) hz)
theorem ev_law_columns (a : Fmt) (l : List Row) (c d : ByteArray) (ha : FitF a) (hl : FitRs l) : Ev (fun k => interchangelaw6_FlatColumnsMatchSpec k a l c d) true := by
  obtain ⟨z, z1, z2⟩ := ev_SumOf a l c d ha hl
  have tail : Ev (fun k => (interchangeref6_SumOf k a l c d).bind fun y3 => (flat_SumOf k a l c d).bind fun y4 =>
      (cond (cond (y4.2 == y3.2) ((y4.1.1 == y3.1.1) && ((y4.1.2 == y3.1.2) && true)) false) (interchangelaw6_awake k) (some false)).bind fun y5 =>
      some (cond (cond (y4.2 == y3.2) ((y4.1.1 == y3.1.1) && ((y4.1.2 == y3.1.2) && true)) false) y5 false)) true :=
    .bind z1 (.bind z2 (.bind (x := true) (.tt (by simp) ev_awakeF) (.to (.pure _) (by simp))))
  refine .step (fun k => interchangelaw6_FlatColumnsMatchSpec_eq k _ _ _ _) ?_
  rcases ev_place a l c d ha hl with ⟨f, f0, f1, f2⟩ | ⟨i, j, h, hok, hn, hrows, p1, p2⟩
  · have hf : (f != 0) = true := by simpa using f0
    refine .bind f1 (.bind (.step (fun k => flat_Column_eq k _ _ _ _) (.bind f2 (.tt hf (.pure _)))) (.bind (x := true) (.tt (by simp) (ev_eqTexts [] (by decide))) (.ff (by simp) tail)))
  · have hvl := valsL_len c j l
    refine .bind p1 (.bind (.step (fun k => flat_Column_eq k _ _ _ _) (.bind p2 (.ff rfl (ev_aColLoop a l c d h hrows hn)))) (.bind (x := true) (.tt (by simp) (ev_eqTexts _ (by simp only; omega))) (.ff (by simp) tail)))
end Go.Proofs.YtkkkmnjgjmhdnaaGreatDoor.Eq
