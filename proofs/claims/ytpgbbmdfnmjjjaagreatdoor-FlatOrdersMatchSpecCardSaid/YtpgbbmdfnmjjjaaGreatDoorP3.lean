/- What the functions of this law compute, part 3. -/
import Derived.Test.YtpgbbmdfnmjjjaaGreatDoorP2
namespace Go.Proofs.YtpgbbmdfnmjjjaaGreatDoor.Eq
open Go Go.Ra
set_option linter.unusedVariables false
structure FmtOk (a : Fmt) : Prop where
  m12 : mk12 a.1 a.2.1 = false
  m3 : mk3 a.1 a.2.1 = false
  tag : ∀ kd ∈ a.2.2.1, kd.1.size ≤ 6
  tag1 : ∀ kd ∈ a.2.2.1, 1 ≤ kd.1.size
  len : ∀ kd ∈ a.2.2.1, kd.2.1.length ≤ 50
  col : ∀ kd ∈ a.2.2.1, ∀ b ∈ kd.2.1, ColOk a.1 b
theorem fmt_ok {a : Fmt} (h : fmtF a = 0) : FmtOk a := by
  unfold fmtF at h
  obtain ⟨h1, h⟩ := cond0 (by decide) h
  obtain ⟨h2, h⟩ := cond0 (by decide) h
  obtain ⟨_, h⟩ := cond0 (by decide) h
  obtain ⟨_, h⟩ := cond0 (by decide) h
  obtain ⟨h3, _⟩ := nz_zero h
  have key : ∀ kd ∈ a.2.2.1, (1 ≤ kd.1.size ∧ kd.1.size ≤ 6) ∧ kd.2.1.length ≤ 50 ∧ ∀ b ∈ kd.2.1, ColOk a.1 b := by
    intro kd hkd
    obtain ⟨i, hi, rfl⟩ := List.getElem_of_mem hkd
    have hk := h3 i (Nat.zero_le _) (by omega)
    rw [getD_nat hi] at hk
    generalize a.2.2.1[i] = kd at *
    unfold kndF at hk
    obtain ⟨k1, hk⟩ := cond0 (by decide) hk
    obtain ⟨_, hk⟩ := cond0 (by decide) hk
    obtain ⟨_, hk⟩ := cond0 (by decide) hk
    obtain ⟨k2, hk⟩ := cond0 (by decide) hk
    obtain ⟨k3, _⟩ := nz_zero hk
    have k1' := not_f k1
    unfold tagB at k1'
    rw [Bool.and_eq_true] at k1'
    have := inB_iff.1 k1'.1
    have k2' := of_decide_eq_false k2
    refine ⟨⟨by omega, by omega⟩, by omega, fun b hb => ?_⟩
    obtain ⟨j, hj, rfl⟩ := List.getElem_of_mem hb
    have := k3 j (Nat.zero_le _) (by omega)
    unfold colAt at this
    rw [getD_nat hj] at this
    exact colF_ok this
  exact ⟨h1, h2, fun kd h => (key kd h).1.2, fun kd h => (key kd h).1.1, fun kd h => (key kd h).2.1, fun kd h => (key kd h).2.2⟩
structure FitR (b : Row) : Prop where
  n : b.2.length < 1125899906842624
  s : ∀ c ∈ b.2, c.size ≤ 140737488351232
def RowOk (a : Fmt) (b : Row) : Prop := ∃ i : Nat, ∃ hi : i < a.2.2.1.length, kOf a.2.2.1 b.1 = i ∧ b.2.length = (a.2.2.1[i]).2.1.length ∧ ∀ j (hj : j < b.2.length) (hj' : j < (a.2.2.1[i]).2.1.length), ValOk a ((a.2.2.1[i]).2.1[j]) (b.2[j])
theorem kAt_at {ks : List Knd} {t : ByteArray} {i : Nat} (hi : i < ks.length) (h : kOf ks t = i) : kAt ks t = (ks[i], true) := by
  unfold kAt
  rw [if_pos (by omega), h, getD_at hi]
theorem kAt_no {ks : List Knd} {t : ByteArray} (h : kOf ks t < 0) : kAt ks t = (knd0, false) := by
  unfold kAt
  rw [if_neg (by omega)]
theorem len_eq (n m : Nat) : ((n : Int) != (m : Int)) = decide (n ≠ m) := by
  by_cases h : n = m
  · subst h; simp
  · rw [decide_eq_true h]
    have : (n : Int) ≠ (m : Int) := by omega
    simpa using this
theorem ev_checkRow (a : Fmt) (b : Row) (ha : FitF a) (hok : FmtOk a) (hb : FitR b) :
    ∃ y : Int × Int, Ev (fun k => interchangeref6_checkRow k a b) y ∧ Ev (fun k => flat_checkRow k a b) y ∧ (y.2 = 0 → RowOk a b) := by
  have hl := ixI_lt (tagP b.1) a.2.2.1
  by_cases h0 : kOf a.2.2.1 b.1 < 0
  · refine ⟨(0, 9), .step (fun k => interchangeref6_checkRow_eq k _ _) (.bind (ev_rkindOf a _ ha.n) (.ck h0 (.pure _))), .step (fun k => flat_checkRow_eq k _ _) (.bind (ev_kindAt a _ ha.n) ?_), fun z => absurd z (by decide)⟩
    rw [kAt_no h0]
    exact .tt rfl (.pure _)
  · obtain ⟨i, hi, hk, _⟩ := ixI_get (show 0 ≤ ixI (tagP b.1) a.2.2.1 from Int.not_lt.1 h0)
    have hk' : kOf a.2.2.1 b.1 = (i : Int) := hk
    have hmem := List.getElem_mem hi
    have hcl := hok.len _ hmem
    have hcol := hok.col _ hmem
    have hR : Ev (fun k => interchangeref6_kindOf k a b.1) (i : Int) := (ev_rkindOf a _ ha.n).to hk'
    have hA : Ev (fun k => flat_kindAt k a b.1) (a.2.2.1[i], true) := (ev_kindAt a _ ha.n).to (kAt_at hi hk')
    by_cases hlen : b.2.length = (a.2.2.1[i]).2.1.length
    · have key : ∃ y : Int × Int, Ev (fun k => interchangeref6_checkRow_c7 k a (i : Int) b.2 (b.2.length : Int) 0) y ∧ Ev (fun k => flat_checkRow_c7 k a b (a.2.2.1[i]).2.1 ((a.2.2.1[i]).2.1.length : Int) 0) y ∧
          (y.2 = 0 → ∀ j, 0 ≤ j → ∀ (hj : j < b.2.length) (hj' : j < (a.2.2.1[i]).2.1.length), ValOk a ((a.2.2.1[i]).2.1[j]) (b.2[j])) := by
        refine ev_up2 b.2.length (fun (m : Nat) (y : Int × Int) => y.2 = 0 → ∀ j, m ≤ j → ∀ (hj : j < b.2.length) (hj' : j < (a.2.2.1[i]).2.1.length), ValOk a ((a.2.2.1[i]).2.1[j]) (b.2[j])) (fun k j => interchangeref6_checkRow_c7 k a (i : Int) b.2 (b.2.length : Int) j) (fun k j => flat_checkRow_c7 k a b (a.2.2.1[i]).2.1 ((a.2.2.1[i]).2.1.length : Int) j) (fun m hm h => ?_) ?_
        · obtain ⟨y, y1, y2, y3⟩ := h
          have hm' : m < (a.2.2.1[i]).2.1.length := by omega
          obtain ⟨f, f1, f2, f3⟩ := ev_value a ((a.2.2.1[i]).2.1[m]) (hcol _ (List.getElem_mem hm')) (b.2[m]) (hb.s _ (List.getElem_mem hm))
          refine ⟨cond (f != 0) ((m : Int), f) y, .step (fun k => interchangeref6_checkRow_c7_eq k _ _ _ _ _) (.ck (by omega) (.ck (by omega) (.ck (by omega) (.ck (by omega) (.ck (by omega) (.ck (by omega) ?_)))))), .step (fun k => flat_checkRow_c7_eq k _ _ _ _ _) (.ck (by omega) (.ck (by omega) (.ck (by omega) (.ck (by omega) (.ck (by omega) ?_))))), fun z j hj1 hj2 hj3 => ?_⟩
          · rw [getD_at hi, getD_at hm]
            refine .ck (by omega) ?_
            rw [getD_at hm', wj hm hb.n]
            exact f3 _ _ _ fun _ => y1
          · rw [getD_at hm, getD_at hm', wj hm hb.n, col_eta]
            exact .bind f1 (.sel rfl (fun _ => .pure _) fun _ => y2)
          · cases hf : (f != 0) with
            | true =>
              rw [hf] at z
              have z' : f = 0 := z
              rw [z'] at hf
              cases hf
            | false =>
              rw [hf] at z
              have hf0 : f = 0 := by simpa using hf
              by_cases e : j = m
              · subst e; exact f2 hf0
              · exact y3 z j (by omega) hj2 hj3
        · exact ⟨(0, 0), .step (fun k => interchangeref6_checkRow_c7_eq k _ _ _ _ _) (.nk (by omega) (.pure _)), .step (fun k => flat_checkRow_c7_eq k _ _ _ _ _) (.nk (by omega) (.pure _)), fun _ j hj1 hj2 => absurd hj2 (by omega)⟩
      obtain ⟨y, y1, y2, y3⟩ := key
      refine ⟨y, .step (fun k => interchangeref6_checkRow_eq k _ _) (.bind hR (.nk (by omega) (.ck (by omega) (.ck (by omega) ?_)))), .step (fun k => flat_checkRow_eq k _ _) (.bind hA (.ff rfl (.ff (by rw [len_eq]; exact decide_eq_false (fun z => z hlen)) y2))), fun z => ⟨i, hi, hk', hlen, fun j hj hj' => y3 z j (Nat.zero_le _) hj hj'⟩⟩
      rw [getD_at hi, len_eq, decide_eq_false (fun z => z hlen)]
      exact y1
    · refine ⟨(0, 3), .step (fun k => interchangeref6_checkRow_eq k _ _) (.bind hR (.nk (by omega) (.ck (by omega) (.ck (by omega) ?_)))), .step (fun k => flat_checkRow_eq k _ _) (.bind hA (.ff rfl (.tt (by rw [len_eq]; exact decide_eq_true hlen) (.pure _)))), fun z => absurd z (by decide)⟩
      rw [getD_at hi, len_eq, decide_eq_true hlen]
      exact .pure _
end Go.Proofs.YtpgbbmdfnmjjjaaGreatDoor.Eq
namespace Go.Proofs.YtpgbbmdfnmjjjaaGreatDoor.Eq
open Go Go.Ra
theorem awakeF_at (k : Nat) : interchangelaw6_awake (k + 64) = some true := by kernel_rfl
theorem ev_awakeF : Ev (fun k => interchangelaw6_awake k) true := .off (n := 64) awakeF_at
end Go.Proofs.YtpgbbmdfnmjjjaaGreatDoor.Eq
namespace Go.Proofs.YtpgbbmdfnmjjjaaGreatDoor.Eq
open Go Go.Ra
set_option linter.unusedVariables false
abbrev row0 : Row := (bs [], [])
theorem row_eta (r : Row) : (r.1, r.2) = r := rfl
structure FitRs (l : List Row) : Prop where
  n : l.length < 1125899906842624
  r : ∀ r ∈ l, FitR r
theorem ev_checkRows (a : Fmt) (l : List Row) (ha : FitF a) (hok : FmtOk a) (hl : FitRs l) :
    ∃ y : Int × Int, Ev (fun k => interchangeref6_checkRows k a l) y ∧ Ev (fun k => flat_checkRows k a l) y ∧ (y.2 = 0 → ∀ r ∈ l, RowOk a r) := by
  have key : ∃ y : Int × Int, Ev (fun k => interchangeref6_checkRows_c2 k a l (l.length : Int) 0) y ∧ Ev (fun k => flat_checkRows_c2 k a l (l.length : Int) 0) y ∧ (y.2 = 0 → ∀ j, 0 ≤ j → ∀ hj : j < l.length, RowOk a l[j]) := by
    refine ev_up2 l.length (fun (m : Nat) (y : Int × Int) => y.2 = 0 → ∀ j, m ≤ j → ∀ hj : j < l.length, RowOk a l[j]) (fun k j => interchangeref6_checkRows_c2 k a l (l.length : Int) j) (fun k j => flat_checkRows_c2 k a l (l.length : Int) j) (fun m hm h => ?_) ?_
    · obtain ⟨y, y1, y2, y3⟩ := h
      obtain ⟨f, f1, f2, f3⟩ := ev_checkRow a l[m] ha hok (hl.r _ (List.getElem_mem hm))
      refine ⟨cond (f.2 != 0) ((m : Int), f.2) y, .step (fun k => interchangeref6_checkRows_c2_eq k _ _ _ _) (.ck (by omega) (.ck (by omega) (.ck (by omega) ?_))), .step (fun k => flat_checkRows_c2_eq k _ _ _ _) (.ck (by omega) (.ck (by omega) (.ck (by omega) ?_))), fun z j hj1 hj2 => ?_⟩
      · rw [getD_at hm, wj hm hl.n]
        exact .bind f1 (.sel rfl (fun _ => .pure _) fun _ => y1)
      · rw [getD_at hm, wj hm hl.n]
        exact .bind f2 (.sel rfl (fun _ => .pure _) fun _ => y2)
      · cases hf : (f.2 != 0) with
        | true =>
          rw [hf] at z
          have z' : f.2 = 0 := z
          rw [z'] at hf
          cases hf
        | false =>
          rw [hf] at z
          have hf0 : f.2 = 0 := by simpa using hf
          by_cases e : j = m
          · subst e; exact f3 hf0
          · exact y3 z j (by omega) hj2
    · exact ⟨(0, 0), .step (fun k => interchangeref6_checkRows_c2_eq k _ _ _ _) (.nk (by omega) (.pure _)), .step (fun k => flat_checkRows_c2_eq k _ _ _ _) (.nk (by omega) (.pure _)), fun _ j hj1 hj2 => absurd hj2 (by omega)⟩
  obtain ⟨y, y1, y2, y3⟩ := key
  refine ⟨y, .step (fun k => interchangeref6_checkRows_eq k _ _) y1, .step (fun k => flat_checkRows_eq k _ _) y2, fun z r hr => ?_⟩
  obtain ⟨j, hj, rfl⟩ := List.getElem_of_mem hr
  exact y3 z j (Nat.zero_le _) hj
theorem dropR {l : List Row} {i : Nat} (hi : i < l.length) : l.drop i = l[i] :: l.drop (i + 1) := List.drop_eq_getElem_cons hi
theorem ev_eqTexts (l : List ByteArray) (hn : l.length < 1125899906842624) : Ev (fun k => slices_Equal_Lstring_string k l l) true := by
  refine .step (fun k => slices_Equal_Lstring_string_eq k _ _) (.ff (by simp) ?_)
  refine ev_up l.length (fun _ => true) (fun k i => slices_Equal_Lstring_string_c4 k l l (l.length : Int) i) (fun i hi h => ?_) ?_
  · refine .step (fun k => slices_Equal_Lstring_string_c4_eq k _ _ _ _) (.ck (by omega) (.ck (by omega) (.ck (by omega) (.ck (by omega) (.ck (by omega) (.ff (by rw [eqS_self]; rfl) ?_))))))
    rw [wj hi hn]
    exact h
  · exact .step (fun k => slices_Equal_Lstring_string_c4_eq k _ _ _ _) (.nk (by omega) (.pure _))
def fwF : Nat → Int → (Int × Int) × Int
  | 0, S => mk S 0
  | n + 1, S => if S.natAbs % 10 = 0 then fwF n (if S < 0 then -((S.natAbs / 10 : Nat) : Int) else ((S.natAbs / 10 : Nat) : Int)) else mk S ((n + 1 : Nat) : Int)
theorem ev_fewest (s4 : Int × Int) : ∀ (n : Nat) (S : Int), n ≤ 9 → Sm S → Ev (fun k => amount_Fewest_c2 k (n : Int) (W S) s4 (W 10)) (fwF n S)
  | 0, S, _, hS => .step (fun k => amount_Fewest_c2_eq k _ _ _ _) (.nk (by omega) (.ret (ev_Made S 0) rfl))
  | n + 1, S, hn, hS => by
    have h10 : Sm 10 := .of (by decide)
    have hb := ev_By S 10 hS h10 (by decide)
    have e10 : (10 : Int).natAbs = 10 := rfl
    rw [e10] at hb
    refine .step (fun k => amount_Fewest_c2_eq k _ _ _ _) (.ck (by omega) (.bind hb (.bind (ev_Sign _) ?_)))
    unfold fwF
    by_cases h : S.natAbs % 10 = 0
    · rw [if_pos h, h]
      have hw : wi64 (((n + 1 : Nat) : Int) - 1) = (n : Int) := by rw [wi64_id (by omega) (by omega)]; omega
      have hq : Sm ((S.natAbs / 10 : Nat) : Int) := by
        unfold Sm at *
        rw [Int.natAbs_natCast]
        omega
      refine .ff rfl (.bind (ev_Sign _) ?_)
      rw [hw]
      by_cases hs : S < 0
      · rw [if_pos hs]
        refine .ck (by rw [Int.sign_eq_neg_one_of_neg hs]; decide) (.bind (ev_Minus _ hq) (ev_fewest s4 n _ (by omega) ?_))
        unfold Sm at *
        rw [Int.natAbs_neg]
        exact hq
      · rw [if_neg hs]
        refine .nk ?_ (ev_fewest s4 n _ (by omega) hq)
        have := Int.sign_nonneg_iff.2 (Int.not_lt.1 hs)
        omega
    · rw [if_neg h]
      refine .tt ?_ (.ret (ev_Made S _) rfl)
      have : (((S.natAbs % 10 : Nat) : Int)).sign ≠ 0 := by
        rw [ne_eq, Int.sign_eq_zero_iff_zero]
        omega
      simpa using this
theorem Ev.uniq {α : Type} {f : Nat → Option α} {x y : α} (h1 : Ev f x) (h2 : Ev f y) : x = y := by
  obtain ⟨K, hK⟩ := h1
  obtain ⟨M, hM⟩ := h2
  have a := hK (K + M) (by omega)
  rw [hM (K + M) (by omega)] at a
  exact (Option.some.inj a).symm
theorem ev_told : ∀ (n : Nat) (S : Int), n ≤ 9 → S.natAbs < 10 ^ 100 → ∃ t : ByteArray × Int, Ev (fun k => interchangeref6_told_c2 k (N S) (n : Int)) t ∧ ((t = (bs [], 1) ∧ fwF n S = ((0, 0), 1)) ∨ ∃ d, okD d ∧ t = (B (txL d), 0) ∧ fwF n S = (d, 0))
  | n, S, hn, hS => by
    have hSr : Sr S := .of (Nat.le_trans (Nat.le_of_lt hS) (Nat.pow_le_pow_right (by decide) (by decide)))
    have hsm := ev_rSmall S 1000000000000000 hSr (by decide) (by decide)
    -- the end of the way
    have fin : ∀ p : Int, 0 ≤ p → p ≤ 9 → ∃ t : ByteArray × Int, Ev (fun k => (interchangeref1_Small k (N S) 1000000000000000).bind fun y3 => cond (!y3.2) (some (bs [], 1)) ((interchangeref1_Text k (y3.1, p)).bind fun y4 => some (y4.1, 0))) t ∧ ((t = (bs [], 1) ∧ mk S p = ((0, 0), 1)) ∨ ∃ d, okD d ∧ t = (B (txL d), 0) ∧ mk S p = (d, 0)) := by
      intro p hp0 hp9
      unfold mk
      by_cases h : S.natAbs ≤ 1000000000000000
      · have h' : ((S.natAbs : Nat) : Int) ≤ 1000000000000000 := by omega
        rw [if_pos h'] at hsm
        have hok : okD (S, p) := by unfold okD; simp only; omega
        have ht := ev_rText (S, p)
        rw [if_pos hok] at ht
        exact ⟨_, .bind hsm (.ff rfl (.bind ht (.pure _))), .inr ⟨(S, p), hok, rfl, by rw [if_pos h]⟩⟩
      · have h' : ¬ ((S.natAbs : Nat) : Int) ≤ 1000000000000000 := by omega
        rw [if_neg h'] at hsm
        exact ⟨_, .bind hsm (.tt rfl (.pure _)), .inl ⟨rfl, by rw [if_neg h]⟩⟩
    match n, hn with
    | 0, _ =>
      obtain ⟨t, t1, t2⟩ := fin 0 (by decide) (by decide)
      exact ⟨t, .step (fun k => interchangeref6_told_c2_eq k _ _) (.nk (by omega) t1), t2⟩
    | n + 1, hn =>
      have hdm := ev_rDivMod S.natAbs 10 (by decide) hS (by decide +kernel)
      have eN : (false, (N S).2) = N ((S.natAbs : Nat) : Int) := by
        unfold N
        have : ¬ ((S.natAbs : Nat) : Int) < 0 := by omega
        rw [decide_eq_false this, Int.natAbs_natCast]
      unfold fwF
      by_cases h : S.natAbs % 10 = 0
      · rw [if_pos h]
        rw [h] at hdm
        have hw : wi64 (((n + 1 : Nat) : Int) - 1) = (n : Int) := by rw [wi64_id (by omega) (by omega)]; omega
        obtain ⟨t, t1, t2⟩ := ev_told n (if S < 0 then -((S.natAbs / 10 : Nat) : Int) else ((S.natAbs / 10 : Nat) : Int)) (by omega) (by split <;> omega)
        refine ⟨t, .step (fun k => interchangeref6_told_c2_eq k _ _) (.ck (by omega) (.bind (ev_rOf 10 (by decide) (by decide)) ?_)), t2⟩
        rw [eN, hw]
        refine .bind hdm (.bind (ev_rSign _) (.ff rfl ?_))
        have eq1 : (N ((S.natAbs / 10 : Nat) : Int)).2 = digs 1000000 (S.natAbs / 10) := by unfold N; rw [Int.natAbs_natCast]
        by_cases hs : S < 0
        · have hneg : (N S).1 = true := decide_eq_true hs
          rw [if_pos hs] at t1
          refine .bind (.tt hneg (ev_rSign _)) ?_
          have e : (cond (N S).1 ((((S.natAbs / 10 : Nat) : Int).sign) != 0) false, (N ((S.natAbs / 10 : Nat) : Int)).2) = N (-((S.natAbs / 10 : Nat) : Int)) := by
            rw [hneg, eq1]
            unfold N
            rw [Int.natAbs_neg, Int.natAbs_natCast]
            congr 1
            rcases Nat.eq_zero_or_pos (S.natAbs / 10) with h0 | h0
            · rw [h0]; rfl
            · have h1 : (((S.natAbs / 10 : Nat) : Int)).sign = 1 := Int.sign_eq_one_of_pos (by omega)
              rw [h1]
              have : (-((S.natAbs / 10 : Nat) : Int)) < 0 := by omega
              rw [decide_eq_true this]
              rfl
          rw [e]
          exact t1
        · have hneg : (N S).1 = false := decide_eq_false hs
          rw [if_neg hs] at t1
          refine .bind (x := 0) (.ff hneg (.pure _)) ?_
          have e : (cond (N S).1 ((0 : Int) != 0) false, (N ((S.natAbs / 10 : Nat) : Int)).2) = N ((S.natAbs / 10 : Nat) : Int) := by
            rw [hneg, eq1]
            unfold N
            have : ¬ ((S.natAbs / 10 : Nat) : Int) < 0 := by omega
            rw [decide_eq_false this, Int.natAbs_natCast]
            rfl
          rw [e]
          exact t1
      · rw [if_neg h]
        obtain ⟨t, t1, t2⟩ := fin ((n + 1 : Nat) : Int) (by omega) (by omega)
        refine ⟨t, .step (fun k => interchangeref6_told_c2_eq k _ _) (.ck (by omega) (.bind (ev_rOf 10 (by decide) (by decide)) ?_)), t2⟩
        rw [eN]
        refine .bind hdm (.bind (ev_rSign _) (.tt ?_ t1))
        have : (((S.natAbs % 10 : Nat) : Int)).sign ≠ 0 := by
          rw [ne_eq, Int.sign_eq_zero_iff_zero]
          omega
        simpa using this
def sumL : List ByteArray → Int
  | [] => 0
  | v :: l => (if eqS v (bs []) = true then 0 else sc (rtx (L v)).1 9) + sumL l
theorem sumL_cons (v : ByteArray) (l : List ByteArray) : sumL (v :: l) = (if eqS v (bs []) = true then 0 else sc (rtx (L v)).1 9) + sumL l := rfl
def DecL (l : List ByteArray) : Prop := ∀ v ∈ l, v.size ≤ 140737488351232 ∧ (eqS v (bs []) = false → (rtx (L v)).2 = 0)
theorem sumL_bound : ∀ (l : List ByteArray), DecL l → (sumL l).natAbs ≤ l.length * 10 ^ 35
  | [], _ => by simp [sumL]
  | v :: l, h => by
    have ih := sumL_bound l fun x hx => h x (by simp [hx])
    unfold sumL
    have : (if eqS v (bs []) = true then 0 else sc (rtx (L v)).1 9).natAbs ≤ 10 ^ 35 := by
      split
      · simp
      · rename_i hv
        exact sc_abs (rtx_ok _ ((h v (by simp)).2 (by simpa using hv))) (by decide)
    rw [List.length_cons, Nat.succ_mul]
    omega
theorem txL_small {d : Int × Int} (h : okD d) : (txL d).length ≤ 140737488351232 := by
  have hb := bef_len h
  have hh := behL_len d.1.natAbs d.2.toNat
  unfold okD at h
  unfold txL
  simp only [List.length_append]
  split <;> split <;> simp <;> omega
end Go.Proofs.YtpgbbmdfnmjjjaaGreatDoor.Eq
namespace Go.Proofs.YtpgbbmdfnmjjjaaGreatDoor.Eq
open Go Go.Ra
set_option linter.unusedVariables false
theorem ev_same (l : List Row) (hl : FitRs l) : Ev (fun k => interchangeref6_Same k l l) true := by
  have hn := hl.n
  refine .step (fun k => interchangeref6_Same_eq k _ _) (.ff (by simp) ?_)
  refine ev_up l.length (fun _ => true) (fun k i => interchangeref6_Same_c4 k l l (l.length : Int) i) (fun i hi h => ?_) ?_
  · refine .step (fun k => interchangeref6_Same_c4_eq k _ _ _ _) (.ck (by omega) (.ck (by omega) (.ck (by omega) (.ck (by omega) (.ck (by omega) ?_)))))
    rw [getD_at hi, wj hi hn]
    refine .tt (bor' fun _ => by simp) (.tt (bor' fun _ => by simp; omega) (.tt (bor' fun _ => by simp) (.tt (bor' fun _ => by simp; omega) (.bind (x := true) (.tt (by simp [eqS_self]) (ev_eqTexts _ (hl.r _ (List.getElem_mem hi)).n)) (.ff (by simp [eqS_self]) h)))))
  · exact .step (fun k => interchangeref6_Same_c4_eq k _ _ _ _) (.nk (by omega) (.pure _))
end Go.Proofs.YtpgbbmdfnmjjjaaGreatDoor.Eq
namespace Go.Proofs.YtpgbbmdfnmjjjaaGreatDoor.Eq
open Go Go.Ra
end Go.Proofs.YtpgbbmdfnmjjjaaGreatDoor.Eq
namespace Go.Proofs.YtpgbbmdfnmjjjaaGreatDoor.Eq
open Go Go.Ra
set_option linter.unusedVariables false
end Go.Proofs.YtpgbbmdfnmjjjaaGreatDoor.Eq
namespace Go.Proofs.YtpgbbmdfnmjjjaaGreatDoor.Eq
open Go Go.Ra
set_option linter.unusedVariables false
structure IsV (b : Col) (c : ByteArray) : Prop where
  num : b.2.1 = 2 → (rtx (L c)).2 = 0 ∧ (rtx (L c)).1.2 ≤ b.2.2.2.1 ∧ Ev (fun k => amount_Least k (rtx (L c)).1) (rtx (L c)).1
  day : b.2.1 = 3 → ∃ n : Int, (1 ≤ n ∧ n ≤ 3652059) ∧ Ev (fun k => amount_ReadDay k c 1 1) (n, 0)
  txt : b.2.1 ≠ 2 → b.2.1 ≠ 3 → plB (L c) = true
theorem ev_isVal (b : Col) (c : ByteArray) (hc : c.size ≤ 140737488351232) (hne : eqS c (bs []) = false) : ∃ t : Bool, Ev (fun k => flat_isValue k b c) t ∧ (t = true ↔ IsV b c) := by
  have hsz := size_L c
  have h0 := ne_size hne
  by_cases h2 : b.2.1 = 2
  · have e2 : (b.2.1 == 2) = true := by simpa using h2
    have ha := ev_aRead (L c) (by omega)
    rw [B_L] at ha
    cases hz : ((rtx (L c)).2 == 0) with
    | false =>
      refine ⟨false, .step (fun k => flat_isValue_eq k _ _) (.tt e2 (.bind ha ?_)), (fun z => by cases z), fun z => ?_⟩
      · rw [hz]; exact .bind (x := (0, 0)) (.ff rfl (.pure _)) (.pure _)
      · rw [(z.num h2).1] at hz
        cases hz
    | true =>
      have hz' : (rtx (L c)).2 = 0 := by simpa using hz
      obtain ⟨y, y1, y2⟩ := ev_norm _ (rtx_ok _ hz')
      by_cases hp : (rtx (L c)).1.2 ≤ b.2.2.2.1
      · refine ⟨(y.1 == (rtx (L c)).1.1) && ((y.2 == (rtx (L c)).1.2) && true), .step (fun k => flat_isValue_eq k _ _) (.tt e2 (.bind ha ?_)), fun z => ⟨fun _ => ⟨hz', hp, ?_⟩, fun q => by omega, fun q => absurd h2 q⟩, fun z => ?_⟩
        · rw [hz, decide_eq_true hp]
          exact .bind (.tt rfl y2) (.pure _)
        · have e : y = (rtx (L c)).1 := by
            simp at z
            exact Prod.ext z.1 z.2
          rw [e] at y2
          exact y2
        · have e := Ev.uniq y2 (z.num h2).2.2
          rw [e]
          simp
      · refine ⟨false, .step (fun k => flat_isValue_eq k _ _) (.tt e2 (.bind ha ?_)), (fun z => by cases z), fun z => absurd (z.num h2).2.1 hp⟩
        rw [hz, decide_eq_false hp]
        exact .bind (x := (0, 0)) (.ff rfl (.pure _)) (.pure _)
  · have e2 : (b.2.1 == 2) = false := by simpa using h2
    by_cases h3 : b.2.1 = 3
    · have e3 : (b.2.1 == 3) = true := by simpa using h3
      obtain ⟨t, t1, t2, t3⟩ := ev_day (L c) (by omega)
      rw [B_L] at t1 t2
      refine ⟨t.2 == 0, .step (fun k => flat_isValue_eq k _ _) (.ff e2 (.tt e3 (.bind t2 (.pure _)))), fun z => ⟨fun q => absurd q h2, fun _ => ⟨t.1, ?_⟩, fun _ q => absurd h3 q⟩, fun z => ?_⟩
      · have hz : t.2 = 0 := by simpa using z
        have ht : t = (t.1, 0) := by rw [← hz]
        rw [ht] at t2
        exact ⟨t3 hz, t2⟩
      · obtain ⟨n, _, n2⟩ := z.day h3
        rw [Ev.uniq t2 n2]
        rfl
    · have e3 : (b.2.1 == 3) = false := by simpa using h3
      exact ⟨_, .step (fun k => flat_isValue_eq k _ _) (.ff e2 (.ff e3 (ev_aPlain c (by omega) h0))), fun z => ⟨fun q => absurd q h2, fun q => absurd q h3, fun _ _ => z⟩, fun z => z.txt h2 h3⟩
theorem ev_wrF (a : Fmt) (b : Col) (hb : ColOk a.1 b) (c : ByteArray) (hc : c.size ≤ 140737488351232) (hne : eqS c (bs []) = false) (hv : IsV b c) :
    ∃ w : ByteArray, Ev (fun k => flat_written k a b c) w ∧ (b.2.1 = 3 → (w.size : Int) = wOf b.2.2.2.2.1) ∧ (b.2.1 ≠ 3 → b.2.1 ≠ 2 → w = c) ∧ (b.2.1 = 2 → a.1 ≠ 0 → w = c) ∧ (b.2.1 = 2 → a.1 = 0 → w = B (Lib.itoa (sc (rtx (L c)).1 b.2.2.2.1))) := by
  have hsz := size_L c
  rcases hb.ty with t1 | t2 | t3
  · have e2 : (b.2.1 == 2) = false := by rw [t1]; rfl
    have e3 : (b.2.1 == 3) = false := by rw [t1]; rfl
    exact ⟨c, .step (fun k => flat_written_eq k _ _ _) (.ff hne (.ff (by rw [e2]; rfl) (.ff e3 (.pure _)))), fun z => by omega, fun _ _ => rfl, fun _ _ => rfl, fun z => by omega⟩
  · have e2 : (b.2.1 == 2) = true := by simpa using t2
    have e3 : (b.2.1 == 3) = false := by rw [t2]; rfl
    by_cases hm : a.1 = 0
    · obtain ⟨hz, hp, _⟩ := hv.num t2
      have hok := rtx_ok _ hz
      have hpl := hb.pl t2
      have ha := ev_aRead (L c) (by omega)
      rw [B_L] at ha
      have hsm : Sm (sc (rtx (L c)).1 b.2.2.2.1) := .of (Nat.le_trans (sc_abs hok (by omega)) (Nat.pow_le_pow_right (by decide) (by decide)))
      exact ⟨B (Lib.itoa (sc (rtx (L c)).1 b.2.2.2.1)), .step (fun k => flat_written_eq k _ _ _) (.ff hne (.tt (by rw [e2, hm]; rfl) (.bind ha (.bind (ev_Scaled _ _ hok hp (by omega)) (.ret (ev_WTextA _ hsm) rfl))))), fun z => by omega, fun _ z => absurd t2 z, fun _ z => absurd hm z, fun _ _ => rfl⟩
    · have hm' : (a.1 == 0) = false := by simpa using hm
      exact ⟨c, .step (fun k => flat_written_eq k _ _ _) (.ff hne (.ff (by rw [e2, hm']; rfl) (.ff e3 (.pure _)))), fun z => by omega, fun _ _ => rfl, fun _ _ => rfl, fun _ z => absurd z hm⟩
  · have e2 : (b.2.1 == 2) = false := by rw [t3]; rfl
    have e3 : (b.2.1 == 3) = true := by simpa using t3
    obtain ⟨n, hn, n2⟩ := hv.day t3
    obtain ⟨w, w1, w2, w3⟩ := ev_dayTx hn (hb.fm t3)
    exact ⟨w, .step (fun k => flat_written_eq k _ _ _) (.ff hne (.ff (by rw [e2]; rfl) (.tt e3 (.bind n2 (.bind w2 (.pure _)))))), fun _ => w3, fun z => absurd t3 z, fun z => by omega, fun z => by omega⟩
structure VF (a : Fmt) (b : Col) (c : ByteArray) : Prop where
  need : eqS c (bs []) = true → b.2.2.2.2.2.2.2 = false
  isV : eqS c (bs []) = false → IsV b c
  len : eqS c (bs []) = false → ∀ w : ByteArray, Ev (fun k => flat_written k a b c) w → (w.size : Int) ≤ b.2.2.1
  bar : eqS c (bs []) = false → a.1 ≠ 0 → a.2.1 = 0 → Lib.indexByte (L c) a.1.toNat.toUInt8 < 0
theorem ev_vf (a : Fmt) (b : Col) (hb : ColOk a.1 b) (c : ByteArray) (hc : c.size ≤ 140737488351232) : ∃ f : Int, Ev (fun k => flat_valueFault k a b c) f ∧ (f = 0 ↔ VF a b c) := by
  cases he : eqS c (bs []) with
  | true =>
    cases hr : b.2.2.2.2.2.2.2 with
    | true =>
      refine ⟨13, .step (fun k => flat_valueFault_eq k _ _ _) (.tt (by rw [he, hr]; rfl) (.pure _)), fun z => absurd z (by decide), fun z => ?_⟩
      have := z.need he
      rw [hr] at this
      cases this
    | false => exact ⟨0, .step (fun k => flat_valueFault_eq k _ _ _) (.ff (by rw [he, hr]; rfl) (.tt he (.pure _))), fun _ => ⟨fun _ => hr, (fun z => by rw [he] at z; cases z), (fun z => by rw [he] at z; cases z), (fun z => by rw [he] at z; cases z)⟩, fun _ => rfl⟩
  | false =>
    obtain ⟨t, t1, t2⟩ := ev_isVal b c hc he
    cases t with
    | false =>
      refine ⟨6, .step (fun k => flat_valueFault_eq k _ _ _) (.ff (by rw [he]; rfl) (.ff he (.bind t1 (.pure _)))), fun z => absurd z (by decide), fun z => ?_⟩
      have := t2.2 (z.isV he)
      cases this
    | true =>
      have hv := t2.1 rfl
      obtain ⟨w, w1, _⟩ := ev_wrF a b hb c hc he hv
      by_cases hw : (w.size : Int) > b.2.2.1
      · refine ⟨16, .step (fun k => flat_valueFault_eq k _ _ _) (.ff (by rw [he]; rfl) (.ff he (.bind t1 (.ff rfl (.bind w1 (.ck hw (.pure _))))))), fun z => absurd z (by decide), fun z => ?_⟩
        have := z.len he w w1
        omega
      · have hlen : ∀ w' : ByteArray, Ev (fun k => flat_written k a b c) w' → (w'.size : Int) ≤ b.2.2.1 := fun w' h' => by
          rw [← Ev.uniq w1 h']
          omega
        have hj : Ev (fun k => strings_IndexByte k c a.1) (Lib.indexByte (L c) a.1.toNat.toUInt8) := .step (fun k => strings_IndexByte_eq k _ _) (.bind (x := Lib.indexByte (L c) a.1.toNat.toUInt8) (.off (n := 0) fun k => by rw [stringslite_IndexByte_eq]) (.pure _))
        by_cases hg : a.1 ≠ 0 ∧ a.2.1 = 0
        · have hg' : (cond (a.1 != 0) (a.2.1 == 0) false) = true := by
            have h1 : (a.1 != 0) = true := by simpa using hg.1
            rw [h1, hg.2]; rfl
          by_cases hx : Lib.indexByte (L c) a.1.toNat.toUInt8 ≥ 0
          · refine ⟨12, .step (fun k => flat_valueFault_eq k _ _ _) (.ff (by rw [he]; rfl) (.ff he (.bind t1 (.ff rfl (.bind w1 (.nk hw (.bind (.tt hg' hj) (.tt (by rw [hg', decide_eq_true hx]; rfl) (.pure _))))))))), fun z => absurd z (by decide), fun z => ?_⟩
            have := z.bar he hg.1 hg.2
            omega
          · exact ⟨0, .step (fun k => flat_valueFault_eq k _ _ _) (.ff (by rw [he]; rfl) (.ff he (.bind t1 (.ff rfl (.bind w1 (.nk hw (.bind (.tt hg' hj) (.ff (by rw [hg', decide_eq_false hx]; rfl) (.pure _))))))))), fun _ => ⟨(fun z => by rw [he] at z; cases z), fun _ => hv, fun _ => hlen, fun _ _ _ => by omega⟩, fun _ => rfl⟩
        · have hg' : (cond (a.1 != 0) (a.2.1 == 0) false) = false := by
            by_cases h1 : a.1 = 0
            · rw [h1]; rfl
            · have h1' : (a.1 != 0) = true := by simpa using h1
              have h2 : ¬ a.2.1 = 0 := fun z => hg ⟨h1, z⟩
              have h2' : (a.2.1 == 0) = false := by simpa using h2
              rw [h1', h2']; rfl
          exact ⟨0, .step (fun k => flat_valueFault_eq k _ _ _) (.ff (by rw [he]; rfl) (.ff he (.bind t1 (.ff rfl (.bind w1 (.nk hw (.bind (x := 0) (.ff hg' (.pure _)) (.ff (by rw [hg']; rfl) (.pure _))))))))), fun _ => ⟨(fun z => by rw [he] at z; cases z), fun _ => hv, fun _ => hlen, fun _ q1 q2 => absurd ⟨q1, q2⟩ hg⟩, fun _ => rfl⟩
end Go.Proofs.YtpgbbmdfnmjjjaaGreatDoor.Eq
namespace Go.Proofs.YtpgbbmdfnmjjjaaGreatDoor.Eq
open Go Go.Ra
set_option linter.unusedVariables false
def RowVF (a : Fmt) (b : Row) : Prop := ∃ i : Nat, ∃ hi : i < a.2.2.1.length, kOf a.2.2.1 b.1 = i ∧ b.2.length = (a.2.2.1[i]).2.1.length ∧ ∀ j (hj : j < b.2.length) (hj' : j < (a.2.2.1[i]).2.1.length), VF a ((a.2.2.1[i]).2.1[j]) (b.2[j])
theorem ev_rowVF (a : Fmt) (b : Row) (ha : FitF a) (hok : FmtOk a) (hb : FitR b) : ∃ y : Int × Int, Ev (fun k => flat_checkRow k a b) y ∧ (y.2 = 0 → RowVF a b) ∧ (RowVF a b → y.2 = 0) := by
  by_cases h0 : kOf a.2.2.1 b.1 < 0
  · refine ⟨(0, 9), .step (fun k => flat_checkRow_eq k _ _) (.bind (ev_kindAt a _ ha.n) ?_), fun z => absurd z (by decide), fun ⟨i, hi, hk, _⟩ => by omega⟩
    rw [kAt_no h0]
    exact .tt rfl (.pure _)
  · obtain ⟨i, hi, hk, _⟩ := ixI_get (show 0 ≤ ixI (tagP b.1) a.2.2.1 from Int.not_lt.1 h0)
    have hk' : kOf a.2.2.1 b.1 = (i : Int) := hk
    have hmem := List.getElem_mem hi
    have hcl := hok.len _ hmem
    have hcol := hok.col _ hmem
    have hA : Ev (fun k => flat_kindAt k a b.1) (a.2.2.1[i], true) := (ev_kindAt a _ ha.n).to (kAt_at hi hk')
    by_cases hlen : b.2.length = (a.2.2.1[i]).2.1.length
    · have key : ∃ y : Int × Int, Ev (fun k => flat_checkRow_c7 k a b (a.2.2.1[i]).2.1 ((a.2.2.1[i]).2.1.length : Int) 0) y ∧ Ev (fun k => flat_checkRow_c7 k a b (a.2.2.1[i]).2.1 ((a.2.2.1[i]).2.1.length : Int) 0) y ∧
          ((y.2 = 0 → ∀ j, 0 ≤ j → ∀ (hj : j < b.2.length) (hj' : j < (a.2.2.1[i]).2.1.length), VF a ((a.2.2.1[i]).2.1[j]) (b.2[j])) ∧ ((∀ j, 0 ≤ j → ∀ (hj : j < b.2.length) (hj' : j < (a.2.2.1[i]).2.1.length), VF a ((a.2.2.1[i]).2.1[j]) (b.2[j])) → y.2 = 0)) := by
        refine ev_up2 b.2.length (fun (m : Nat) (y : Int × Int) => (y.2 = 0 → ∀ j, m ≤ j → ∀ (hj : j < b.2.length) (hj' : j < (a.2.2.1[i]).2.1.length), VF a ((a.2.2.1[i]).2.1[j]) (b.2[j])) ∧ ((∀ j, m ≤ j → ∀ (hj : j < b.2.length) (hj' : j < (a.2.2.1[i]).2.1.length), VF a ((a.2.2.1[i]).2.1[j]) (b.2[j])) → y.2 = 0)) (fun k j => flat_checkRow_c7 k a b (a.2.2.1[i]).2.1 ((a.2.2.1[i]).2.1.length : Int) j) (fun k j => flat_checkRow_c7 k a b (a.2.2.1[i]).2.1 ((a.2.2.1[i]).2.1.length : Int) j) (fun m hm h => ?_) ?_
        · obtain ⟨y, _, y2, y3, y4⟩ := h
          have hm' : m < (a.2.2.1[i]).2.1.length := by omega
          obtain ⟨f, f1, f2⟩ := ev_vf a ((a.2.2.1[i]).2.1[m]) (hcol _ (List.getElem_mem hm')) (b.2[m]) (hb.s _ (List.getElem_mem hm))
          have he : Ev (fun k => flat_checkRow_c7 k a b (a.2.2.1[i]).2.1 ((a.2.2.1[i]).2.1.length : Int) ((m : Nat) : Int)) (cond (f != 0) ((m : Int), f) y) := by
            refine .step (fun k => flat_checkRow_c7_eq k _ _ _ _ _) (.ck (by omega) (.ck (by omega) (.ck (by omega) (.ck (by omega) (.ck (by omega) ?_)))))
            rw [getD_at hm, getD_at hm', wj hm hb.n, col_eta]
            exact .bind f1 (.sel rfl (fun _ => .pure _) fun _ => y2)
          refine ⟨_, he, he, fun z j hj1 hj2 hj3 => ?_, fun z => ?_⟩
          · cases hf : (f != 0) with
            | true =>
              rw [hf] at z
              have z' : f = 0 := z
              rw [z'] at hf
              cases hf
            | false =>
              rw [hf] at z
              have hf0 : f = 0 := by simpa using hf
              by_cases e : j = m
              · subst e; exact f2.1 hf0
              · exact y3 z j (by omega) hj2 hj3
          · rw [f2.2 (z m (Nat.le_refl _) hm hm')]
            exact y4 fun j q1 q2 q3 => z j (by omega) q2 q3
        · have he : Ev (fun k => flat_checkRow_c7 k a b (a.2.2.1[i]).2.1 ((a.2.2.1[i]).2.1.length : Int) ((b.2.length : Nat) : Int)) (0, 0) := .step (fun k => flat_checkRow_c7_eq k _ _ _ _ _) (.nk (by omega) (.pure _))
          exact ⟨(0, 0), he, he, fun _ j hj1 hj2 => absurd hj2 (by omega), fun _ => rfl⟩
      obtain ⟨y, y1, _, y3, y4⟩ := key
      refine ⟨y, .step (fun k => flat_checkRow_eq k _ _) (.bind hA (.ff rfl (.ff (by rw [len_eq]; exact decide_eq_false (fun z => z hlen)) y1))), fun z => ⟨i, hi, hk', hlen, fun j hj hj' => y3 z j (Nat.zero_le _) hj hj'⟩, fun ⟨i', hi', hk2, _, hv⟩ => y4 fun j _ q2 q3 => ?_⟩
      have : i' = i := by omega
      subst this
      exact hv j q2 q3
    · refine ⟨(0, 3), .step (fun k => flat_checkRow_eq k _ _) (.bind hA (.ff rfl (.tt (by rw [len_eq]; exact decide_eq_true hlen) (.pure _)))), fun z => absurd z (by decide), fun ⟨i', hi', hk2, hl2, _⟩ => ?_⟩
      have : i' = i := by omega
      subst this
      exact absurd hl2 hlen
theorem ev_rowsVF (a : Fmt) (l : List Row) (ha : FitF a) (hok : FmtOk a) (hl : FitRs l) : ∃ y : Int × Int, Ev (fun k => flat_checkRows k a l) y ∧ (y.2 = 0 → ∀ r ∈ l, RowVF a r) ∧ ((∀ r ∈ l, RowVF a r) → y.2 = 0) := by
  have key : ∃ y : Int × Int, Ev (fun k => flat_checkRows_c2 k a l (l.length : Int) 0) y ∧ Ev (fun k => flat_checkRows_c2 k a l (l.length : Int) 0) y ∧ ((y.2 = 0 → ∀ j, 0 ≤ j → ∀ hj : j < l.length, RowVF a l[j]) ∧ ((∀ j, 0 ≤ j → ∀ hj : j < l.length, RowVF a l[j]) → y.2 = 0)) := by
    refine ev_up2 l.length (fun (m : Nat) (y : Int × Int) => (y.2 = 0 → ∀ j, m ≤ j → ∀ hj : j < l.length, RowVF a l[j]) ∧ ((∀ j, m ≤ j → ∀ hj : j < l.length, RowVF a l[j]) → y.2 = 0)) (fun k j => flat_checkRows_c2 k a l (l.length : Int) j) (fun k j => flat_checkRows_c2 k a l (l.length : Int) j) (fun m hm h => ?_) ?_
    · obtain ⟨y, _, y2, y3, y4⟩ := h
      obtain ⟨f, f1, f2, f3⟩ := ev_rowVF a l[m] ha hok (hl.r _ (List.getElem_mem hm))
      have he : Ev (fun k => flat_checkRows_c2 k a l (l.length : Int) ((m : Nat) : Int)) (cond (f.2 != 0) ((m : Int), f.2) y) := by
        refine .step (fun k => flat_checkRows_c2_eq k _ _ _ _) (.ck (by omega) (.ck (by omega) (.ck (by omega) ?_)))
        rw [getD_at hm, wj hm hl.n]
        exact .bind f1 (.sel rfl (fun _ => .pure _) fun _ => y2)
      refine ⟨_, he, he, fun z j hj1 hj2 => ?_, fun z => ?_⟩
      · cases hf : (f.2 != 0) with
        | true =>
          rw [hf] at z
          have z' : f.2 = 0 := z
          rw [z'] at hf
          cases hf
        | false =>
          rw [hf] at z
          have hf0 : f.2 = 0 := by simpa using hf
          by_cases e : j = m
          · subst e; exact f2 hf0
          · exact y3 z j (by omega) hj2
      · rw [f3 (z m (Nat.le_refl _) hm)]
        exact y4 fun j q1 q2 => z j (by omega) q2
    · have he : Ev (fun k => flat_checkRows_c2 k a l (l.length : Int) ((l.length : Nat) : Int)) (0, 0) := .step (fun k => flat_checkRows_c2_eq k _ _ _ _) (.nk (by omega) (.pure _))
      exact ⟨(0, 0), he, he, fun _ j hj1 hj2 => absurd hj2 (by omega), fun _ => rfl⟩
  obtain ⟨y, y1, _, y3, y4⟩ := key
  refine ⟨y, .step (fun k => flat_checkRows_eq k _ _) y1, fun z r hr => ?_, fun z => y4 fun j _ hj => z _ (List.getElem_mem hj)⟩
  obtain ⟨j, hj, rfl⟩ := List.getElem_of_mem hr
  exact y3 z j (Nat.zero_le _) hj
def valN (kd : Knd) (r : Row) (t : ByteArray) : ByteArray := if 0 ≤ cOf kd.2.1 t then r.2.getD (cOf kd.2.1 t).toNat (bs []) else bs []
end Go.Proofs.YtpgbbmdfnmjjjaaGreatDoor.Eq
namespace Go.Proofs.YtpgbbmdfnmjjjaaGreatDoor.Eq
open Go Go.Ra
set_option linter.unusedVariables false
def midB (a : Fmt) (r : Row) : Bool := cond (cond (eqS a.2.2.2.1 (bs [])) true (!(eqS r.1 a.2.2.2.1))) (cond (eqS a.2.2.2.2.1 (bs [])) true (!(eqS r.1 a.2.2.2.2.1))) false
def midL (a : Fmt) (l : List Row) : List Row := l.filter (midB a)
theorem ev_inner (a : Fmt) (l : List Row) (hn : l.length ≤ 3518437208780) : Ev (fun k => flat_inner k a l) (midL a l) := by
  refine .step (fun k => flat_inner_eq k _ _) ?_
  have key : ∀ (m q : Nat) (acc : List Row), l.length - q = m → q ≤ l.length → acc.length ≤ q → Ev (fun k => flat_inner_c3 k a acc l (l.length : Int) (q : Int)) (acc ++ midL a (l.drop q)) := by
    intro m
    induction m with
    | zero =>
      intro q acc hm hq hacc
      rw [List.drop_of_length_le (by omega)]
      exact .step (fun k => flat_inner_c3_eq k _ _ _ _ _) (.nk (by omega) (.to (.pure _) (by simp [midL])))
    | succ m ih =>
      intro q acc hm hq hacc
      have hq3 : q < l.length := by omega
      refine .step (fun k => flat_inner_c3_eq k _ _ _ _ _) (.ck (by omega) (.ck (by omega) (.ck (by omega) ?_)))
      rw [getD_at hq3, wj hq3 (by omega), dropR hq3]
      cases hb : midB a l[q] with
      | true =>
        have e : acc ++ midL a (l[q] :: l.drop (q + 1)) = (acc ++ [l[q]]) ++ midL a (l.drop (q + 1)) := by
          unfold midL
          rw [List.filter_cons, hb, if_pos rfl, List.append_assoc]
          rfl
        rw [e]
        exact .tt hb (.ck (by omega) (ih (q + 1) (acc ++ [l[q]]) (by omega) (by omega) (by rw [List.length_append]; simp; omega)))
      | false =>
        have e : midL a (l[q] :: l.drop (q + 1)) = midL a (l.drop (q + 1)) := by
          unfold midL
          rw [List.filter_cons, hb, if_neg (by decide)]
        rw [e]
        exact .ff hb (ih (q + 1) acc (by omega) (by omega) (by omega))
  exact key _ 0 [] rfl (Nat.zero_le _) (Nat.le_refl _)
theorem ev_inner1 (a : Fmt) (l : List Row) (hn : l.length ≤ 3518437208780) : Ev (fun k => flat_inner_1 k a l) (midL a l) := by
  refine .step (fun k => flat_inner_1_eq k _ _) ?_
  have key : ∀ (m q : Nat) (acc : List Row), l.length - q = m → q ≤ l.length → acc.length ≤ q → Ev (fun k => flat_inner_1_c3 k a acc l (l.length : Int) (q : Int)) (acc ++ midL a (l.drop q)) := by
    intro m
    induction m with
    | zero =>
      intro q acc hm hq hacc
      rw [List.drop_of_length_le (by omega)]
      exact .step (fun k => flat_inner_1_c3_eq k _ _ _ _ _) (.nk (by omega) (.to (.pure _) (by simp [midL])))
    | succ m ih =>
      intro q acc hm hq hacc
      have hq3 : q < l.length := by omega
      refine .step (fun k => flat_inner_1_c3_eq k _ _ _ _ _) (.ck (by omega) (.ck (by omega) (.ck (by omega) ?_)))
      rw [getD_at hq3, wj hq3 (by omega), dropR hq3]
      cases hb : midB a l[q] with
      | true =>
        have e : acc ++ midL a (l[q] :: l.drop (q + 1)) = (acc ++ [l[q]]) ++ midL a (l.drop (q + 1)) := by
          unfold midL
          rw [List.filter_cons, hb, if_pos rfl, List.append_assoc]
          rfl
        rw [e]
        exact .tt hb (.ck (by omega) (ih (q + 1) (acc ++ [l[q]]) (by omega) (by omega) (by rw [List.length_append]; simp; omega)))
      | false =>
        have e : midL a (l[q] :: l.drop (q + 1)) = midL a (l.drop (q + 1)) := by
          unfold midL
          rw [List.filter_cons, hb, if_neg (by decide)]
        rw [e]
        exact .ff hb (ih (q + 1) acc (by omega) (by omega) (by omega))
  exact key _ 0 [] rfl (Nat.zero_le _) (Nat.le_refl _)
theorem midL_append (a : Fmt) (l m : List Row) : midL a (l ++ m) = midL a l ++ midL a m := List.filter_append ..
def valT (a : Fmt) (d : ByteArray) (r : Row) : ByteArray := valN (kAt a.2.2.1 r.1).1 r d
def offT (a : Fmt) (d : ByteArray) (r : Row) : Bool := cond (decide (cOf (kAt a.2.2.1 r.1).1.2.1 d ≥ 0)) (((kAt a.2.2.1 r.1).1.2.1.getD (cOf (kAt a.2.2.1 r.1).1.2.1 d).toNat col0).2.1 != 2) false
theorem ev_offT (a : Fmt) (d : ByteArray) (r : Row) (ha : FitF a) : Ev (fun k => flat_sumFault_1_r k r a) (offT a a.2.2.2.2.2.2 r) := by
  have hkc := kAt_len a.2.2.1 r.1 ha.c
  have hlt := (ixI_lt (colP a.2.2.2.2.2.2) (kAt a.2.2.1 r.1).1.2.1).2
  have hlt' : cOf (kAt a.2.2.1 r.1).1.2.1 a.2.2.2.2.2.2 < (kAt a.2.2.1 r.1).1.2.1.length := hlt
  exact .step (fun k => flat_sumFault_1_r_eq k _ _) (.bind (ev_kindAt a _ ha.n) (.bind (ev_columnAt _ _ hkc) (.tt (bor' fun z => z) (.tt (bor' fun _ => by simpa using hlt') (.pure _)))))
theorem ev_sumFault (a : Fmt) (l : List Row) (ha : FitF a) (hn : l.length ≤ 3518437208780) : ∃ t : Bool, Ev (fun k => flat_sumFault k a l) t ∧ (t = false ↔ (eB a.2.2.2.2.2.2 = true ∨ ∀ r ∈ l, offT a a.2.2.2.2.2.2 r = false)) := by
  have hS : Ev (fun k => slices_ContainsFunc_Lapi_Row_api_Row_of_flat_sumFault_1 k l a) (decide (ixI (offT a a.2.2.2.2.2.2) l ≥ 0)) := by
    refine .step (fun k => slices_ContainsFunc_Lapi_Row_api_Row_of_flat_sumFault_1_eq k _ _) (.bind (x := ixI (offT a a.2.2.2.2.2.2) l) (.step (fun k => slices_IndexFunc_Lapi_Row_api_Row_of_flat_sumFault_1_eq k _ _) ?_) (.pure _))
    refine ev_loop _ l (fun k i => slices_IndexFunc_Lapi_Row_api_Row_of_flat_sumFault_1_c2 k l a (l.length : Int) i) (fun i hi y q1 q2 => ?_) (.step (fun k => slices_IndexFunc_Lapi_Row_api_Row_of_flat_sumFault_1_c2_eq k _ _ _ _) (.nk (by omega) (.pure _)))
    refine .step (fun k => slices_IndexFunc_Lapi_Row_api_Row_of_flat_sumFault_1_c2_eq k _ _ _ _) (.ck (by omega) (.ck (by omega) (.ck (by omega) ?_)))
    rw [getD_at hi, wj hi (by omega)]
    exact .bind (ev_offT a a.2.2.2.2.2.2 l[i] ha) (.cond (fun z => .to (.pure _) (q1 z).symm) q2)
  refine ⟨cond (!eB a.2.2.2.2.2.2) (decide (ixI (offT a a.2.2.2.2.2.2) l ≥ 0)) false, .step (fun k => flat_sumFault_eq k _ _) (.bind (.gd (e := !eB a.2.2.2.2.2.2) rfl fun _ => hS) (.to (.pure _) ?_)), ?_⟩
  · show cond (!eB a.2.2.2.2.2.2) _ false = _
    cases eB a.2.2.2.2.2.2 <;> rfl
  · cases he : eB a.2.2.2.2.2.2 with
    | true => exact ⟨fun _ => .inl rfl, fun _ => rfl⟩
    | false =>
      constructor
      · intro z
        have := of_decide_eq_false (show decide (ixI (offT a a.2.2.2.2.2.2) l ≥ 0) = false from z)
        exact .inr (ixI_none.1 (by omega))
      · rintro (z | z)
        · cases z
        · exact decide_eq_false (by have := ixI_none.2 z; omega)
def RowSm (a : Fmt) (r : Row) : Prop := ∃ i : Nat, ∃ hi : i < a.2.2.1.length, kOf a.2.2.1 r.1 = i ∧ r.2.length = (a.2.2.1[i]).2.1.length ∧ ∀ j (hj : j < r.2.length) (hj' : j < (a.2.2.1[i]).2.1.length), eqS (r.2[j]) (bs []) = false → ((a.2.2.1[i]).2.1[j]).2.1 = 2 → (rtx (L (r.2[j]))).2 = 0
theorem RowVF.sm {a : Fmt} {r : Row} (h : RowVF a r) : RowSm a r := by
  obtain ⟨i, hi, h1, h2, h3⟩ := h
  exact ⟨i, hi, h1, h2, fun j hj hj' z w => ((h3 j hj hj').isV z).num w |>.1⟩
theorem RowOk.sm {a : Fmt} {r : Row} (h : RowOk a r) : RowSm a r := by
  obtain ⟨i, hi, h1, h2, h3⟩ := h
  refine ⟨i, hi, h1, h2, fun j hj hj' z w => ?_⟩
  obtain ⟨_, _, _, _, _, _, k⟩ := h3 j hj hj'
  exact k z w
theorem ev_sumAll (a : Fmt) (l : List Row) (d : ByteArray) (ha : FitF a) (hl : FitRs l) (hn : l.length ≤ 3518437208780) (hrows : ∀ r ∈ l, RowSm a r) (hoff : ∀ r ∈ l, offT a d r = false) :
    Ev (fun k => flat_sumOf k a l (bs []) d) (fwF 9 (sumL (l.map (valT a d)))) := by
  -- what is known of one value
  have one : ∀ r ∈ l, ∃ i, ∃ hi : i < a.2.2.1.length, kOf a.2.2.1 r.1 = (i : Int) ∧ ((cOf (a.2.2.1[i]).2.1 d < 0 ∧ valT a d r = bs []) ∨ ∃ j, ∃ hj : j < (a.2.2.1[i]).2.1.length, ∃ hjr : j < r.2.length, cOf (a.2.2.1[i]).2.1 d = (j : Int) ∧ valT a d r = r.2[j] ∧ (r.2[j]).size ≤ 140737488351232 ∧ (eqS (r.2[j]) (bs []) = false → (rtx (L (r.2[j]))).2 = 0)) := fun r hr => by
    obtain ⟨i, hi, hk, hlen, hv⟩ := hrows r hr
    refine ⟨i, hi, hk, ?_⟩
    have eA : (kAt a.2.2.1 r.1).1 = a.2.2.1[i] := by rw [kAt_at hi hk]
    by_cases hc : cOf (a.2.2.1[i]).2.1 d < 0
    · left
      refine ⟨hc, ?_⟩
      unfold valT valN
      rw [eA, if_neg (by omega)]
    · right
      obtain ⟨j, hj, hjc, _⟩ := ixI_get (show 0 ≤ ixI (colP d) (a.2.2.1[i]).2.1 from Int.not_lt.1 hc)
      have hjc' : cOf (a.2.2.1[i]).2.1 d = (j : Int) := hjc
      have hjr : j < r.2.length := by omega
      refine ⟨j, hj, hjr, hjc', ?_, (hl.r r hr).s _ (List.getElem_mem hjr), fun z => ?_⟩
      · unfold valT valN
        rw [eA, hjc', if_pos (by omega), getD_at hjr]
      · have ho := hoff r hr
        unfold offT at ho
        rw [eA, hjc', decide_eq_true (show ((j : Nat) : Int) ≥ 0 by omega), getD_at hj] at ho
        have h2 : ((a.2.2.1[i]).2.1[j]).2.1 = 2 := by simpa using ho
        exact hv j hjr hj z h2
  have dec : ∀ q, DecL ((l.drop q).map (valT a d)) := fun q v hv => by
    obtain ⟨r, hr, rfl⟩ := List.mem_map.1 hv
    obtain ⟨i, hi, _, h | ⟨j, hj, hjr, _, e, hs, hz⟩⟩ := one r (List.mem_of_mem_drop hr)
    · rw [h.2]
      exact ⟨Nat.zero_le _, fun z => by rw [eqS_self] at z; cases z⟩
    · rw [e]
      exact ⟨hs, hz⟩
  have key : ∀ (m q : Nat) (S : Int), l.length - q = m → q ≤ l.length → S.natAbs ≤ q * 10 ^ 35 → S + sumL ((l.drop q).map (valT a d)) = sumL (l.map (valT a d)) → Ev (fun k => flat_sumOf_c3 k (bs []) d a (0, 0) (W S) l (l.length : Int) (q : Int)) (fwF 9 (sumL (l.map (valT a d)))) := by
    intro m
    induction m with
    | zero =>
      intro q S hq hq2 hb hS
      rw [List.drop_of_length_le (by omega)] at hS
      have e : S = sumL (l.map (valT a d)) := by simpa [sumL] using hS
      rw [← e]
      have hSm : Sm S := .of (Nat.le_trans hb (Nat.le_trans (Nat.mul_le_mul_right _ (show q ≤ 3518437208780 by omega)) (by decide)))
      exact .step (fun k => flat_sumOf_c3_eq k _ _ _ _ _ _ _ _) (.nk (by omega) (.ret (.step (fun k => amount_Fewest_eq k _ _) (.bind (ev_Of 10 (by decide) (by decide)) (ev_fewest (0, 0) 9 S (by decide) hSm))) rfl))
    | succ m ih =>
      intro q S hq hq2 hb hS
      have hq3 : q < l.length := by omega
      have hb' : S.natAbs ≤ (q + 1) * 10 ^ 35 := Nat.le_trans hb (Nat.mul_le_mul_right _ (Nat.le_succ q))
      obtain ⟨i, hi, hk, hcase⟩ := one _ (List.getElem_mem hq3)
      have hmem := List.getElem_mem hi
      have hA : Ev (fun k => flat_kindAt k a (l[q]).1) (a.2.2.1[i], true) := (ev_kindAt a _ ha.n).to (kAt_at hi hk)
      have hC := ev_columnAt (a.2.2.1[i]) d (ha.c _ hmem)
      rw [dropR hq3, List.map_cons, sumL_cons] at hS
      refine .step (fun k => flat_sumOf_c3_eq k _ _ _ _ _ _ _ _) (.ck (by omega) (.ck (by omega) (.ck (by omega) ?_)))
      rw [getD_at hq3, wj hq3 (by omega), eqS_self]
      rcases hcase with ⟨hc, e⟩ | ⟨j, hj, hjr, hjc, e, hs, hz⟩
      · rw [e, eqS_self, if_pos rfl] at hS
        refine .bind hA (.bind hC ?_)
        rw [decide_eq_true hc]
        exact .tt rfl (.tt rfl (.tt rfl (ih (q + 1) S (by omega) (by omega) hb' (by omega))))
      · rw [e] at hS
        refine .bind hA (.bind (hC.to hjc) ?_)
        rw [decide_eq_false (by omega : ¬ ((j : Nat) : Int) < 0), getD_at hjr]
        refine .tt (by simp) (.tt (by simp; omega) ?_)
        cases hem : eqS ((l[q]).2[j]) (bs []) with
        | true =>
          rw [hem, if_pos rfl] at hS
          exact .tt rfl (ih (q + 1) S (by omega) (by omega) hb' (by omega))
        | false =>
          rw [hem, if_neg (by decide)] at hS
          have hsz := size_L ((l[q]).2[j])
          have hok2 := rtx_ok _ (hz hem)
          have hr := ev_aRead (L ((l[q]).2[j])) (by omega)
          rw [B_L] at hr
          have hsc := sc_abs (p := 9) hok2 (by decide)
          have hS1 : Sm S := .of (Nat.le_trans hb (Nat.le_trans (Nat.mul_le_mul_right _ (show q ≤ 3518437208780 by omega)) (by decide)))
          have hS2 : Sm (sc (rtx (L ((l[q]).2[j]))).1 9) := .of (Nat.le_trans hsc (Nat.pow_le_pow_right (by decide) (by decide)))
          refine .ff rfl (.ck (by omega) (.ck (by omega) (.bind hr (.bind (ev_Value _ hok2) (.bind (ev_Plus S _ hS1 hS2) (ih (q + 1) _ (by omega) (by omega) ?_ (by omega)))))))
          rw [Nat.succ_mul]
          omega
  refine .step (fun k => flat_sumOf_eq k _ _ _ _) (.bind (ev_Of 0 (by decide) (by decide)) ?_)
  exact key _ 0 0 rfl (Nat.zero_le _) (by simp) (by rw [List.drop_zero, Int.zero_add])
theorem ev_told2 {d : Int × Int} (h : okD d) : Ev (fun k => amount_Told k d) (B (txL d)) := by
  have := ev_aText d
  rw [if_pos h] at this
  exact .step (fun k => amount_Told_eq k _) (.bind this (.pure _))
theorem ev_cloneT (l : List ByteArray) (hn : l.length < 8796093022208) : Ev (fun k => slices_Clone_Lstring_string k l) l := by
  cases l with
  | nil => exact .step (fun k => slices_Clone_Lstring_string_eq k _) (.pure _)
  | cons x t => exact .step (fun k => slices_Clone_Lstring_string_eq k _) (.ff rfl (.ck (by omega) (.pure _)))
theorem ev_cloneR (l : List Row) (hn : l.length ≤ 2000) (hl : FitRs l) (h8 : ∀ r ∈ l, r.2.length < 8796093022208) : Ev (fun k => flat_cloneRows k l) l := by
  have h0 : Ev (fun k => slices_Clone_Lapi_Row_api_Row k l) l := by
    cases l with
    | nil => exact .step (fun k => slices_Clone_Lapi_Row_api_Row_eq k _) (.pure _)
    | cons x t => exact .step (fun k => slices_Clone_Lapi_Row_api_Row_eq k _) (.ff rfl (.ck (by omega) (.pure _)))
  refine .step (fun k => flat_cloneRows_eq k _) (.bind h0 ?_)
  refine ev_up l.length (fun _ => l) (fun k i => flat_cloneRows_c3 k l (l.length : Int) i) (fun i hi h => ?_) ?_
  · refine .step (fun k => flat_cloneRows_c3_eq k _ _ _) (.ck (by omega) (.ck (by omega) (.ck (by omega) ?_)))
    rw [getD_at hi, wj hi (by omega)]
    refine .bind (ev_cloneT _ (h8 _ (List.getElem_mem hi))) (.ck (by omega) (.ck (by omega) ?_))
    have e : l.set ((i : Nat) : Int).toNat ((l[i]).1, (l[i]).2) = l := by
      rw [Int.toNat_natCast]
      exact List.set_getElem_self hi
    rw [e]
    exact h
  · exact .step (fun k => flat_cloneRows_c3_eq k _ _ _) (.nk (by omega) (.pure _))
end Go.Proofs.YtpgbbmdfnmjjjaaGreatDoor.Eq
namespace Go.Proofs.YtpgbbmdfnmjjjaaGreatDoor.Eq
open Go Go.Ra
set_option linter.unusedVariables false
def UpF (a : Fmt) : Prop := ∀ i (hi : i < a.2.2.1.length), eB (a.2.2.1[i]).2.2.2 = true ∨ ∃ j : Nat, j < i ∧ kOf a.2.2.1 (a.2.2.1[i]).2.2.2 = (j : Int)
theorem fmt_up {a : Fmt} (h : fmtF a = 0) : UpF a := by
  unfold fmtF at h
  obtain ⟨_, h⟩ := cond0 (by decide) h
  obtain ⟨_, h⟩ := cond0 (by decide) h
  obtain ⟨_, h⟩ := cond0 (by decide) h
  obtain ⟨_, h⟩ := cond0 (by decide) h
  obtain ⟨h3, _⟩ := nz_zero h
  intro i hi
  have hk := h3 i (Nat.zero_le _) (by omega)
  rw [getD_nat hi] at hk
  unfold kndF at hk
  obtain ⟨_, hk⟩ := cond0 (by decide) hk
  obtain ⟨_, hk⟩ := cond0 (by decide) hk
  obtain ⟨_, hk⟩ := cond0 (by decide) hk
  obtain ⟨_, hk⟩ := cond0 (by decide) hk
  obtain ⟨_, hk⟩ := nz_zero hk
  unfold kndT at hk
  obtain ⟨_, hk⟩ := cond0 (by decide) hk
  obtain ⟨hk, _⟩ := cond0 (by decide) hk
  cases he : eB (a.2.2.1[i]).2.2.2 with
  | true => exact .inl rfl
  | false =>
    unfold eB at he
    rw [he] at hk
    simp only [Bool.not_false, Bool.true_and, Bool.or_eq_false_iff, decide_eq_false_iff_not] at hk
    exact .inr ⟨(kOf a.2.2.1 (a.2.2.1[i]).2.2.2).toNat, by omega, by omega⟩
theorem fmt_ends {a : Fmt} (h : fmtF a = 0) : endF a = 0 := by
  unfold fmtF at h
  obtain ⟨_, h⟩ := cond0 (by decide) h
  obtain ⟨_, h⟩ := cond0 (by decide) h
  obtain ⟨_, h⟩ := cond0 (by decide) h
  obtain ⟨_, h⟩ := cond0 (by decide) h
  exact (nz_zero h).2
def undB (a : Fmt) (top : ByteArray) : Nat → ByteArray → Bool
  | 0, _ => false
  | f + 1, tag => cond (eqS (kAt a.2.2.1 tag).1.2.2.2 (bs [])) false (cond (eqS (kAt a.2.2.1 tag).1.2.2.2 top) true (undB a top f (kAt a.2.2.1 tag).1.2.2.2))
theorem ev_und {a : Fmt} (ha : FitF a) (hu : UpF a) {top : ByteArray} (ht : eqS top (bs []) = false) : ∀ (f : Nat) (tag : ByteArray) (i : Nat) (hi : i < a.2.2.1.length), kOf a.2.2.1 tag = (i : Int) → i < f → eqS tag (bs []) = false →
    Ev (fun k => interchangeref6_isUnder_c1 k tag top a) (undB a top f tag) ∧ Ev (fun k => flat_isUnder_c2 k top a a.2.2.1[i] true) (undB a top f tag) := by
  intro f
  induction f with
  | zero => intro tag i hi hk hf; omega
  | succ f ih =>
    intro tag i hi hk hf hne
    unfold undB
    rw [kAt_at hi hk]
    have start : ∀ {y : Bool}, Ev (fun k => cond (eqS (a.2.2.1[i]).2.2.2 top) (some true) (interchangeref6_isUnder_c1 k (a.2.2.1[i]).2.2.2 top a)) y → Ev (fun k => interchangeref6_isUnder_c1 k tag top a) y := fun {y} hy => by
      refine .step (fun k => interchangeref6_isUnder_c1_eq k _ _ _) (.tt (by rw [hne]; rfl) (.bind ((ev_rkindOf a tag ha.n).to hk) (.ck (by omega) (.ck (by omega) ?_))))
      rw [getD_at hi]
      exact hy
    cases he : eqS (a.2.2.1[i]).2.2.2 (bs []) with
    | true =>
      refine ⟨start (.ff ?_ (.step (fun k => interchangeref6_isUnder_c1_eq k _ _ _) (.ff (by rw [he]; rfl) (.pure _)))), .step (fun k => flat_isUnder_c2_eq k _ _ _ _) (.ff (by rw [he]; rfl) (.pure _))⟩
      rw [(eqS_iff _ _).1 he]
      refine eqS_ne fun z => ?_
      rw [← z, eqS_self] at ht
      cases ht
    | false =>
      have fstart : ∀ {y : Bool}, Ev (fun k => cond (eqS (a.2.2.1[i]).2.2.2 top) (some true) (flat_isUnder_c7 k top a a.2.2.1[i])) y → Ev (fun k => flat_isUnder_c2 k top a a.2.2.1[i] true) y := fun {y} hy =>
        .step (fun k => flat_isUnder_c2_eq k _ _ _ _) (.tt (by rw [he]; rfl) hy)
      cases hp : eqS (a.2.2.1[i]).2.2.2 top with
      | true => exact ⟨start (.tt hp (.pure _)), fstart (.tt hp (.pure _))⟩
      | false =>
        rcases hu i hi with h | ⟨j, hj, hkj⟩
        · unfold eB at h
          rw [he] at h
          cases h
        · have hj' : j < a.2.2.1.length := by omega
          obtain ⟨h1, h2⟩ := ih (a.2.2.1[i]).2.2.2 j hj' hkj (by omega) he
          refine ⟨start (.ff hp h1), fstart (.ff hp (.step (fun k => flat_isUnder_c7_eq k _ _ _) (.bind ((ev_kindAt a _ ha.n).to (kAt_at hj' hkj)) h2)))⟩
theorem tag_ne {a : Fmt} (hok : FmtOk a) {t : ByteArray} {i : Nat} (hk : kOf a.2.2.1 t = (i : Int)) : eqS t (bs []) = false := by
  obtain ⟨hi, hp, _⟩ := ixI_at hk
  have e : (a.2.2.1[i]).1 = t := (eqS_iff _ _).1 hp
  have := hok.tag1 _ (List.getElem_mem hi)
  refine eqS_ne fun z => ?_
  rw [e, z] at this
  exact absurd this (by decide)
theorem ev_isUnder {a : Fmt} (ha : FitF a) (hok : FmtOk a) (hu : UpF a) {top : ByteArray} (ht : eqS top (bs []) = false) {r : Row} (hr : RowOk a r) : Ev (fun k => interchangeref6_isUnder k a r.1 top) (undB a top a.2.2.1.length r.1) ∧ Ev (fun k => flat_isUnder k a r.1 top) (undB a top a.2.2.1.length r.1) := by
  obtain ⟨i, hi, hk, _⟩ := hr
  obtain ⟨h1, h2⟩ := ev_und ha hu ht a.2.2.1.length r.1 i hi hk hi (tag_ne hok hk)
  exact ⟨.step (fun k => interchangeref6_isUnder_eq k _ _ _) h1, .step (fun k => flat_isUnder_eq k _ _ _) (.bind ((ev_kindAt a _ ha.n).to (kAt_at hi hk)) h2)⟩
def lastN (p : Row → Bool) (l : List Row) : Nat → Int
  | 0 => -1
  | m + 1 => if p (l.getD m row0) = true then (m : Int) else lastN p l m
theorem lastN_lt (p : Row → Bool) (l : List Row) : ∀ m, -1 ≤ lastN p l m ∧ lastN p l m < m
  | 0 => ⟨Int.le_refl _, (by decide : (-1 : Int) < 0)⟩
  | m + 1 => by
    have := lastN_lt p l m
    unfold lastN
    split <;> omega
def overN (p q : Row → Bool) (l : List Row) : Nat → Int
  | 0 => -1
  | m + 1 => if p (l.getD m row0) = true then (m : Int) else if q (l.getD m row0) = true then overN p q l m else -1
theorem overN_eq (p q : Row → Bool) (l : List Row) : ∀ m, (0 ≤ overN p q l m → overN p q l m = lastN p l m ∧ ∀ j : Nat, overN p q l m < j → j < m → q (l.getD j row0) = true) ∧ (overN p q l m < 0 → overN p q l m = -1 ∧ (0 ≤ lastN p l m → ∃ j : Nat, lastN p l m < j ∧ j < m ∧ q (l.getD j row0) = false))
  | 0 => ⟨fun z => by have w : (0 : Int) ≤ -1 := z; omega, fun _ => ⟨rfl, fun z => by have w : (0 : Int) ≤ -1 := z; omega⟩⟩
  | m + 1 => by
    have ih := overN_eq p q l m
    have hl := lastN_lt p l m
    unfold overN lastN
    split
    · exact ⟨fun _ => ⟨rfl, fun j h1 h2 => by omega⟩, fun z => by omega⟩
    · split
      · rename_i hq
        refine ⟨fun z => ⟨(ih.1 z).1, fun j h1 h2 => ?_⟩, fun z => ⟨(ih.2 z).1, fun w => ?_⟩⟩
        · by_cases hj : j = m
          · rw [hj]; exact hq
          · exact (ih.1 z).2 j h1 (by omega)
        · obtain ⟨j, h1, h2, h3⟩ := (ih.2 z).2 w
          exact ⟨j, h1, by omega, h3⟩
      · rename_i hq
        exact ⟨fun z => absurd z (by decide), fun _ => ⟨rfl, fun w => ⟨m, by omega, by omega, by simpa using hq⟩⟩⟩
theorem getD_row {l : List Row} {i : Nat} (h : i < l.length) : l.getD i row0 = l[i] := getD_nat h row0
theorem ev_overOf {a : Fmt} (ha : FitF a) (hok : FmtOk a) (hu : UpF a) {l : List Row} (hl : FitRs l) (hrows : ∀ r ∈ l, RowOk a r) {u : ByteArray} (ht : eqS u (bs []) = false) : ∀ m : Nat, m ≤ l.length → Ev (fun k => flat_overOf_c2 k l u a ((m : Int) - 1)) (overN (fun r => eqS r.1 u) (fun r => undB a u a.2.2.1.length r.1) l m)
  | 0, _ => .step (fun k => flat_overOf_c2_eq k _ _ _ _) (.nk (by omega) (.pure _))
  | m + 1, hm => by
    have hq : m < l.length := by omega
    have hn := hl.n
    have e : ((m + 1 : Nat) : Int) - 1 = ((m : Nat) : Int) := by omega
    rw [e]
    unfold overN
    rw [getD_row hq]
    refine .step (fun k => flat_overOf_c2_eq k _ _ _ _) (.ck (by omega) (.ck (by omega) (.ck (by omega) ?_)))
    rw [getD_at hq, wi64_id (by omega) (by omega)]
    cases hp : eqS (l[m]).1 u with
    | true => exact .tt rfl (.to (.pure _) (by rw [if_pos rfl]))
    | false =>
      rw [if_neg (by decide)]
      refine .ff rfl (.ck (by omega) (.ck (by omega) (.bind (ev_isUnder ha hok hu ht (hrows _ (List.getElem_mem hq))).2 ?_)))
      cases hb : undB a u a.2.2.1.length (l[m]).1 with
      | true => exact .ff rfl (.to (ev_overOf ha hok hu hl hrows ht m (by omega)) (by rw [if_pos rfl]))
      | false => exact .tt rfl (.to (.pure _) (by rw [if_neg (by decide)]))
theorem ev_many (kd : Knd) (t : ByteArray) (L : List Row) (hL : L.length < 1125899906842624) : ∀ (m q : Nat) (s : Int), L.length - q = m → q ≤ L.length → ∃ y : Int, Ev (fun k => interchangeref6_order_c25 k t kd s L (L.length : Int) (q : Int)) y ∧ (kd.2.2.1 = 0 → y = 0) ∧ (kd.2.2.1 ≠ 0 → Ev (fun k => flat_rowOrder_c16 k t kd s L (L.length : Int) (q : Int)) y) := by
  intro m
  induction m with
  | zero =>
    intro q s hm hq
    refine ⟨cond (cond (kd.2.2.1 != 0) (decide (s > kd.2.2.1)) false) 2 0, .step (fun k => interchangeref6_order_c25_eq k _ _ _ _ _ _) (.nk (by omega) (.sel rfl (fun _ => .pure _) fun _ => .pure _)), fun z => by simp [z], fun z => .step (fun k => flat_rowOrder_c16_eq k _ _ _ _ _ _) (.nk (by omega) ?_)⟩
    rw [show (kd.2.2.1 != 0) = true by simpa using z]
    exact .sel rfl (fun _ => .pure _) fun _ => .pure _
  | succ m ih =>
    intro q s hm hq
    have hq3 : q < L.length := by omega
    have st : ∀ {s' y}, (eqS (L[q]).1 t = true → s' = wi64 (s + 1)) → (eqS (L[q]).1 t = false → s' = s) → Ev (fun k => interchangeref6_order_c25 k t kd s' L (L.length : Int) ((q + 1 : Nat) : Int)) y → Ev (fun k => interchangeref6_order_c25 k t kd s L (L.length : Int) (q : Int)) y := fun {s' y} h1 h2 hy => by
      refine .step (fun k => interchangeref6_order_c25_eq k _ _ _ _ _ _) (.ck (by omega) (.ck (by omega) (.ck (by omega) ?_)))
      rw [getD_at hq3, wj hq3 hL]
      cases hb : eqS (L[q]).1 t with
      | true => rw [h1 hb] at hy; exact .tt rfl hy
      | false => rw [h2 hb] at hy; exact .ff rfl hy
    have sf : ∀ {s' y}, (eqS (L[q]).1 t = true → s' = wi64 (s + 1)) → (eqS (L[q]).1 t = false → s' = s) → Ev (fun k => flat_rowOrder_c16 k t kd s' L (L.length : Int) ((q + 1 : Nat) : Int)) y → Ev (fun k => flat_rowOrder_c16 k t kd s L (L.length : Int) (q : Int)) y := fun {s' y} h1 h2 hy => by
      refine .step (fun k => flat_rowOrder_c16_eq k _ _ _ _ _ _) (.ck (by omega) (.ck (by omega) (.ck (by omega) ?_)))
      rw [getD_at hq3, wj hq3 hL]
      cases hb : eqS (L[q]).1 t with
      | true => rw [h1 hb] at hy; exact .tt rfl hy
      | false => rw [h2 hb] at hy; exact .ff rfl hy
    cases hb : eqS (L[q]).1 t with
    | true =>
      obtain ⟨y, y1, y2, y3⟩ := ih (q + 1) (wi64 (s + 1)) (by omega) (by omega)
      exact ⟨y, st (fun _ => rfl) (fun z => by rw [hb] at z; cases z) y1, y2, fun z => sf (fun _ => rfl) (fun z => by rw [hb] at z; cases z) (y3 z)⟩
    | false =>
      obtain ⟨y, y1, y2, y3⟩ := ih (q + 1) s (by omega) (by omega)
      exact ⟨y, st (fun z => by rw [hb] at z; cases z) (fun _ => rfl) y1, y2, fun z => sf (fun z => by rw [hb] at z; cases z) (fun _ => rfl) (y3 z)⟩
theorem ev_order {a : Fmt} (ha : FitF a) (hok : FmtOk a) (hu : UpF a) {l : List Row} (hl : FitRs l) (hrows : ∀ r ∈ l, RowOk a r) {c : Nat} (hc : c < l.length) : ∃ y : Int, Ev (fun k => interchangeref6_order k a l (c : Int)) y ∧ Ev (fun k => flat_rowOrder k a l (c : Int)) y := by
  have hn := hl.n
  have hlast : wi64 ((l.length : Int) - 1) = (l.length : Int) - 1 := wi64_id (by omega) (by omega)
  have hlen : ∀ m, (l.take m).length < 1125899906842624 := fun m => by rw [List.length_take]; omega
  obtain ⟨i, hi, hk, _⟩ := hrows _ (List.getElem_mem hc)
  have hA : Ev (fun k => flat_kindAt k a (l[c]).1) (a.2.2.1[i], true) := (ev_kindAt a _ ha.n).to (kAt_at hi hk)
  have hR : Ev (fun k => interchangeref6_kindOf k a (l[c]).1) (i : Int) := (ev_rkindOf a _ ha.n).to hk
  generalize hH : (cond (!(eqS a.2.2.2.1 (bs []))) (!((eqS (l[c]).1 a.2.2.2.1) == (((c : Nat) : Int) == 0))) false) = H
  generalize hT : (cond (cond (!(eqS a.2.2.2.2.1 (bs []))) (eqS (l[c]).1 a.2.2.2.2.1) false) (((c : Nat) : Int) != (wi64 ((l.length : Int) - 1))) false) = U
  cases H with
  | true => exact ⟨8, .step (fun k => interchangeref6_order_eq k _ _ _) (.ck (by omega) (.ck (by omega) (.tt (by rw [getD_at hc, hH]; rfl) (.pure _)))), .step (fun k => flat_rowOrder_eq k _ _ _) (.ck (by omega) (.ck (by omega) (.tt (by rw [getD_at hc, hH]) (.pure _))))⟩
  | false =>
    cases U with
    | true => exact ⟨8, .step (fun k => interchangeref6_order_eq k _ _ _) (.ck (by omega) (.ck (by omega) (.tt (by rw [getD_at hc, hH, hT]; rfl) (.pure _)))), .step (fun k => flat_rowOrder_eq k _ _ _) (.ck (by omega) (.ck (by omega) (.ff (by rw [getD_at hc, hH]) (.tt (by rw [getD_at hc, hT]) (.pure _)))))⟩
    | false =>
      have rs : ∀ {y : Int}, Ev (fun k => cond (!(eqS (a.2.2.1[i]).2.2.2 (bs []))) (interchangeref6_order_c9 k l (c : Int) a (l[c]).1 a.2.2.1[i] (-1) (c : Int) 0) (cond (decide (0 ≤ (wi64 ((c : Int) + 1)))) (cond (decide ((wi64 ((c : Int) + 1)) ≤ (l.length : Int))) (interchangeref6_order_c25 k (l[c]).1 a.2.2.1[i] 0 ((l.take (wi64 ((c : Int) + 1)).toNat).drop 0) (((l.take (wi64 ((c : Int) + 1)).toNat).drop 0).length : Int) 0) none) none)) y → Ev (fun k => interchangeref6_order k a l (c : Int)) y := fun {y} hy => by
        refine .step (fun k => interchangeref6_order_eq k _ _ _) (.ck (by omega) (.ck (by omega) (.ff (by rw [getD_at hc, hH, hT]; rfl) ?_)))
        rw [getD_at hc]
        refine .bind hR (.ck (by omega) (.ck (by omega) ?_))
        rw [getD_at hi, knd_eta]
        exact hy
      have fs : ∀ {y : Int}, Ev (fun k => cond (!(eqS (a.2.2.1[i]).2.2.2 (bs []))) ((flat_overOf k a l (c : Int) (a.2.2.1[i]).2.2.2).bind fun y1 => cond (decide (y1 < 0)) (some 8) (cond ((a.2.2.1[i]).2.2.1 == 0) (some 0) (cond (decide (0 ≤ y1)) (cond (decide (y1 ≤ (wi64 ((c : Int) + 1)))) (cond (decide ((wi64 ((c : Int) + 1)) ≤ (l.length : Int))) (flat_rowOrder_c16 k (l[c]).1 a.2.2.1[i] 0 ((l.take (wi64 ((c : Int) + 1)).toNat).drop y1.toNat) (((l.take (wi64 ((c : Int) + 1)).toNat).drop y1.toNat).length : Int) 0) none) none) none))) (cond ((a.2.2.1[i]).2.2.1 == 0) (some 0) (cond (decide (0 ≤ (wi64 ((c : Int) + 1)))) (cond (decide ((wi64 ((c : Int) + 1)) ≤ (l.length : Int))) (flat_rowOrder_c16 k (l[c]).1 a.2.2.1[i] 0 ((l.take (wi64 ((c : Int) + 1)).toNat).drop 0) (((l.take (wi64 ((c : Int) + 1)).toNat).drop 0).length : Int) 0) none) none))) y → Ev (fun k => flat_rowOrder k a l (c : Int)) y := fun {y} hy => by
        refine .step (fun k => flat_rowOrder_eq k _ _ _) (.ck (by omega) (.ck (by omega) (.ff (by rw [getD_at hc, hH]) (.ff (by rw [getD_at hc, hT]) ?_))))
        rw [getD_at hc]
        exact .bind hA hy
      have hw1 : wi64 ((c : Int) + 1) = ((c + 1 : Nat) : Int) := wj hc hn
      cases he : eqS (a.2.2.1[i]).2.2.2 (bs []) with
      | true =>
        obtain ⟨y, y1, y2, y3⟩ := ev_many a.2.2.1[i] (l[c]).1 ((l.take (wi64 ((c : Int) + 1)).toNat).drop 0) (by rw [List.length_drop]; have := hlen (wi64 ((c : Int) + 1)).toNat; omega) _ 0 0 rfl (Nat.zero_le _)
        refine ⟨y, rs (.ff (by rw [he]; rfl) (.ck (by omega) (.ck (by omega) y1))), fs (.ff (by rw [he]; rfl) ?_)⟩
        by_cases h0 : (a.2.2.1[i]).2.2.1 = 0
        · exact .tt (by rw [h0]; rfl) (.to (.pure _) (y2 h0).symm)
        · exact .ff (by simpa using h0) (.ck (by omega) (.ck (by omega) (y3 h0)))
      | false =>
        have ho := ev_overOf ha hok hu hl hrows he c (by omega)
        have hov : Ev (fun k => flat_overOf k a l (c : Int) (a.2.2.1[i]).2.2.2) (overN (fun r => eqS r.1 (a.2.2.1[i]).2.2.2) (fun r => undB a (a.2.2.1[i]).2.2.2 a.2.2.1.length r.1) l c) := by
          refine .step (fun k => flat_overOf_eq k _ _ _ _) ?_
          rw [wi64_id (by omega) (by omega)]
          exact ho
        -- the reference: the last one
        have hlst : ∀ {y : Int}, Ev (fun k => interchangeref6_order_c9 k l (c : Int) a (l[c]).1 a.2.2.1[i] (lastN (fun r => eqS r.1 (a.2.2.1[i]).2.2.2) l c) (c : Int) (c : Int)) y → Ev (fun k => interchangeref6_order_c9 k l (c : Int) a (l[c]).1 a.2.2.1[i] (-1) (c : Int) 0) y := fun {y} hy => by
          have key : ∀ (m q : Nat), c - q = m → q ≤ c → Ev (fun k => interchangeref6_order_c9 k l (c : Int) a (l[c]).1 a.2.2.1[i] (lastN (fun r => eqS r.1 (a.2.2.1[i]).2.2.2) l q) (c : Int) (q : Int)) y := by
            intro m
            induction m with
            | zero =>
              intro q hm hq
              have e : q = c := by omega
              rw [e]
              exact hy
            | succ m ih =>
              intro q hm hq
              have hq3 : q < l.length := by omega
              have hi' := ih (q + 1) (by omega) (by omega)
              unfold lastN at hi'
              rw [getD_row hq3] at hi'
              refine .step (fun k => interchangeref6_order_c9_eq k _ _ _ _ _ _ _ _) (.ck (by omega) (.ck (by omega) (.ck (by omega) ?_)))
              rw [getD_at hq3]
              have h13 : ∀ {s : Int}, Ev (fun k => interchangeref6_order_c9 k l (c : Int) a (l[c]).1 a.2.2.1[i] s (c : Int) ((q + 1 : Nat) : Int)) y → Ev (fun k => interchangeref6_order_c13 k l (c : Int) a (l[c]).1 a.2.2.1[i] s (c : Int) (q : Int)) y := fun {s} hs => by
                refine .step (fun k => interchangeref6_order_c13_eq k _ _ _ _ _ _ _ _) ?_
                rw [wj hq3 hn]
                exact hs
              cases hb : eqS (l[q]).1 (a.2.2.1[i]).2.2.2 with
              | true =>
                rw [if_pos hb] at hi'
                exact .tt rfl (h13 hi')
              | false =>
                rw [if_neg (by rw [hb]; decide)] at hi'
                exact .ff rfl (h13 hi')
          exact key _ 0 rfl (Nat.zero_le _)
        have hle := lastN_lt (fun r => eqS r.1 (a.2.2.1[i]).2.2.2) l c
        have hoe := overN_eq (fun r => eqS r.1 (a.2.2.1[i]).2.2.2) (fun r => undB a (a.2.2.1[i]).2.2.2 a.2.2.1.length r.1) l c
        generalize hLe : lastN (fun r => eqS r.1 (a.2.2.1[i]).2.2.2) l c = t at *
        generalize hOe : overN (fun r => eqS r.1 (a.2.2.1[i]).2.2.2) (fun r => undB a (a.2.2.1[i]).2.2.2 a.2.2.1.length r.1) l c = o at *
        by_cases ht : t < 0
        · have hob : o < 0 := by
            by_cases z : o < 0
            · exact z
            · have := (hoe.1 (by omega)).1
              omega
          exact ⟨8, rs (.tt (by rw [he]; rfl) (hlst (.step (fun k => interchangeref6_order_c9_eq k _ _ _ _ _ _ _ _) (.nk (by omega) (.ck ht (.pure _)))))), fs (.tt (by rw [he]; rfl) (.bind hov (.ck hob (.pure _))))⟩
        · obtain ⟨p, rfl⟩ : ∃ p : Nat, t = (p : Int) := ⟨t.toNat, by omega⟩
          have hpc : p < c := by omega
          have hwp : wi64 ((p : Int) + 1) = ((p + 1 : Nat) : Int) := wj (show p < l.length by omega) hn
          -- the rows between
          have hD : ((l.take ((c : Nat) : Int).toNat).drop ((p + 1 : Nat) : Int).toNat).length = c - (p + 1) := by
            rw [List.length_drop, List.length_take]
            simp only [Int.toNat_natCast]
            omega
          have r17 : ∀ {y : Int}, Ev (fun k => interchangeref6_order_c17 k l (c : Int) a (l[c]).1 a.2.2.1[i] (p : Int) ((l.take ((c : Nat) : Int).toNat).drop ((p + 1 : Nat) : Int).toNat) (((l.take ((c : Nat) : Int).toNat).drop ((p + 1 : Nat) : Int).toNat).length : Int) 0) y → Ev (fun k => interchangeref6_order k a l (c : Int)) y := fun {y} hy => by
            refine rs (.tt (by rw [he]; rfl) (hlst (.step (fun k => interchangeref6_order_c9_eq k _ _ _ _ _ _ _ _) (.nk (by omega) (.nk (by omega) ?_)))))
            rw [hwp]
            exact .ck (by omega) (.ck (by omega) (.ck (by omega) hy))
          have hgd : ∀ (j : Nat) (hj : j < c - (p + 1)), ((l.take ((c : Nat) : Int).toNat).drop ((p + 1 : Nat) : Int).toNat).getD ((j : Nat) : Int).toNat row0 = l[p + 1 + j]'(by omega) := fun j hj => by
            rw [getD_at (show j < ((l.take ((c : Nat) : Int).toNat).drop ((p + 1 : Nat) : Int).toNat).length by omega)]
            rw [List.getElem_drop, List.getElem_take]
            congr 1
          have hlD : ((l.take ((c : Nat) : Int).toNat).drop ((p + 1 : Nat) : Int).toNat).length < 1125899906842624 := by omega
          by_cases hob : o < 0
          · obtain ⟨_, hex⟩ := hoe.2 hob
            obtain ⟨j0, h1, h2, h3⟩ := hex (by omega)
            refine ⟨8, r17 ?_, fs (.tt (by rw [he]; rfl) (.bind hov (.ck hob (.pure _))))⟩
            have key : ∀ (m q : Nat), (j0 - (p + 1)) - q = m → q ≤ j0 - (p + 1) → Ev (fun k => interchangeref6_order_c17 k l (c : Int) a (l[c]).1 a.2.2.1[i] (p : Int) ((l.take ((c : Nat) : Int).toNat).drop ((p + 1 : Nat) : Int).toNat) (((l.take ((c : Nat) : Int).toNat).drop ((p + 1 : Nat) : Int).toNat).length : Int) (q : Int)) 8 := by
              intro m
              induction m with
              | zero =>
                intro q hm hq
                have hqc : q < c - (p + 1) := by omega
                refine .step (fun k => interchangeref6_order_c17_eq k _ _ _ _ _ _ _ _ _) (.ck (by omega) (.ck (by omega) (.ck (by omega) ?_)))
                rw [hgd q hqc]
                have e : p + 1 + q = j0 := by omega
                have hz := h3
                rw [getD_row (show j0 < l.length by omega)] at hz
                refine .bind (ev_isUnder ha hok hu he (hrows _ (List.getElem_mem (show p + 1 + q < l.length by omega)))).1 (.tt ?_ (.pure _))
                simp only [e, hz]
                rfl
              | succ m ih =>
                intro q hm hq
                have hqc : q < c - (p + 1) := by omega
                refine .step (fun k => interchangeref6_order_c17_eq k _ _ _ _ _ _ _ _ _) (.ck (by omega) (.ck (by omega) (.ck (by omega) ?_)))
                rw [hgd q hqc, wj (show q < ((l.take ((c : Nat) : Int).toNat).drop ((p + 1 : Nat) : Int).toNat).length by omega) hlD]
                exact .bind (ev_isUnder ha hok hu he (hrows _ (List.getElem_mem (show p + 1 + q < l.length by omega)))).1 (.cond (fun _ => .pure _) fun _ => ih (q + 1) (by omega) (by omega))
            exact key _ 0 rfl (Nat.zero_le _)
          · obtain ⟨ho1, ho2⟩ := hoe.1 (by omega)
            subst ho1
            obtain ⟨y, y1, y2, y3⟩ := ev_many a.2.2.1[i] (l[c]).1 ((l.take (wi64 ((c : Int) + 1)).toNat).drop ((p : Nat) : Int).toNat) (by rw [List.length_drop]; have := hlen (wi64 ((c : Int) + 1)).toNat; omega) _ 0 0 rfl (Nat.zero_le _)
            refine ⟨y, r17 ?_, fs (.tt (by rw [he]; rfl) (.bind hov (.nk (by omega) ?_)))⟩
            · have key : ∀ (m q : Nat), (c - (p + 1)) - q = m → q ≤ c - (p + 1) → Ev (fun k => interchangeref6_order_c17 k l (c : Int) a (l[c]).1 a.2.2.1[i] (p : Int) ((l.take ((c : Nat) : Int).toNat).drop ((p + 1 : Nat) : Int).toNat) (((l.take ((c : Nat) : Int).toNat).drop ((p + 1 : Nat) : Int).toNat).length : Int) (q : Int)) y := by
                intro m
                induction m with
                | zero =>
                  intro q hm hq
                  exact .step (fun k => interchangeref6_order_c17_eq k _ _ _ _ _ _ _ _ _) (.nk (by omega) (.ck (by omega) (.ck (by omega) (.ck (by omega) y1))))
                | succ m ih =>
                  intro q hm hq
                  have hqc : q < c - (p + 1) := by omega
                  refine .step (fun k => interchangeref6_order_c17_eq k _ _ _ _ _ _ _ _ _) (.ck (by omega) (.ck (by omega) (.ck (by omega) ?_)))
                  rw [hgd q hqc, wj (show q < ((l.take ((c : Nat) : Int).toNat).drop ((p + 1 : Nat) : Int).toNat).length by omega) hlD]
                  have hz := ho2 (p + 1 + q) (by omega) (by omega)
                  rw [getD_row (show p + 1 + q < l.length by omega)] at hz
                  exact .bind (ev_isUnder ha hok hu he (hrows _ (List.getElem_mem (show p + 1 + q < l.length by omega)))).1 (.ff (by rw [hz]; rfl) (ih (q + 1) (by omega) (by omega)))
              exact key _ 0 rfl (Nat.zero_le _)
            · by_cases h0 : (a.2.2.1[i]).2.2.1 = 0
              · exact .tt (by rw [h0]; rfl) (.to (.pure _) (y2 h0).symm)
              · exact .ff (by simpa using h0) (.ck (by omega) (.ck (by omega) (.ck (by omega) (y3 h0))))
theorem ev_CheckOrder (a : Fmt) (l : List Row) (ha : FitF a) (hl : FitRs l) : ∃ y : Int × Int, Ev (fun k => interchangeref6_CheckOrder k a l) y ∧ Ev (fun k => flat_CheckOrder k a l) y ∧
    (y.2 = 0 → fmtF a = 0 ∧ (∀ r ∈ l, RowOk a r) ∧ (eB a.2.2.2.2.1 = false → ∃ h : l.length - 1 < l.length, eqS (l[l.length - 1]).1 a.2.2.2.2.1 = true)) := by
  have hn := hl.n
  have hlast : wi64 ((l.length : Int) - 1) = (l.length : Int) - 1 := wi64_id (by omega) (by omega)
  cases hf : (fmtF a != 0) with
  | true => exact ⟨(0, fmtF a), .step (fun k => interchangeref6_CheckOrder_eq k _ _) (.bind (ev_rCheckFormat a ha) (.tt hf (.pure _))), .step (fun k => flat_CheckOrder_eq k _ _) (.bind (ev_CheckFormat a ha) (.tt hf (.pure _))), fun z => by simp only at z; rw [z] at hf; cases hf⟩
  | false =>
    have h0 : fmtF a = 0 := by simpa using hf
    have hok := fmt_ok h0
    have hu := fmt_up h0
    obtain ⟨z, z1, z2, z3⟩ := ev_checkRows a l ha hok hl
    cases hz : (z.2 != 0) with
    | true => exact ⟨z, .step (fun k => interchangeref6_CheckOrder_eq k _ _) (.bind (ev_rCheckFormat a ha) (.ff hf (.bind z1 (.tt hz (.pure _))))), .step (fun k => flat_CheckOrder_eq k _ _) (.bind (ev_CheckFormat a ha) (.ff hf (.ret (.step (fun k => flat_checkOrder_eq k _ _) (.bind z2 (.tt hz (.pure _)))) rfl))), fun w => by rw [w] at hz; cases hz⟩
    | false =>
      have hrows := z3 (by simpa using hz)
      have key : ∃ y : Int × Int, Ev (fun k => interchangeref6_CheckOrder_c8 k l a (l.length : Int) 0) y ∧ Ev (fun k => flat_checkOrder_c5 k l a (l.length : Int) 0) y ∧ (y.2 = 0 → (eB a.2.2.2.2.1 = false → ∃ h : l.length - 1 < l.length, eqS (l[l.length - 1]).1 a.2.2.2.2.1 = true)) := by
        refine ev_up2 l.length (fun _ (y : Int × Int) => y.2 = 0 → (eB a.2.2.2.2.1 = false → ∃ h : l.length - 1 < l.length, eqS (l[l.length - 1]).1 a.2.2.2.2.1 = true)) (fun k i => interchangeref6_CheckOrder_c8 k l a (l.length : Int) i) (fun k i => flat_checkOrder_c5 k l a (l.length : Int) i) (fun i hi h => ?_) ?_
        · obtain ⟨y, y1, y2, y3⟩ := h
          obtain ⟨e, e1, e2⟩ := ev_order ha hok hu hl hrows hi
          cases he : (e != 0) with
          | true => exact ⟨((i : Int), e), .step (fun k => interchangeref6_CheckOrder_c8_eq k _ _ _ _) (.ck (by omega) (.bind e1 (.tt he (.pure _)))), .step (fun k => flat_checkOrder_c5_eq k _ _ _ _) (.ck (by omega) (.bind e2 (.tt he (.pure _)))), fun w => by simp only at w; rw [w] at he; cases he⟩
          | false =>
            refine ⟨y, .step (fun k => interchangeref6_CheckOrder_c8_eq k _ _ _ _) (.ck (by omega) (.bind e1 (.ff he ?_))), .step (fun k => flat_checkOrder_c5_eq k _ _ _ _) (.ck (by omega) (.bind e2 (.ff he ?_))), y3⟩
            · rw [wj hi hn]; exact y1
            · rw [wj hi hn]; exact y2
        · have b1 : ((!((!(eqS a.2.2.2.2.1 (bs []))) && (!((l.length : Int) == 0)))) || (decide (0 ≤ (wi64 ((l.length : Int) - 1))))) = true := bor' fun w => by
            simp only [Bool.and_eq_true, Bool.not_eq_true', beq_eq_false_iff_ne, ne_eq] at w
            rw [hlast]
            exact decide_eq_true (by omega)
          have b2 : ((!((!(eqS a.2.2.2.2.1 (bs []))) && (!((l.length : Int) == 0)))) || (decide ((wi64 ((l.length : Int) - 1)) < (l.length : Int)))) = true := bor' fun w => by
            rw [hlast]
            exact decide_eq_true (by omega)
          refine ⟨cond (cond (!(eqS a.2.2.2.2.1 (bs []))) (cond ((l.length : Int) == 0) true (!(eqS ((l.getD (wi64 ((l.length : Int) - 1)).toNat row0).1) a.2.2.2.2.1))) false) ((l.length : Int), 8) (0, 0), .step (fun k => interchangeref6_CheckOrder_c8_eq k _ _ _ _) (.nk (by omega) (.tt b1 (.tt b2 (.sel rfl (fun _ => .pure _) fun _ => .pure _)))), .step (fun k => flat_checkOrder_c5_eq k _ _ _ _) (.nk (by omega) (.tt b1 (.tt b2 (.sel rfl (fun _ => .pure _) fun _ => .pure _)))), fun w he => ?_⟩
          have he' : eqS a.2.2.2.2.1 (bs []) = false := he
          rw [he'] at w
          by_cases hl0 : l.length = 0
          · rw [show ((l.length : Int) == 0) = true by simp [hl0]] at w
            exfalso
            have w' : (8 : Int) = 0 := w
            omega
          · rw [show ((l.length : Int) == 0) = false by simpa using hl0, hlast, show ((l.length : Int) - 1) = ((l.length - 1 : Nat) : Int) by omega, getD_at (show l.length - 1 < l.length by omega)] at w
            refine ⟨by omega, ?_⟩
            cases hb : eqS (l[l.length - 1]).1 a.2.2.2.2.1 with
            | true => rfl
            | false =>
              rw [hb] at w
              exfalso
              have w' : (8 : Int) = 0 := w
              omega
      obtain ⟨y, y1, y2, y3⟩ := key
      exact ⟨y, .step (fun k => interchangeref6_CheckOrder_eq k _ _) (.bind (ev_rCheckFormat a ha) (.ff hf (.bind z1 (.ff hz y1)))), .step (fun k => flat_CheckOrder_eq k _ _) (.bind (ev_CheckFormat a ha) (.ff hf (.ret (.step (fun k => flat_checkOrder_eq k _ _) (.bind z2 (.ff hz y2))) rfl))), fun w => ⟨h0, hrows, y3 w⟩⟩
end Go.Proofs.YtpgbbmdfnmjjjaaGreatDoor.Eq
namespace Go.Proofs.YtpgbbmdfnmjjjaaGreatDoor.Eq
open Go Go.Ra
set_option linter.unusedVariables false
structure EndsF (a : Fmt) (t : Nat) : Prop where
  lt : t < a.2.2.1.length
  k : kOf a.2.2.1 a.2.2.2.2.1 = (t : Int)
  c : eB a.2.2.2.2.2.1 = false → ∃ j : Nat, j < (a.2.2.1[t]).2.1.length ∧ cOf (a.2.2.1[t]).2.1 a.2.2.2.2.2.1 = (j : Int)
  s : eB a.2.2.2.2.2.2 = false → ∃ j : Nat, j < (a.2.2.1[t]).2.1.length ∧ cOf (a.2.2.1[t]).2.1 a.2.2.2.2.2.2 = (j : Int)
  ne : eB a.2.2.2.2.2.1 = false → eqS a.2.2.2.2.2.1 a.2.2.2.2.2.2 = false
theorem cnt_at {cs : List Col} {c : ByteArray} {any : Bool} (h : cntB cs c any = true) : ∃ j : Nat, j < cs.length ∧ cOf cs c = (j : Int) := by
  unfold cntB at h
  simp only [Bool.and_eq_true, decide_eq_true_eq] at h
  obtain ⟨j, hj, hk, _⟩ := ixI_get (show 0 ≤ ixI (colP c) cs from h.1.1)
  exact ⟨j, hj, hk⟩
theorem ends_of {a : Fmt} (h : endF a = 0) (hT : eB a.2.2.2.2.1 = false) : ∃ t, EndsF a t := by
  unfold endF at h
  obtain ⟨h1, h⟩ := cond0 (by decide) h
  obtain ⟨_, h⟩ := cond0 (by decide) h
  obtain ⟨_, h⟩ := cond0 (by decide) h
  obtain ⟨h2, h⟩ := cond0 (by decide) h
  obtain ⟨h3, _⟩ := cond0 (by decide) h
  rw [hT] at h1
  simp only [Bool.not_false, Bool.true_and, Bool.or_eq_false_iff, decide_eq_false_iff_not] at h1
  obtain ⟨t, ht, hk, _⟩ := ixI_get (show 0 ≤ ixI (tagP a.2.2.2.2.1) a.2.2.1 from Int.not_lt.1 h1.2)
  have hk' : kOf a.2.2.1 a.2.2.2.2.1 = (t : Int) := hk
  rw [kAt_at ht hk', Bool.or_eq_false_iff] at h2
  refine ⟨t, ht, hk', fun z => cnt_at (any := false) ?_, fun z => cnt_at (any := true) ?_, fun z => ?_⟩
  · rw [z] at h2
    simpa using h2.1
  · rw [z] at h2
    simpa using h2.2
  · rw [z] at h3
    simpa using h3
theorem ends_ne {a : Fmt} {t : Nat} (h : EndsF a t) (hC : eB a.2.2.2.2.2.1 = false) {i j : Nat} (hi : cOf (a.2.2.1[t]'h.lt).2.1 a.2.2.2.2.2.1 = (i : Int)) (hj : cOf (a.2.2.1[t]'h.lt).2.1 a.2.2.2.2.2.2 = (j : Int)) : i ≠ j := by
  rintro rfl
  obtain ⟨h1, h2, _⟩ := ixI_at hi
  obtain ⟨_, h3, _⟩ := ixI_at hj
  have e1 := (eqS_iff _ _).1 h2
  have e2 := (eqS_iff _ _).1 h3
  have := h.ne hC
  rw [← e1, ← e2, eqS_self] at this
  cases this
theorem end_mid (a : Fmt) (r : Row) : cond (cond (!(eqS a.2.2.2.1 (bs []))) (eqS r.1 a.2.2.2.1) false) true (cond (!(eqS a.2.2.2.2.1 (bs []))) (eqS r.1 a.2.2.2.2.1) false) = !midB a r := by
  unfold midB
  cases eqS a.2.2.2.1 (bs []) <;> cases eqS r.1 a.2.2.2.1 <;> cases eqS a.2.2.2.2.1 (bs []) <;> cases eqS r.1 a.2.2.2.2.1 <;> rfl
theorem ev_rEnd6 (a : Fmt) (r : Row) : Ev (fun k => interchangeref6_isEnd k a r) (!midB a r) := .step (fun k => interchangeref6_isEnd_eq k _ _) (.to (.pure _) (end_mid a r))
theorem midL_cons (a : Fmt) (r : Row) (l : List Row) : midL a (r :: l) = if midB a r = true then r :: midL a l else midL a l := List.filter_cons
theorem ev_rCount2 (a : Fmt) (l : List Row) (hn : l.length ≤ 3518437208780) : Ev (fun k => interchangeref6_count k a l) ((midL a l).length : Int) := by
  refine .step (fun k => interchangeref6_count_eq k _ _) ?_
  have key : ∀ (m q s : Nat), l.length - q = m → q ≤ l.length → s ≤ q → Ev (fun k => interchangeref6_count_c3 k a (s : Int) l (l.length : Int) (q : Int)) ((s + (midL a (l.drop q)).length : Nat) : Int) := by
    intro m
    induction m with
    | zero =>
      intro q s hm hq hs
      rw [List.drop_of_length_le (by omega)]
      exact .step (fun k => interchangeref6_count_c3_eq k _ _ _ _ _) (.nk (by omega) (.pure _))
    | succ m ih =>
      intro q s hm hq hs
      have hq3 : q < l.length := by omega
      rw [dropR hq3, midL_cons]
      refine .step (fun k => interchangeref6_count_c3_eq k _ _ _ _ _) (.ck (by omega) (.ck (by omega) (.ck (by omega) (.bind (ev_rEnd6 a _) ?_))))
      rw [getD_at hq3, wj hq3 (by omega), row_eta]
      cases hb : midB a l[q] with
      | true =>
        rw [if_pos rfl, wj (show s < 3518437208781 by omega) (by omega)]
        refine .tt rfl (.to (ih (q + 1) (s + 1) (by omega) (by omega) (by omega)) ?_)
        simp only [List.length_cons]
        omega
      | false =>
        rw [if_neg (by decide)]
        exact .ff rfl (ih (q + 1) s (by omega) (by omega) (by omega))
  have := key _ 0 0 rfl (Nat.zero_le _) (Nat.le_refl _)
  rw [List.drop_zero, Nat.zero_add] at this
  exact this
theorem val_one {a : Fmt} {r : Row} (ha : FitF a) (d : ByteArray) (hr : RowSm a r) (hfit : FitR r) : ∃ i, ∃ hi : i < a.2.2.1.length, kOf a.2.2.1 r.1 = (i : Int) ∧ ((cOf (a.2.2.1[i]).2.1 d < 0 ∧ valT a d r = bs [] ∧ offT a d r = false) ∨ ∃ j, ∃ hj : j < (a.2.2.1[i]).2.1.length, ∃ hjr : j < r.2.length, cOf (a.2.2.1[i]).2.1 d = (j : Int) ∧ valT a d r = r.2[j] ∧ offT a d r = (((a.2.2.1[i]).2.1[j]).2.1 != 2) ∧ (r.2[j]).size ≤ 140737488351232 ∧ (offT a d r = false → eqS (r.2[j]) (bs []) = false → (rtx (L (r.2[j]))).2 = 0)) := by
  obtain ⟨i, hi, hk, hlen, hv⟩ := hr
  refine ⟨i, hi, hk, ?_⟩
  have eA : (kAt a.2.2.1 r.1).1 = a.2.2.1[i] := by rw [kAt_at hi hk]
  by_cases hc : cOf (a.2.2.1[i]).2.1 d < 0
  · left
    refine ⟨hc, ?_, ?_⟩
    · unfold valT valN
      rw [eA, if_neg (by omega)]
    · unfold offT
      rw [eA, decide_eq_false (by omega : ¬ cOf (a.2.2.1[i]).2.1 d ≥ 0)]
      rfl
  · right
    obtain ⟨j, hj, hjc, _⟩ := ixI_get (show 0 ≤ ixI (colP d) (a.2.2.1[i]).2.1 from Int.not_lt.1 hc)
    have hjc' : cOf (a.2.2.1[i]).2.1 d = (j : Int) := hjc
    have hjr : j < r.2.length := by omega
    have ho : offT a d r = (((a.2.2.1[i]).2.1[j]).2.1 != 2) := by
      unfold offT
      rw [eA, hjc', decide_eq_true (show ((j : Nat) : Int) ≥ 0 by omega), getD_at hj]
      rfl
    refine ⟨j, hj, hjr, hjc', ?_, ho, hfit.s _ (List.getElem_mem hjr), fun z w => ?_⟩
    · unfold valT valN
      rw [eA, hjc', if_pos (by omega), getD_at hjr]
    · rw [ho] at z
      exact hv j hjr hj w (by simpa using z)
theorem ev_rSum2 (a : Fmt) (l : List Row) (ha : FitF a) (hl : FitRs l) (hn : l.length ≤ 3518437208780) (hrows : ∀ r ∈ l, RowSm a r) : ((∀ r ∈ midL a l, offT a a.2.2.2.2.2.2 r = false) → Ev (fun k => interchangeref6_sum k a l) (N (sumL ((midL a l).map (valT a a.2.2.2.2.2.2))), 0)) ∧ ((∃ r ∈ midL a l, offT a a.2.2.2.2.2.2 r = true) → ∃ s, Ev (fun k => interchangeref6_sum k a l) (s, 6)) := by
  have key : ∀ (m q : Nat) (T : Int), l.length - q = m → q ≤ l.length → T.natAbs ≤ q * 10 ^ 35 →
      ((∀ r ∈ midL a (l.drop q), offT a a.2.2.2.2.2.2 r = false) → Ev (fun k => interchangeref6_sum_c3 k a (false, []) (N T) l (l.length : Int) (q : Int)) (N (T + sumL ((midL a (l.drop q)).map (valT a a.2.2.2.2.2.2))), 0)) ∧ ((∃ r ∈ midL a (l.drop q), offT a a.2.2.2.2.2.2 r = true) → ∃ s, Ev (fun k => interchangeref6_sum_c3 k a (false, []) (N T) l (l.length : Int) (q : Int)) (s, 6)) := by
    intro m
    induction m with
    | zero =>
      intro q T hm hq hb
      rw [List.drop_of_length_le (by omega)]
      refine ⟨fun _ => .step (fun k => interchangeref6_sum_c3_eq k _ _ _ _ _ _) (.nk (by omega) (.to (.pure _) ?_)), fun ⟨r, hr, _⟩ => absurd hr (by simp [midL])⟩
      simp [midL, sumL]
    | succ m ih =>
      intro q T hm hq hb
      have hq3 : q < l.length := by omega
      have hq4 : l.length - (q + 1) = m := by omega
      have hq5 : q + 1 ≤ l.length := by omega
      have hmem := List.getElem_mem hq3
      obtain ⟨i, hi, hk, hcase⟩ := val_one ha a.2.2.2.2.2.2 (hrows _ hmem) (hl.r _ hmem)
      have hkm := List.getElem_mem hi
      have hR : Ev (fun k => interchangeref6_kindOf k a (l[q]).1) (i : Int) := (ev_rkindOf a _ ha.n).to hk
      have hC := ev_rcolumnOf (a.2.2.1[i]) a.2.2.2.2.2.2 (ha.c _ hkm)
      have hb' : T.natAbs ≤ (q + 1) * 10 ^ 35 := Nat.le_trans hb (Nat.mul_le_mul_right _ (Nat.le_succ q))
      rw [dropR hq3, midL_cons]
      have st : ∀ {y}, Ev (fun k => (interchangeref6_columnOf k a.2.2.1[i] a.2.2.2.2.2.2).bind fun y1 => (interchangeref6_isEnd k a l[q]).bind fun y2 => cond (cond y2 true (decide (y1 < 0))) (interchangeref6_sum_c3 k a (false, []) (N T) l (l.length : Int) ((q + 1 : Nat) : Int)) (
          cond (decide (0 ≤ y1)) (cond (decide (y1 < ((a.2.2.1[i]).2.1.length : Int))) (cond (((a.2.2.1[i]).2.1.getD y1.toNat col0).2.1 != 2) (some (N T, 6)) (cond (decide (0 ≤ y1)) (cond (decide (y1 < ((l[q]).2.length : Int))) (cond (!(eqS ((l[q]).2.getD y1.toNat (bs [])) (bs []))) (
            cond (decide (0 ≤ y1)) (cond (decide (y1 < ((l[q]).2.length : Int))) ((interchangeref1_ReadText k ((l[q]).2.getD y1.toNat (bs []))).bind fun y3 => (interchangeref1_At k y3.1 9).bind fun y4 => (interchangeref1_Plus k (N T) y4).bind fun y5 => interchangeref6_sum_c3 k a (false, []) y5 l (l.length : Int) ((q + 1 : Nat) : Int)) none) none)
            (interchangeref6_sum_c3 k a (false, []) (N T) l (l.length : Int) ((q + 1 : Nat) : Int))) none) none)) none) none)) y → Ev (fun k => interchangeref6_sum_c3 k a (false, []) (N T) l (l.length : Int) (q : Int)) y := fun {y} hy => by
        refine .step (fun k => interchangeref6_sum_c3_eq k _ _ _ _ _ _) (.ck (by omega) (.ck (by omega) (.ck (by omega) ?_)))
        rw [getD_at hq3, wj hq3 (by omega), row_eta]
        refine .bind hR (.ck (by omega) (.ck (by omega) ?_))
        rw [getD_at hi, knd_eta]
        exact hy
      cases hmb : midB a l[q] with
      | false =>
        rw [if_neg (by decide)]
        obtain ⟨h1, h2⟩ := ih (q + 1) T hq4 hq5 hb'
        have hE : Ev (fun k => interchangeref6_isEnd k a l[q]) true := (ev_rEnd6 a _).to (by rw [hmb]; rfl)
        exact ⟨fun z => st (.bind hC (.bind hE (.tt rfl (h1 z)))), fun z => by
          obtain ⟨s, hs⟩ := h2 z
          exact ⟨s, st (.bind hC (.bind hE (.tt rfl hs)))⟩⟩
      | true =>
        rw [if_pos rfl]
        have hE : Ev (fun k => interchangeref6_isEnd k a l[q]) false := (ev_rEnd6 a _).to (by rw [hmb]; rfl)
        rcases hcase with ⟨hc, e, ho⟩ | ⟨j, hj, hjr, hjc, e, ho, hs, hz⟩
        · obtain ⟨h1, h2⟩ := ih (q + 1) T hq4 hq5 hb'
          refine ⟨fun z => ?_, fun ⟨r, hr, hro⟩ => ?_⟩
          · rw [List.map_cons, sumL_cons, e, eqS_self, if_pos rfl, Int.zero_add]
            exact st (.bind hC (.bind hE (.tt (by simpa using hc) (h1 fun r hr => z r (List.mem_cons_of_mem _ hr)))))
          · rcases List.mem_cons.1 hr with rfl | hr
            · rw [ho] at hro; cases hro
            · obtain ⟨s, hs⟩ := h2 ⟨r, hr, hro⟩
              exact ⟨s, st (.bind hC (.bind hE (.tt (by simpa using hc) hs)))⟩
        · have hC' := hC.to hjc
          have hng : ¬ ((j : Nat) : Int) < 0 := by omega
          cases hoff : offT a a.2.2.2.2.2.2 l[q] with
          | true =>
            refine ⟨fun z => ?_, fun _ => ⟨N T, st (.bind hC' (.bind hE (.ff (by simp) (.ck (by omega) (.ck (by omega) (.tt ?_ (.pure _)))))))⟩⟩
            · have := z _ (List.mem_cons_self ..)
              rw [hoff] at this
              cases this
            · rw [getD_at hj, ← ho, hoff]
          | false =>
            have mid : ∀ {y}, Ev (fun k => cond (!(eqS (l[q]).2[j] (bs []))) ((interchangeref1_ReadText k (l[q]).2[j]).bind fun y3 => (interchangeref1_At k y3.1 9).bind fun y4 => (interchangeref1_Plus k (N T) y4).bind fun y5 => interchangeref6_sum_c3 k a (false, []) y5 l (l.length : Int) ((q + 1 : Nat) : Int)) (interchangeref6_sum_c3 k a (false, []) (N T) l (l.length : Int) ((q + 1 : Nat) : Int))) y → Ev (fun k => interchangeref6_sum_c3 k a (false, []) (N T) l (l.length : Int) (q : Int)) y := fun {y} hy => by
              refine st (.bind hC' (.bind hE (.ff (by simp) (.ck (by omega) (.ck (by omega) (.ff (by rw [getD_at hj, ← ho, hoff]) (.ck (by omega) (.ck (by omega) ?_))))))))
              rw [getD_at hjr]
              cases he : eqS (l[q]).2[j] (bs []) with
              | true => rw [he] at hy; exact .ff rfl hy
              | false => rw [he] at hy; exact .tt rfl (.ck (by omega) (.ck (by omega) hy))
            cases he : eqS (l[q]).2[j] (bs []) with
            | true =>
              obtain ⟨h1, h2⟩ := ih (q + 1) T hq4 hq5 hb'
              refine ⟨fun z => ?_, fun ⟨r, hr, hro⟩ => ?_⟩
              · rw [List.map_cons, sumL_cons, e, he, if_pos rfl, Int.zero_add]
                exact mid (.ff (by rw [he]; rfl) (h1 fun r hr => z r (List.mem_cons_of_mem _ hr)))
              · rcases List.mem_cons.1 hr with rfl | hr
                · rw [hoff] at hro; cases hro
                · obtain ⟨s, hs⟩ := h2 ⟨r, hr, hro⟩
                  exact ⟨s, mid (.ff (by rw [he]; rfl) hs)⟩
            | false =>
              have hsz := size_L ((l[q]).2[j])
              have hok2 := rtx_ok _ (hz hoff he)
              have hr := ev_rRead (L ((l[q]).2[j])) (by omega)
              rw [B_L] at hr
              have hsc := sc_abs (p := 9) hok2 (by decide)
              have hS1 : Sr T := .of (Nat.le_trans hb (Nat.le_trans (Nat.mul_le_mul_right _ (show q ≤ 3518437208780 by omega)) (by decide)))
              have hS2 : Sr (sc (rtx (L ((l[q]).2[j]))).1 9) := .of (Nat.le_trans hsc (Nat.pow_le_pow_right (by decide) (by decide)))
              obtain ⟨h1, h2⟩ := ih (q + 1) (T + sc (rtx (L ((l[q]).2[j]))).1 9) hq4 hq5 (by rw [Nat.succ_mul]; omega)
              have step : ∀ {y}, Ev (fun k => interchangeref6_sum_c3 k a (false, []) (N (T + sc (rtx (L ((l[q]).2[j]))).1 9)) l (l.length : Int) ((q + 1 : Nat) : Int)) y → Ev (fun k => interchangeref6_sum_c3 k a (false, []) (N T) l (l.length : Int) (q : Int)) y := fun {y} hy =>
                mid (.tt (by rw [he]; rfl) (.bind hr (.bind (ev_rAt _ 9 hok2 hok2.2.2.2 (by decide)) (.bind (ev_rPlus T _ hS1 hS2) hy))))
              refine ⟨fun z => ?_, fun ⟨r, hr, hro⟩ => ?_⟩
              · rw [List.map_cons, sumL_cons, e, he, if_neg (by decide), ← Int.add_assoc]
                exact step (h1 fun r hr => z r (List.mem_cons_of_mem _ hr))
              · rcases List.mem_cons.1 hr with rfl | hr
                · rw [hoff] at hro; cases hro
                · obtain ⟨s, hs⟩ := h2 ⟨r, hr, hro⟩
                  exact ⟨s, step hs⟩
  have h0 := key _ 0 0 rfl (Nat.zero_le _) (by simp)
  rw [List.drop_zero, Int.zero_add] at h0
  exact ⟨fun z => .step (fun k => interchangeref6_sum_eq k _ _) (h0.1 z), fun z => by
    obtain ⟨s, hs⟩ := h0.2 z
    exact ⟨s, .step (fun k => interchangeref6_sum_eq k _ _) hs⟩⟩
theorem mid_mem {a : Fmt} {l : List Row} {r : Row} (h : r ∈ midL a l) : r ∈ l := (List.mem_filter.1 h).1
theorem mid_len (a : Fmt) (l : List Row) : (midL a l).length ≤ l.length := List.length_filter_le ..
theorem mid_fit {a : Fmt} {l : List Row} (h : FitRs l) : FitRs (midL a l) := ⟨Nat.lt_of_le_of_lt (mid_len a l) h.n, fun r hr => h.r r (mid_mem hr)⟩
theorem ev_aSum2 (a : Fmt) (l : List Row) (ha : FitF a) (hl : FitRs l) (hn : l.length ≤ 3518437208780) (hrows : ∀ r ∈ l, RowSm a r) (hoff : ∀ r ∈ midL a l, offT a a.2.2.2.2.2.2 r = false) : Ev (fun k => flat_sumOf k a (midL a l) (bs []) a.2.2.2.2.2.2) (fwF 9 (sumL ((midL a l).map (valT a a.2.2.2.2.2.2)))) :=
  ev_sumAll a (midL a l) _ ha (mid_fit hl) (Nat.le_trans (mid_len a l) hn) (fun r hr => hrows r (mid_mem hr)) hoff
theorem sum_small (a : Fmt) (l : List Row) (ha : FitF a) (hl : FitRs l) (hn : l.length ≤ 3518437208780) (hrows : ∀ r ∈ l, RowSm a r) (hoff : ∀ r ∈ midL a l, offT a a.2.2.2.2.2.2 r = false) : (sumL ((midL a l).map (valT a a.2.2.2.2.2.2))).natAbs < 10 ^ 100 := by
  have h := sumL_bound ((midL a l).map (valT a a.2.2.2.2.2.2)) fun v hv => by
    obtain ⟨r, hr, rfl⟩ := List.mem_map.1 hv
    obtain ⟨i, hi, _, h | ⟨j, hj, hjr, _, e, _, hs, hz⟩⟩ := val_one ha a.2.2.2.2.2.2 (hrows r (mid_mem hr)) (hl.r r (mid_mem hr))
    · rw [h.2.1]
      exact ⟨Nat.zero_le _, fun z => by rw [eqS_self] at z; cases z⟩
    · rw [e]
      exact ⟨hs, hz (hoff r hr)⟩
  rw [List.length_map] at h
  refine Nat.lt_of_le_of_lt (Nat.le_trans h (Nat.mul_le_mul_right _ (Nat.le_trans (mid_len a l) hn))) (by decide)
end Go.Proofs.YtpgbbmdfnmjjjaaGreatDoor.Eq
namespace Go.Proofs.YtpgbbmdfnmjjjaaGreatDoor.Eq
open Go Go.Ra
set_option linter.unusedVariables false
def setC (a : Fmt) (kd : Knd) (n : Nat) (tl : Row) : Row := if eB a.2.2.2.2.2.1 = true then tl else (tl.1, tl.2.set (cOf kd.2.1 a.2.2.2.2.2.1).toNat (B (Lib.itoa (n : Int))))
def setS (a : Fmt) (kd : Knd) (d : Int × Int) (tl : Row) : Row := if eB a.2.2.2.2.2.2 = true then tl else (tl.1, tl.2.set (cOf kd.2.1 a.2.2.2.2.2.2).toNat (B (txL d)))
def endY (Y : Int × Int) (rs : List Row) (t : Row) : List Row × Int := if Y.2 ≠ 0 then ([], Y.2) else if (rs.length : Int) + 1 > 2000 then ([], 2) else (rs ++ [t], 0)
theorem setC_1 (a : Fmt) (kd : Knd) (n : Nat) (tl : Row) : (setC a kd n tl).1 = tl.1 ∧ (setC a kd n tl).2.length = tl.2.length := by
  unfold setC
  split
  · exact ⟨rfl, rfl⟩
  · exact ⟨rfl, List.length_set ..⟩
theorem setS_1 (a : Fmt) (kd : Knd) (d : Int × Int) (tl : Row) : (setS a kd d tl).1 = tl.1 ∧ (setS a kd d tl).2.length = tl.2.length := by
  unfold setS
  split
  · exact ⟨rfl, rfl⟩
  · exact ⟨rfl, List.length_set ..⟩
theorem setC_t {a : Fmt} (h : eB a.2.2.2.2.2.1 = true) (kd : Knd) (n : Nat) (tl : Row) : setC a kd n tl = tl := by unfold setC; rw [if_pos h]
theorem setC_f {a : Fmt} (h : eB a.2.2.2.2.2.1 = false) {kd : Knd} {i : Nat} (hi : cOf kd.2.1 a.2.2.2.2.2.1 = (i : Int)) (n : Nat) (tl : Row) : setC a kd n tl = (tl.1, tl.2.set i (B (Lib.itoa (n : Int)))) := by unfold setC; rw [if_neg (by rw [h]; decide), hi]; rfl
theorem setS_t {a : Fmt} (h : eB a.2.2.2.2.2.2 = true) (kd : Knd) (d : Int × Int) (tl : Row) : setS a kd d tl = tl := by unfold setS; rw [if_pos h]
theorem setS_f {a : Fmt} (h : eB a.2.2.2.2.2.2 = false) {kd : Knd} {i : Nat} (hi : cOf kd.2.1 a.2.2.2.2.2.2 = (i : Int)) (d : Int × Int) (tl : Row) : setS a kd d tl = (tl.1, tl.2.set i (B (txL d))) := by unfold setS; rw [if_neg (by rw [h]; decide), hi]; rfl
theorem set_swap {a : Fmt} {t : Nat} (he : EndsF a t) (n : Nat) (d : Int × Int) (tl : Row) : setC a (a.2.2.1[t]'he.lt) n (setS a (a.2.2.1[t]'he.lt) d tl) = setS a (a.2.2.1[t]'he.lt) d (setC a (a.2.2.1[t]'he.lt) n tl) := by
  cases hC : eB a.2.2.2.2.2.1 with
  | true => rw [setC_t hC, setC_t hC]
  | false =>
    cases hS : eB a.2.2.2.2.2.2 with
    | true => rw [setS_t hS, setS_t hS]
    | false =>
      obtain ⟨i, hi, hi2⟩ := he.c hC
      obtain ⟨j, hj, hj2⟩ := he.s hS
      have hne := ends_ne he hC hi2 hj2
      rw [setC_f hC hi2, setS_f hS hj2, setC_f hC hi2, setS_f hS hj2, List.set_comm _ _ (fun z => hne z.symm)]
theorem itoa_short (n : Nat) (h : n ≤ 3518437208780) : (B (Lib.itoa (n : Int))).size ≤ 140737488351232 := by
  have hs : (B (Lib.itoa (n : Int))).size = (Lib.itoa (n : Int)).length := size_B _
  have hl := itoa_len (n := (n : Int)) (k := 13) (by omega) (by decide) (by omega)
  omega
theorem set_fit {v : List ByteArray} {i : Nat} {s : ByteArray} (hv : ∀ c ∈ v, c.size ≤ 140737488351232) (hs : s.size ≤ 140737488351232) : ∀ c ∈ v.set i s, c.size ≤ 140737488351232 := fun c hc => by
  rcases List.mem_or_eq_of_mem_set hc with h | h
  · exact hv c h
  · rw [h]; exact hs
theorem setC_fit {a : Fmt} {kd : Knd} {n : Nat} {tl : Row} (h : FitR tl) (hn : n ≤ 3518437208780) : FitR (setC a kd n tl) := by
  refine ⟨by rw [(setC_1 a kd n tl).2]; exact h.n, ?_⟩
  unfold setC
  split
  · exact h.s
  · exact set_fit h.s (itoa_short n hn)
theorem setS_fit {a : Fmt} {kd : Knd} {d : Int × Int} {tl : Row} (h : FitR tl) (hd : eB a.2.2.2.2.2.2 = false → okD d) : FitR (setS a kd d tl) := by
  refine ⟨by rw [(setS_1 a kd d tl).2]; exact h.n, ?_⟩
  unfold setS
  split
  · exact h.s
  · rename_i hS
    refine set_fit h.s ?_
    have := txL_small (hd (by simpa using hS))
    have hs : (B (txL d)).size = (txL d).length := size_B _
    omega
theorem ev_c24 {a : Fmt} {l rs : List Row} {tl : Row} {t : Nat} (ha : FitF a) (he : EndsF a t) (hl : l.length ≤ 3518437208780) (hlen : tl.2.length = (a.2.2.1[t]'he.lt).2.1.length) (hr : rs.length ≤ 2000) (hrf : FitRs rs) (h8 : ∀ r ∈ rs, r.2.length < 8796093022208) {Y : Int × Int} (hY : Ev (fun k => flat_checkRow k a (setC a (a.2.2.1[t]'he.lt) (midL a l).length tl)) Y) :
    Ev (fun k => flat_Closed_c24 k l a (a.2.2.1[t]'he.lt) tl rs) (endY Y rs (setC a (a.2.2.1[t]'he.lt) (midL a l).length tl)) := by
  have hkm := List.getElem_mem he.lt
  have hml := mid_len a l
  have fin : ∀ {x : Row}, Ev (fun k => flat_checkRow k a x) Y → Ev (fun k => (flat_checkRow k a x).bind fun y13 => cond (y13.2 != 0) (some ([], y13.2)) ((flat_cloneRows k rs).bind fun y14 => cond (decide (y14.length + 1 < 3518437208883)) (cond (decide (((y14 ++ [x]).length : Int) > 2000)) (some ([], 2)) (some ((y14 ++ [x]), 0))) none)) (endY Y rs x) := fun {x} hx => by
    refine .bind hx ?_
    unfold endY
    cases hz : (Y.2 != 0) with
    | true => exact .tt rfl (.to (.pure _) (by rw [if_pos (by simpa using hz)]))
    | false =>
      rw [if_neg (by simpa using hz)]
      refine .ff rfl (.bind (ev_cloneR rs hr hrf h8) (.ck (by omega) (.dec (fun z => ?_) fun z => ?_)))
      · rw [if_pos (by rw [List.length_append] at z; simpa using z)]
        exact .pure _
      · rw [if_neg (by rw [List.length_append] at z; simpa using z)]
        exact .pure _
  refine .step (fun k => flat_Closed_c24_eq k _ _ _ _ _) ?_
  unfold setC at hY ⊢
  cases hC : eB a.2.2.2.2.2.1 with
  | true =>
    rw [hC, if_pos rfl] at hY
    rw [if_pos rfl]
    unfold eB at hC
    exact .ff (by rw [hC]; rfl) (fin hY)
  | false =>
    rw [hC, if_neg (by decide)] at hY
    rw [if_neg (by decide)]
    obtain ⟨i, hi, hi2⟩ := he.c hC
    rw [hi2] at hY ⊢
    unfold eB at hC
    refine .tt (by rw [hC]; rfl) (.bind ((ev_columnAt _ _ (ha.c _ hkm)).to hi2) (.bind (ev_inner a l hl) (.bind (ev_Itoa (by omega) (by omega)) (.ck (by omega) (.ck (by omega) (fin hY))))))
theorem ev_c19 {a : Fmt} {l rs : List Row} {tl : Row} {t : Nat} (ha : FitF a) (he : EndsF a t) (hl : l.length ≤ 3518437208780) (hfl : FitRs l) (hrows : ∀ r ∈ l, RowSm a r) (hoff : eB a.2.2.2.2.2.2 = false → ∀ r ∈ midL a l, offT a a.2.2.2.2.2.2 r = false)
    (hlen : tl.2.length = (a.2.2.1[t]'he.lt).2.1.length) (hr : rs.length ≤ 2000) (hrf : FitRs rs) (h8 : ∀ r ∈ rs, r.2.length < 8796093022208) {d : Int × Int} (hfw : eB a.2.2.2.2.2.2 = false → okD d ∧ fwF 9 (sumL ((midL a l).map (valT a a.2.2.2.2.2.2))) = (d, 0))
    {Y : Int × Int} (hY : Ev (fun k => flat_checkRow k a (setC a (a.2.2.1[t]'he.lt) (midL a l).length (setS a (a.2.2.1[t]'he.lt) d tl))) Y) :
    Ev (fun k => flat_Closed_c19 k l a (a.2.2.1[t]'he.lt) tl rs) (endY Y rs (setC a (a.2.2.1[t]'he.lt) (midL a l).length (setS a (a.2.2.1[t]'he.lt) d tl))) := by
  have hkm := List.getElem_mem he.lt
  have hl1 := (setS_1 a (a.2.2.1[t]'he.lt) d tl).2
  have h24 := ev_c24 (l := l) (rs := rs) (tl := setS a (a.2.2.1[t]'he.lt) d tl) ha he hl (by rw [hl1]; exact hlen) hr hrf h8 hY
  refine .step (fun k => flat_Closed_c19_eq k _ _ _ _ _) ?_
  cases hS : eB a.2.2.2.2.2.2 with
  | true =>
    have e : setS a (a.2.2.1[t]'he.lt) d tl = tl := by unfold setS; rw [if_pos hS]
    rw [e] at h24 ⊢
    unfold eB at hS
    exact .ff (by rw [hS]; rfl) h24
  | false =>
    obtain ⟨j, hj, hj2⟩ := he.s hS
    obtain ⟨hd, hw⟩ := hfw hS
    have e : setS a (a.2.2.1[t]'he.lt) d tl = (tl.1, tl.2.set ((j : Nat) : Int).toNat (B (txL d))) := by unfold setS; rw [if_neg (by rw [hS]; decide), hj2]
    rw [e] at h24 ⊢
    have hsum := (ev_aSum2 a l ha hfl hl hrows (hoff hS)).to hw
    unfold eB at hS
    exact .tt (by rw [hS]; rfl) (.bind (ev_inner a l hl) (.bind hsum (.ff rfl (.bind ((ev_columnAt _ _ (ha.c _ hkm)).to hj2) (.bind (ev_told2 hd) (.ck (by omega) (.ck (by omega) h24)))))))
theorem ev_c19e {a : Fmt} {l rs : List Row} {tl : Row} {t : Nat} (ha : FitF a) (he : EndsF a t) (hl : l.length ≤ 3518437208780) (hfl : FitRs l) (hrows : ∀ r ∈ l, RowSm a r) (hS : eB a.2.2.2.2.2.2 = false) (hoff : ∀ r ∈ midL a l, offT a a.2.2.2.2.2.2 r = false)
    {d : Int × Int} {f : Int} (hf : f ≠ 0) (hfw : fwF 9 (sumL ((midL a l).map (valT a a.2.2.2.2.2.2))) = (d, f)) : Ev (fun k => flat_Closed_c19 k l a (a.2.2.1[t]'he.lt) tl rs) ([], f) := by
  have hsum := (ev_aSum2 a l ha hfl hl hrows hoff).to hfw
  unfold eB at hS
  exact .step (fun k => flat_Closed_c19_eq k _ _ _ _ _) (.tt (by rw [hS]; rfl) (.bind (ev_inner a l hl) (.bind hsum (.tt (by simpa using hf) (.pure _)))))
noncomputable def rEnd (k : Nat) (a : Fmt) (tl : Row) (rs : List Row) : Option (List Row × Int) :=
  (interchangeref6_checkRow k a tl).bind fun y => cond (y.2 != 0) (some ([], y.2)) ((slices_Clone_Lapi_Row_api_Row k rs).bind fun z => cond (decide (z.length + 1 < 3518437208883)) (cond (decide (((z ++ [tl]).length : Int) > 2000)) (some ([], 2)) (some ((z ++ [tl]), 0))) none)
noncomputable def rSum (k : Nat) (a : Fmt) (kd : Knd) (tl : Row) (rs : List Row) : Option (List Row × Int) :=
  cond (!(eqS a.2.2.2.2.2.2 (bs []))) ((interchangeref6_sum k a rs).bind fun y => cond (y.2 != 0) (some ([], y.2)) ((interchangeref6_told k y.1).bind fun z => cond (z.2 != 0) (some ([], z.2)) ((interchangeref6_columnOf k kd a.2.2.2.2.2.2).bind fun c => cond (decide (0 ≤ c)) (cond (decide (c < (tl.2.length : Int))) (rEnd k a (tl.1, tl.2.set c.toNat z.1) rs) none) none))) (rEnd k a tl rs)
noncomputable def rBody (k : Nat) (a : Fmt) (kd : Knd) (tl : Row) (rs : List Row) : Option (List Row × Int) :=
  cond (!(eqS a.2.2.2.2.2.1 (bs []))) ((interchangeref6_columnOf k kd a.2.2.2.2.2.1).bind fun c => (interchangeref6_count k a rs).bind fun n => (strconv_Itoa k n).bind fun s => cond (decide (0 ≤ c)) (cond (decide (c < (tl.2.length : Int))) (rSum k a kd (tl.1, tl.2.set c.toNat s) rs) none) none) (rSum k a kd tl rs)
theorem ev_cloneR0 (l : List Row) (hn : l.length ≤ 2000) : Ev (fun k => slices_Clone_Lapi_Row_api_Row k l) l := by
  cases l with
  | nil => exact .step (fun k => slices_Clone_Lapi_Row_api_Row_eq k _) (.pure _)
  | cons x t => exact .step (fun k => slices_Clone_Lapi_Row_api_Row_eq k _) (.ff rfl (.ck (by omega) (.pure _)))
theorem ev_rEndC {a : Fmt} {rs : List Row} {x : Row} (hr : rs.length ≤ 2000) {Y : Int × Int} (hx : Ev (fun k => interchangeref6_checkRow k a x) Y) : Ev (fun k => rEnd k a x rs) (endY Y rs x) := by
  show Ev (fun k => (interchangeref6_checkRow k a x).bind fun y => cond (y.2 != 0) (some ([], y.2)) ((slices_Clone_Lapi_Row_api_Row k rs).bind fun z => cond (decide (z.length + 1 < 3518437208883)) (cond (decide (((z ++ [x]).length : Int) > 2000)) (some ([], 2)) (some ((z ++ [x]), 0))) none)) _
  refine .bind hx ?_
  unfold endY
  cases hz : (Y.2 != 0) with
  | true => exact .tt rfl (.to (.pure _) (by rw [if_pos (by simpa using hz)]))
  | false =>
    rw [if_neg (by simpa using hz)]
    refine .ff rfl (.bind (ev_cloneR0 rs hr) (.ck (by omega) (.dec (fun z => ?_) fun z => ?_)))
    · rw [if_pos (by rw [List.length_append] at z; simpa using z)]
      exact .pure _
    · rw [if_neg (by rw [List.length_append] at z; simpa using z)]
      exact .pure _
theorem ev_rToSum {a : Fmt} {rs : List Row} {tl : Row} {t : Nat} (ha : FitF a) (he : EndsF a t) (hr : rs.length ≤ 2000) (hlen : tl.2.length = (a.2.2.1[t]'he.lt).2.1.length) {y : List Row × Int} (h : Ev (fun k => rSum k a (a.2.2.1[t]'he.lt) (setC a (a.2.2.1[t]'he.lt) (midL a rs).length tl) rs) y) : Ev (fun k => rBody k a (a.2.2.1[t]'he.lt) tl rs) y := by
  have hkm := List.getElem_mem he.lt
  have hml := mid_len a rs
  show Ev (fun k => cond (!(eqS a.2.2.2.2.2.1 (bs []))) ((interchangeref6_columnOf k (a.2.2.1[t]'he.lt) a.2.2.2.2.2.1).bind fun c => (interchangeref6_count k a rs).bind fun n => (strconv_Itoa k n).bind fun s => cond (decide (0 ≤ c)) (cond (decide (c < (tl.2.length : Int))) (rSum k a (a.2.2.1[t]'he.lt) (tl.1, tl.2.set c.toNat s) rs) none) none) (rSum k a (a.2.2.1[t]'he.lt) tl rs)) y
  cases hC : eB a.2.2.2.2.2.1 with
  | true =>
    have e : setC a (a.2.2.1[t]'he.lt) (midL a rs).length tl = tl := by unfold setC; rw [if_pos hC]
    rw [e] at h
    unfold eB at hC
    exact .ff (by rw [hC]; rfl) h
  | false =>
    obtain ⟨i, hi, hi2⟩ := he.c hC
    have e : setC a (a.2.2.1[t]'he.lt) (midL a rs).length tl = (tl.1, tl.2.set ((i : Nat) : Int).toNat (B (Lib.itoa ((midL a rs).length : Int)))) := by unfold setC; rw [if_neg (by rw [hC]; decide), hi2]
    rw [e] at h
    unfold eB at hC
    exact .tt (by rw [hC]; rfl) (.bind ((ev_rcolumnOf _ _ (ha.c _ hkm)).to hi2) (.bind (ev_rCount2 a rs (by omega)) (.bind (ev_Itoa (by omega) (by omega)) (.ck (by omega) (.ck (by omega) h)))))
theorem ev_rBody {a : Fmt} {rs : List Row} {tl : Row} {t : Nat} (ha : FitF a) (he : EndsF a t) (hr : rs.length ≤ 2000) (hrf : FitRs rs) (hrows : ∀ r ∈ rs, RowSm a r) (hlen : tl.2.length = (a.2.2.1[t]'he.lt).2.1.length) (hoff : eB a.2.2.2.2.2.2 = false → ∀ r ∈ midL a rs, offT a a.2.2.2.2.2.2 r = false)
    {d : Int × Int} (hfw : eB a.2.2.2.2.2.2 = false → okD d ∧ Ev (fun k => interchangeref6_told k (N (sumL ((midL a rs).map (valT a a.2.2.2.2.2.2))))) (B (txL d), 0))
    {Y : Int × Int} (hY : Ev (fun k => interchangeref6_checkRow k a (setS a (a.2.2.1[t]'he.lt) d (setC a (a.2.2.1[t]'he.lt) (midL a rs).length tl))) Y) :
    Ev (fun k => rBody k a (a.2.2.1[t]'he.lt) tl rs) (endY Y rs (setS a (a.2.2.1[t]'he.lt) d (setC a (a.2.2.1[t]'he.lt) (midL a rs).length tl))) := by
  have hkm := List.getElem_mem he.lt
  refine ev_rToSum ha he hr hlen ?_
  have hl1 := (setC_1 a (a.2.2.1[t]'he.lt) (midL a rs).length tl).2
  generalize setC a (a.2.2.1[t]'he.lt) (midL a rs).length tl = x at *
  show Ev (fun k => cond (!(eqS a.2.2.2.2.2.2 (bs []))) ((interchangeref6_sum k a rs).bind fun y => cond (y.2 != 0) (some ([], y.2)) ((interchangeref6_told k y.1).bind fun z => cond (z.2 != 0) (some ([], z.2)) ((interchangeref6_columnOf k (a.2.2.1[t]'he.lt) a.2.2.2.2.2.2).bind fun c => cond (decide (0 ≤ c)) (cond (decide (c < (x.2.length : Int))) (rEnd k a (x.1, x.2.set c.toNat z.1) rs) none) none))) (rEnd k a x rs)) _
  cases hS : eB a.2.2.2.2.2.2 with
  | true =>
    have e : setS a (a.2.2.1[t]'he.lt) d x = x := by unfold setS; rw [if_pos hS]
    rw [e] at hY ⊢
    unfold eB at hS
    exact .ff (by rw [hS]; rfl) (ev_rEndC hr hY)
  | false =>
    obtain ⟨j, hj, hj2⟩ := he.s hS
    obtain ⟨hd, hw⟩ := hfw hS
    have e : setS a (a.2.2.1[t]'he.lt) d x = (x.1, x.2.set ((j : Nat) : Int).toNat (B (txL d))) := by unfold setS; rw [if_neg (by rw [hS]; decide), hj2]
    rw [e] at hY ⊢
    have hsum := (ev_rSum2 a rs ha hrf (by omega) hrows).1 (hoff hS)
    unfold eB at hS
    exact .tt (by rw [hS]; rfl) (.bind hsum (.ff rfl (.bind hw (.ff rfl (.bind ((ev_rcolumnOf _ _ (ha.c _ hkm)).to hj2) (.ck (by omega) (.ck (by omega) (ev_rEndC hr hY))))))))
theorem ev_rBodyE {a : Fmt} {rs : List Row} {tl : Row} {t : Nat} (ha : FitF a) (he : EndsF a t) (hr : rs.length ≤ 2000) (hlen : tl.2.length = (a.2.2.1[t]'he.lt).2.1.length) (hS : eB a.2.2.2.2.2.2 = false) {f : Int} (hf : f ≠ 0)
    (h : (∃ s, Ev (fun k => interchangeref6_sum k a rs) (s, f)) ∨ ∃ s u, Ev (fun k => interchangeref6_sum k a rs) (s, 0) ∧ Ev (fun k => interchangeref6_told k s) (u, f)) : Ev (fun k => rBody k a (a.2.2.1[t]'he.lt) tl rs) ([], f) := by
  refine ev_rToSum ha he hr hlen ?_
  generalize setC a (a.2.2.1[t]'he.lt) (midL a rs).length tl = x at *
  show Ev (fun k => cond (!(eqS a.2.2.2.2.2.2 (bs []))) ((interchangeref6_sum k a rs).bind fun y => cond (y.2 != 0) (some ([], y.2)) ((interchangeref6_told k y.1).bind fun z => cond (z.2 != 0) (some ([], z.2)) ((interchangeref6_columnOf k (a.2.2.1[t]'he.lt) a.2.2.2.2.2.2).bind fun c => cond (decide (0 ≤ c)) (cond (decide (c < (x.2.length : Int))) (rEnd k a (x.1, x.2.set c.toNat z.1) rs) none) none))) (rEnd k a x rs)) _
  unfold eB at hS
  have hf' : (f != 0) = true := by simpa using hf
  rcases h with ⟨s, h⟩ | ⟨s, u, h, h2⟩
  · exact .tt (by rw [hS]; rfl) (.bind h (.tt hf' (.pure _)))
  · exact .tt (by rw [hS]; rfl) (.bind h (.ff rfl (.bind h2 (.tt hf' (.pure _)))))
theorem rtold {S : Int} (h : S.natAbs < 10 ^ 100) : ∃ t : ByteArray × Int, Ev (fun k => interchangeref6_told k (N S)) t ∧ ((t = (bs [], 1) ∧ fwF 9 S = ((0, 0), 1)) ∨ ∃ d, okD d ∧ t = (B (txL d), 0) ∧ fwF 9 S = (d, 0)) := by
  obtain ⟨t, h1, h2⟩ := ev_told 9 S (Nat.le_refl _) h
  exact ⟨t, .step (fun k => interchangeref6_told_eq k _) h1, h2⟩
end Go.Proofs.YtpgbbmdfnmjjjaaGreatDoor.Eq
namespace Go.Proofs.YtpgbbmdfnmjjjaaGreatDoor.Eq
open Go Go.Ra
set_option linter.unusedVariables false
end Go.Proofs.YtpgbbmdfnmjjjaaGreatDoor.Eq
namespace Go.Proofs.YtpgbbmdfnmjjjaaGreatDoor.Eq
open Go Go.Ra
set_option linter.unusedVariables false
theorem fit_snoc {l : List Row} {r : Row} (hl : FitRs l) (hn : l.length ≤ 2000) (hr : FitR r) : FitRs (l ++ [r]) := ⟨by rw [List.length_append]; simp; omega, fun x hx => by
  rcases List.mem_append.1 hx with hx | hx
  · exact hl.r x hx
  · rw [List.mem_singleton.1 hx]; exact hr⟩
end Go.Proofs.YtpgbbmdfnmjjjaaGreatDoor.Eq
namespace Go.Proofs.YtpgbbmdfnmjjjaaGreatDoor.Eq
open Go Go.Ra
set_option linter.unusedVariables false
structure ClosE (a : Fmt) (l : List Row) (t : Nat) (tl : Row) (rs : List Row) : Prop where
  f0 : fmtF a = 0
  hT : eB a.2.2.2.2.1 = false
  n : l.length ≤ 2000
  rows : ∀ r ∈ l, RowOk a r
  vf : ∀ r ∈ l, RowVF a r
  tag : tl.1 = a.2.2.2.2.1
  len : ∀ (h : t < a.2.2.1.length), tl.2.length = (a.2.2.1[t]).2.1.length
  fit : FitR tl
  rfit : FitRs rs
  rn : rs.length ≤ 2000
  sub : ∀ r ∈ rs, r ∈ l
  mid : midL a rs = midL a l
theorem nil_size : (bs [] : ByteArray).size = 0 := rfl
theorem rep_fit (n : Nat) (T : ByteArray) (h : n < 1125899906842624) : FitR (T, List.replicate n (bs [])) := ⟨by simp only [List.length_replicate]; exact h, fun c hc => by
  rw [List.eq_of_mem_replicate hc, nil_size]
  exact Nat.zero_le _⟩
theorem mid_tail {a : Fmt} {r : Row} (hT : eB a.2.2.2.2.1 = false) (h : eqS r.1 a.2.2.2.2.1 = true) : midB a r = false := by
  unfold midB
  unfold eB at hT
  rw [h, hT]
  cases cond (eqS a.2.2.2.1 (bs [])) true (!(eqS r.1 a.2.2.2.1)) <;> rfl
theorem fits_sub {l rs : List Row} (hl : FitRs l) (hn : rs.length ≤ l.length) (h : ∀ r ∈ rs, r ∈ l) : FitRs rs := ⟨Nat.lt_of_le_of_lt hn hl.n, fun r hr => hl.r r (h r hr)⟩
theorem ev_toBody (a : Fmt) (l : List Row) (ha : FitF a) (hl : FitRs l) :
    (∃ f : Int, f ≠ 0 ∧ Ev (fun k => interchangeref6_Closed k a l) ([], f) ∧ Ev (fun k => flat_Closed k a l) ([], f)) ∨
    ∃ t, ∃ he : EndsF a t, ∃ tl rs, ClosE a l t tl rs ∧ (∀ y, Ev (fun k => rBody k a (a.2.2.1[t]'he.lt) tl rs) y → Ev (fun k => interchangeref6_Closed k a l) y) ∧
      (eB a.2.2.2.2.2.2 = false → (∃ r ∈ midL a l, offT a a.2.2.2.2.2.2 r = true) → Ev (fun k => flat_Closed k a l) ([], 6)) ∧
      ((eB a.2.2.2.2.2.2 = false → ∀ r ∈ midL a l, offT a a.2.2.2.2.2.2 r = false) → ∀ y, Ev (fun k => flat_Closed_c19 k l a (a.2.2.1[t]'he.lt) tl rs) y → Ev (fun k => flat_Closed k a l) y) := by
  have hn := hl.n
  have hlast : wi64 ((l.length : Int) - 1) = (l.length : Int) - 1 := wi64_id (by omega) (by omega)
  cases hf : (fmtF a != 0) with
  | true => exact .inl ⟨fmtF a, by simpa using hf, .step (fun k => interchangeref6_Closed_eq k _ _) (.bind (ev_rCheckFormat a ha) (.tt hf (.pure _))), .step (fun k => flat_Closed_eq k _ _) (.bind (ev_CheckFormat a ha) (.tt hf (.pure _)))⟩
  | false =>
  have h0 : fmtF a = 0 := by simpa using hf
  have hok := fmt_ok h0
  cases hT : eB a.2.2.2.2.1 with
  | true => exact .inl ⟨9, by decide, .step (fun k => interchangeref6_Closed_eq k _ _) (.bind (ev_rCheckFormat a ha) (.ff hf (.tt hT (.pure _)))), .step (fun k => flat_Closed_eq k _ _) (.bind (ev_CheckFormat a ha) (.ff hf (.tt hT (.pure _))))⟩
  | false =>
  have hT' : eqS a.2.2.2.2.1 (bs []) = false := hT
  by_cases hbig : (l.length : Int) > 2000
  · exact .inl ⟨2, by decide, .step (fun k => interchangeref6_Closed_eq k _ _) (.bind (ev_rCheckFormat a ha) (.ff hf (.ff hT' (.ck hbig (.pure _))))), .step (fun k => flat_Closed_eq k _ _) (.bind (ev_CheckFormat a ha) (.ff hf (.ff hT' (.ck hbig (.pure _)))))⟩
  obtain ⟨z, z1, z2, z3⟩ := ev_checkRows a l ha hok hl
  cases hz : (z.2 != 0) with
  | true => exact .inl ⟨z.2, by simpa using hz, .step (fun k => interchangeref6_Closed_eq k _ _) (.bind (ev_rCheckFormat a ha) (.ff hf (.ff hT' (.nk hbig (.bind z1 (.tt hz (.pure _))))))), .step (fun k => flat_Closed_eq k _ _) (.bind (ev_CheckFormat a ha) (.ff hf (.ff hT' (.nk hbig (.bind z2 (.tt hz (.pure _)))))))⟩
  | false =>
  have hz0 : z.2 = 0 := by simpa using hz
  have hrows := z3 hz0
  have hvf : ∀ r ∈ l, RowVF a r := by
    obtain ⟨y, y1, y2, _⟩ := ev_rowsVF a l ha hok hl
    exact y2 (by rw [Ev.uniq y1 z2]; exact hz0)
  obtain ⟨t, he⟩ := ends_of (fmt_ends h0) hT
  have hkm := List.getElem_mem he.lt
  have h50 := hok.len _ hkm
  have hR : Ev (fun k => interchangeref6_kindOf k a a.2.2.2.2.1) (t : Int) := (ev_rkindOf a _ ha.n).to he.k
  have hA : Ev (fun k => flat_kindAt k a a.2.2.2.2.1) (a.2.2.1[t]'he.lt, true) := (ev_kindAt a _ ha.n).to (kAt_at he.lt he.k)
  have hlt := he.lt
  have b1 : ((!(decide ((l.length : Int) > 0))) || (decide (0 ≤ (wi64 ((l.length : Int) - 1))))) = true := bor' fun w => by
    rw [hlast]
    exact decide_eq_true (by have := of_decide_eq_true w; omega)
  have b2 : ((!(decide ((l.length : Int) > 0))) || (decide ((wi64 ((l.length : Int) - 1)) < (l.length : Int)))) = true := bor' fun w => by
    rw [hlast]
    exact decide_eq_true (by omega)
  refine .inr ⟨t, he, ?_⟩
  obtain ⟨sf, sf1, sf2⟩ := ev_sumFault a (midL a l) ha (by have := mid_len a l; omega)
  have sfT : eB a.2.2.2.2.2.2 = false → (∃ r ∈ midL a l, offT a a.2.2.2.2.2.2 r = true) → sf = true := fun hS ⟨r, hr, ho⟩ => by
    cases hsf : sf with
    | true => rfl
    | false =>
      rcases sf2.1 hsf with h | h
      · rw [hS] at h; cases h
      · rw [h r hr] at ho; cases ho
  have sfF : (eB a.2.2.2.2.2.2 = false → ∀ r ∈ midL a l, offT a a.2.2.2.2.2.2 r = false) → sf = false := fun h => sf2.2 (by
    cases hS : eB a.2.2.2.2.2.2 with
    | true => exact .inl rfl
    | false => exact .inr (h hS))
  have fl6 : eB a.2.2.2.2.2.2 = false → (∃ r ∈ midL a l, offT a a.2.2.2.2.2.2 r = true) → Ev (fun k => flat_Closed k a l) ([], 6) := fun hS hex =>
    .step (fun k => flat_Closed_eq k _ _) (.bind (ev_CheckFormat a ha) (.ff hf (.ff hT' (.nk hbig (.bind z2 (.ff hz (.bind (ev_inner a l (by omega)) (.bind sf1 (.tt (sfT hS hex) (.pure _))))))))))
  cases hL : (cond (decide ((l.length : Int) > 0)) (eqS ((l.getD (wi64 ((l.length : Int) - 1)).toNat row0).1) a.2.2.2.2.1) false) with
  | true =>
    have hpos : (l.length : Int) > 0 := by
      by_cases z : (l.length : Int) > 0
      · exact z
      · rw [decide_eq_false z] at hL; cases hL
    have hp : l.length - 1 < l.length := by omega
    have hw : wi64 ((l.length : Int) - 1) = ((l.length - 1 : Nat) : Int) := by rw [hlast]; omega
    have hL2 : eqS (l[l.length - 1]).1 a.2.2.2.2.1 = true := by
      rw [decide_eq_true hpos, hw, getD_at hp] at hL
      exact hL
    have hmem := List.getElem_mem hp
    have hlen : (l[l.length - 1]).2.length = (a.2.2.1[t]'he.lt).2.1.length := by
      obtain ⟨i, hi, hk, hlen, _⟩ := hrows _ hmem
      rw [(eqS_iff _ _).1 hL2, he.k] at hk
      have : t = i := by omega
      subst this
      exact hlen
    have hsplit : l = l.take (l.length - 1) ++ [l[l.length - 1]] := by
      rw [List.take_append_getElem, List.take_of_length_le (by omega)]
    have hmid : midL a (l.take (l.length - 1)) = midL a l := by
      conv => rhs; rw [hsplit]
      rw [midL_append, midL_cons, if_neg (by rw [mid_tail hT hL2]; decide)]
      simp [midL]
    have hrl : (l.take (l.length - 1)).length ≤ l.length := List.length_take_le' ..
    have hsub : ∀ r ∈ l.take (l.length - 1), r ∈ l := fun r hr => List.mem_of_mem_take hr
    refine ⟨l[l.length - 1], l.take (l.length - 1), ⟨h0, hT, by omega, hrows, hvf, (eqS_iff _ _).1 hL2, fun _ => hlen, hl.r _ hmem, fits_sub hl hrl hsub, by omega, hsub, hmid⟩, fun y hy => ?_, fl6, fun ho y hy => ?_⟩
    · refine .step (fun k => interchangeref6_Closed_eq k _ _) (.bind (ev_rCheckFormat a ha) (.ff hf (.ff hT' (.nk hbig (.bind z1 (.ff hz (.bind hR (.ck (by omega) (.ck (by omega) ?_))))))))) 
      rw [getD_at he.lt]
      refine .ck (by omega) (.ck (by omega) (.tt b1 (.tt b2 (.tt hL ?_))))
      rw [hw, getD_at hp]
      refine .ck (by omega) (.ck (by omega) (.bind (x := l[l.length - 1]) (.step (fun k => interchangeref6_clone_eq k _) (.bind (ev_cloneT _ (by rw [hlen]; omega)) (.pure _))) (.ck (by omega) (.ck (by omega) ?_))))
      rw [Int.toNat_natCast]
      exact hy
    · refine .step (fun k => flat_Closed_eq k _ _) (.bind (ev_CheckFormat a ha) (.ff hf (.ff hT' (.nk hbig (.bind z2 (.ff hz (.bind (ev_inner a l (by omega)) (.bind sf1 (.ff (sfF ho) (.bind hA (.ck (by omega) (.ck (by simp only [Int.toNat_natCast]; omega) (.tt b1 (.tt b2 (.tt hL ?_)))))))))))))))
      rw [hw, getD_at hp]
      refine .ck (by omega) (.ck (by omega) (.bind (ev_cloneT _ (by rw [hlen]; omega)) (.ck (by omega) (.ck (by omega) ?_))))
      rw [Int.toNat_natCast, ← (eqS_iff _ _).1 hL2, row_eta]
      exact hy
  | false =>
    refine ⟨(a.2.2.2.2.1, List.replicate (((a.2.2.1[t]'he.lt).2.1.length : Nat) : Int).toNat (bs [])), l, ⟨h0, hT, by omega, hrows, hvf, rfl, fun _ => by simp only [List.length_replicate, Int.toNat_natCast], rep_fit _ _ (by simp only [Int.toNat_natCast]; omega), hl, by omega, fun r hr => hr, rfl⟩, fun y hy => ?_, fl6, fun ho y hy => ?_⟩
    · refine .step (fun k => interchangeref6_Closed_eq k _ _) (.bind (ev_rCheckFormat a ha) (.ff hf (.ff hT' (.nk hbig (.bind z1 (.ff hz (.bind hR (.ck (by omega) (.ck (by omega) ?_))))))))) 
      rw [getD_at he.lt]
      exact .ck (by omega) (.ck (by omega) (.tt b1 (.tt b2 (.ff hL hy))))
    · exact .step (fun k => flat_Closed_eq k _ _) (.bind (ev_CheckFormat a ha) (.ff hf (.ff hT' (.nk hbig (.bind z2 (.ff hz (.bind (ev_inner a l (by omega)) (.bind sf1 (.ff (sfF ho) (.bind hA (.ck (by omega) (.ck (by simp only [Int.toNat_natCast]; omega) (.tt b1 (.tt b2 (.ff hL hy)))))))))))))))
theorem ev_ClosedX (a : Fmt) (l : List Row) (ha : FitF a) (hl : FitRs l) :
    (∃ f : Int, f ≠ 0 ∧ Ev (fun k => interchangeref6_Closed k a l) ([], f) ∧ Ev (fun k => flat_Closed k a l) ([], f)) ∨
    ∃ t, ∃ he : EndsF a t, ∃ tl rs d Y, ClosE a l t tl rs ∧ (eB a.2.2.2.2.2.2 = false → ∀ r ∈ midL a l, offT a a.2.2.2.2.2.2 r = false) ∧ (eB a.2.2.2.2.2.2 = false → okD d ∧ fwF 9 (sumL ((midL a l).map (valT a a.2.2.2.2.2.2))) = (d, 0)) ∧
      FitR (setC a (a.2.2.1[t]'he.lt) (midL a l).length (setS a (a.2.2.1[t]'he.lt) d tl)) ∧
      Ev (fun k => flat_checkRow k a (setC a (a.2.2.1[t]'he.lt) (midL a l).length (setS a (a.2.2.1[t]'he.lt) d tl))) Y ∧
      Ev (fun k => interchangeref6_Closed k a l) (endY Y rs (setC a (a.2.2.1[t]'he.lt) (midL a l).length (setS a (a.2.2.1[t]'he.lt) d tl))) ∧
      Ev (fun k => flat_Closed k a l) (endY Y rs (setC a (a.2.2.1[t]'he.lt) (midL a l).length (setS a (a.2.2.1[t]'he.lt) d tl))) := by
  rcases ev_toBody a l ha hl with h | ⟨t, he, tl, rs, hE, hr, hf6, hfl⟩
  · exact .inl h
  have hok := fmt_ok hE.f0
  have hrs : ∀ r ∈ rs, RowSm a r := fun r hr => (hE.rows r (hE.sub r hr)).sm
  have hls : ∀ r ∈ l, RowSm a r := fun r hr => (hE.rows r hr).sm
  have hn := hE.n
  have h8 : ∀ r ∈ rs, r.2.length < 8796093022208 := fun r hr => by
    obtain ⟨i, hi, _, hlen, _⟩ := hE.rows r (hE.sub r hr)
    have := hok.len _ (List.getElem_mem hi)
    omega
  have hml := mid_len a l
  -- the sum, if there is one
  have fin : ∀ (d : Int × Int), (eB a.2.2.2.2.2.2 = false → ∀ r ∈ midL a l, offT a a.2.2.2.2.2.2 r = false) → (eB a.2.2.2.2.2.2 = false → okD d ∧ fwF 9 (sumL ((midL a l).map (valT a a.2.2.2.2.2.2))) = (d, 0) ∧ Ev (fun k => interchangeref6_told k (N (sumL ((midL a l).map (valT a a.2.2.2.2.2.2))))) (B (txL d), 0)) →
      ∃ t, ∃ he : EndsF a t, ∃ tl rs d Y, ClosE a l t tl rs ∧ (eB a.2.2.2.2.2.2 = false → ∀ r ∈ midL a l, offT a a.2.2.2.2.2.2 r = false) ∧ (eB a.2.2.2.2.2.2 = false → okD d ∧ fwF 9 (sumL ((midL a l).map (valT a a.2.2.2.2.2.2))) = (d, 0)) ∧
      FitR (setC a (a.2.2.1[t]'he.lt) (midL a l).length (setS a (a.2.2.1[t]'he.lt) d tl)) ∧
      Ev (fun k => flat_checkRow k a (setC a (a.2.2.1[t]'he.lt) (midL a l).length (setS a (a.2.2.1[t]'he.lt) d tl))) Y ∧
      Ev (fun k => interchangeref6_Closed k a l) (endY Y rs (setC a (a.2.2.1[t]'he.lt) (midL a l).length (setS a (a.2.2.1[t]'he.lt) d tl))) ∧
      Ev (fun k => flat_Closed k a l) (endY Y rs (setC a (a.2.2.1[t]'he.lt) (midL a l).length (setS a (a.2.2.1[t]'he.lt) d tl))) := fun d ho hd => by
    have hfit : FitR (setC a (a.2.2.1[t]'he.lt) (midL a l).length (setS a (a.2.2.1[t]'he.lt) d tl)) := setC_fit (setS_fit hE.fit fun z => (hd z).1) (by omega)
    obtain ⟨Y, Y1, Y2, _⟩ := ev_checkRow a (setC a (a.2.2.1[t]'he.lt) (midL a l).length (setS a (a.2.2.1[t]'he.lt) d tl)) ha hok hfit
    refine ⟨t, he, tl, rs, d, Y, hE, ho, fun z => ⟨(hd z).1, (hd z).2.1⟩, hfit, Y2, ?_, ?_⟩
    · have e := set_swap he (midL a l).length d tl
      rw [e] at Y1 ⊢
      have hb := ev_rBody (a := a) (rs := rs) (tl := tl) (t := t) (d := d) (Y := Y) ha he hE.rn hE.rfit hrs (hE.len he.lt) (by rw [hE.mid]; exact ho) (by rw [hE.mid]; exact fun z => ⟨(hd z).1, (hd z).2.2⟩) (by rw [hE.mid]; exact Y1)
      rw [hE.mid] at hb
      exact hr _ hb
    · exact hfl ho _ (ev_c19 ha he (by omega) hl hls ho (hE.len he.lt) hE.rn hE.rfit h8 (fun z => ⟨(hd z).1, (hd z).2.1⟩) Y2)
  cases hS : eB a.2.2.2.2.2.2 with
  | true => exact .inr (by simpa only [hS] using fin (0, 0) (fun z => by rw [hS] at z; cases z) (fun z => by rw [hS] at z; cases z))
  | false =>
    by_cases hex : ∃ r ∈ midL a l, offT a a.2.2.2.2.2.2 r = true
    · refine .inl ⟨6, by decide, hr _ ?_, hf6 hS hex⟩
      refine ev_rBodyE ha he hE.rn (hE.len he.lt) hS (by decide) (.inl ((ev_rSum2 a rs ha hE.rfit (by have := hE.rn; omega) hrs).2 (by rw [hE.mid]; exact hex)))
    · have ho : ∀ r ∈ midL a l, offT a a.2.2.2.2.2.2 r = false := fun r hr => by
        cases h : offT a a.2.2.2.2.2.2 r with
        | true => exact absurd ⟨r, hr, h⟩ hex
        | false => rfl
      obtain ⟨u, u1, u2⟩ := rtold (sum_small a l ha hl (by omega) hls ho)
      rcases u2 with ⟨rfl, hw⟩ | ⟨d, hd, rfl, hw⟩
      · refine .inl ⟨1, by decide, hr _ ?_, hfl (fun _ => ho) _ (ev_c19e ha he (by omega) hl hls hS ho (by decide) hw)⟩
        have hsum := (ev_rSum2 a rs ha hE.rfit (by have := hE.rn; omega) hrs).1 (by rw [hE.mid]; exact ho)
        rw [hE.mid] at hsum
        exact ev_rBodyE ha he hE.rn (hE.len he.lt) hS (by decide) (.inr ⟨_, _, hsum, u1⟩)
      · exact .inr (by simpa only [hS] using fin d (fun _ => ho) (fun _ => ⟨hd, hw, u1⟩))
theorem endY_fit {Y : Int × Int} {rs : List Row} {x : Row} (h : FitRs rs) (hx : FitR x) : FitRs (endY Y rs x).1 := by
  have fit0 : FitRs ([] : List Row) := ⟨Nat.zero_lt_succ _, fun r hr => by cases hr⟩
  unfold endY
  split
  · exact fit0
  · split
    · exact fit0
    · exact fit_snoc h (by omega) hx
theorem ev_ClosedB (a : Fmt) (l : List Row) (ha : FitF a) (hl : FitRs l) : ∃ y : List Row × Int, Ev (fun k => interchangeref6_Closed k a l) y ∧ Ev (fun k => flat_Closed k a l) y ∧ FitRs y.1 := by
  rcases ev_ClosedX a l ha hl with ⟨f, _, h1, h2⟩ | ⟨t, he, tl, rs, d, Y, hE, _, _, hfit, _, h1, h2⟩
  · exact ⟨_, h1, h2, Nat.zero_lt_succ _, fun r hr => by cases hr⟩
  · exact ⟨_, h1, h2, endY_fit hE.rfit hfit⟩
theorem ev_TotalsB (a : Fmt) (l : List Row) (ha : FitF a) (hl : FitRs l) (hM : l.length ≤ 3518437208780) : ∃ y : Int × Int, Ev (fun k => interchangeref6_CheckTotals k a l) y ∧ Ev (fun k => flat_CheckTotals k a l) y := by
  have hlast : wi64 ((l.length : Int) - 1) = (l.length : Int) - 1 := wi64_id (by omega) (by omega)
  obtain ⟨y, y1, y2, y3⟩ := ev_CheckOrder a l ha hl
  cases hy : (y.2 != 0) with
  | true => exact ⟨(0, y.2), .step (fun k => interchangeref6_CheckTotals_eq k _ _) (.bind y1 (.tt hy (.pure _))), .step (fun k => flat_CheckTotals_eq k _ _) (.bind y2 (.tt hy (.pure _)))⟩
  | false =>
  obtain ⟨h0, hrows, hT0⟩ := y3 (by simpa using hy)
  cases hT : eB a.2.2.2.2.1 with
  | true => exact ⟨(0, 9), .step (fun k => interchangeref6_CheckTotals_eq k _ _) (.bind y1 (.ff hy (.tt hT (.pure _)))), .step (fun k => flat_CheckTotals_eq k _ _) (.bind y2 (.ff hy (.tt hT (.pure _))))⟩
  | false =>
  have hT' : eqS a.2.2.2.2.1 (bs []) = false := hT
  obtain ⟨hp, hL2⟩ := hT0 hT
  have hw : wi64 ((l.length : Int) - 1) = ((l.length - 1 : Nat) : Int) := by rw [hlast]; omega
  obtain ⟨t, he⟩ := ends_of (fmt_ends h0) hT
  have hkm := List.getElem_mem he.lt
  have hlt := he.lt
  have hmem := List.getElem_mem hp
  have hls : ∀ r ∈ l, RowSm a r := fun r hr => (hrows r hr).sm
  have hlen : (l[l.length - 1]).2.length = (a.2.2.1[t]'he.lt).2.1.length := by
    obtain ⟨i, hi, hk, hlen, _⟩ := hrows _ hmem
    rw [(eqS_iff _ _).1 hL2, he.k] at hk
    have : t = i := by omega
    subst this
    exact hlen
  have hml := mid_len a l
  have hR : Ev (fun k => interchangeref6_kindOf k a a.2.2.2.2.1) (t : Int) := (ev_rkindOf a _ ha.n).to he.k
  have hA : Ev (fun k => flat_kindAt k a a.2.2.2.2.1) (a.2.2.1[t]'he.lt, true) := (ev_kindAt a _ ha.n).to (kAt_at he.lt he.k)
  have hcR := fun d => ev_rcolumnOf (a.2.2.1[t]'he.lt) d (ha.c _ hkm)
  have hcA := fun d => ev_columnAt (a.2.2.1[t]'he.lt) d (ha.c _ hkm)
  -- the sum
  have sum : ∃ y : Int × Int, Ev (fun k => cond (eqS a.2.2.2.2.2.2 (bs [])) (some (0, 0)) ((interchangeref6_sum k a l).bind fun y5 => cond (y5.2 != 0) (some (1, y5.2)) ((interchangeref6_told k y5.1).bind fun y6 => cond (y6.2 != 0) (some (1, y6.2)) ((interchangeref6_columnOf k (a.2.2.1[t]'he.lt) a.2.2.2.2.2.2).bind fun y7 => cond (decide (0 ≤ y7)) (cond (decide (y7 < ((l[l.length - 1]).2.length : Int))) (cond (!(eqS ((l[l.length - 1]).2.getD y7.toNat (bs [])) y6.1)) (some (1, 12)) (some (0, 0))) none) none)))) y ∧
      Ev (fun k => cond (eqS a.2.2.2.2.2.2 (bs [])) (some (0, 0)) ((flat_inner k a l).bind fun y5 => (flat_sumFault k a y5).bind fun y6 => cond y6 (some (1, 6)) ((flat_inner k a l).bind fun y7 => (flat_sumOf k a y7 (bs []) a.2.2.2.2.2.2).bind fun y8 => cond (y8.2 != 0) (some (1, y8.2)) ((flat_columnAt k (a.2.2.1[t]'he.lt) a.2.2.2.2.2.2).bind fun y9 => cond (decide (0 ≤ y9)) (cond (decide (y9 < ((l[l.length - 1]).2.length : Int))) ((amount_Told k y8.1).bind fun y10 => cond (!(eqS ((l[l.length - 1]).2.getD y9.toNat (bs [])) y10)) (some (1, 12)) (some (0, 0))) none) none)))) y := by
    cases hS : eB a.2.2.2.2.2.2 with
    | true =>
      unfold eB at hS
      exact ⟨(0, 0), .tt hS (.pure _), .tt hS (.pure _)⟩
    | false =>
      have hS' : eqS a.2.2.2.2.2.2 (bs []) = false := hS
      obtain ⟨sf, sf1, sf2⟩ := ev_sumFault a (midL a l) ha (by omega)
      by_cases hex : ∃ r ∈ midL a l, offT a a.2.2.2.2.2.2 r = true
      · obtain ⟨s, hs⟩ := (ev_rSum2 a l ha hl hM hls).2 hex
        refine ⟨(1, 6), .ff hS' (.bind hs (.tt rfl (.pure _))), .ff hS' (.bind (ev_inner a l hM) (.bind sf1 (.tt ?_ (.pure _))))⟩
        cases hsf : sf with
        | true => rfl
        | false =>
          obtain ⟨r, hr, ho⟩ := hex
          rcases sf2.1 hsf with h | h
          · rw [hS] at h; cases h
          · rw [h r hr] at ho; cases ho
      · have ho : ∀ r ∈ midL a l, offT a a.2.2.2.2.2.2 r = false := fun r hr => by
          cases h : offT a a.2.2.2.2.2.2 r with
          | true => exact absurd ⟨r, hr, h⟩ hex
          | false => rfl
        have hsf : sf = false := sf2.2 (.inr ho)
        have hsum := (ev_rSum2 a l ha hl hM hls).1 ho
        have hfs := ev_aSum2 a l ha hl hM hls ho
        obtain ⟨u, u1, u2⟩ := rtold (sum_small a l ha hl hM hls ho)
        obtain ⟨j, hj, hj2⟩ := he.s hS
        rcases u2 with ⟨rfl, hw⟩ | ⟨d, hd, rfl, hw⟩
        · exact ⟨(1, 1), .ff hS' (.bind hsum (.ff rfl (.bind u1 (.tt rfl (.pure _))))), .ff hS' (.bind (ev_inner a l hM) (.bind sf1 (.ff hsf (.bind (ev_inner a l hM) (.bind (hfs.to hw) (.tt rfl (.pure _)))))))⟩
        · exact ⟨cond (!(eqS ((l[l.length - 1]).2.getD ((j : Nat) : Int).toNat (bs [])) (B (txL d)))) (1, 12) (0, 0), .ff hS' (.bind hsum (.ff rfl (.bind u1 (.ff rfl (.bind ((hcR _).to hj2) (.ck (by omega) (.ck (by omega) (.sel rfl (fun _ => .pure _) fun _ => .pure _)))))))), .ff hS' (.bind (ev_inner a l hM) (.bind sf1 (.ff hsf (.bind (ev_inner a l hM) (.bind (hfs.to hw) (.ff rfl (.bind ((hcA _).to hj2) (.ck (by omega) (.ck (by omega) (.bind (ev_told2 hd) (.sel rfl (fun _ => .pure _) fun _ => .pure _)))))))))))⟩
  obtain ⟨y, s1, s2⟩ := sum
  have rs : ∀ {z : Int × Int}, Ev (fun k => (cond (!(eqS a.2.2.2.2.2.1 (bs []))) (interchangeref6_columnOf k (a.2.2.1[t]'he.lt) a.2.2.2.2.2.1) (some 0)).bind fun y2 => cond ((!(!(eqS a.2.2.2.2.2.1 (bs [])))) || (decide (0 ≤ y2))) (cond ((!(!(eqS a.2.2.2.2.2.1 (bs [])))) || (decide (y2 < ((l[l.length - 1]).2.length : Int)))) ((cond (!(eqS a.2.2.2.2.2.1 (bs []))) (interchangeref6_count k a l) (some 0)).bind fun y3 => (cond (!(eqS a.2.2.2.2.2.1 (bs []))) (strconv_Itoa k y3) (some (bs []))).bind fun y4 => cond (cond (!(eqS a.2.2.2.2.2.1 (bs []))) (!(eqS ((l[l.length - 1]).2.getD y2.toNat (bs [])) y4)) false) (some (0, 12)) (cond (eqS a.2.2.2.2.2.2 (bs [])) (some (0, 0)) ((interchangeref6_sum k a l).bind fun y5 => cond (y5.2 != 0) (some (1, y5.2)) ((interchangeref6_told k y5.1).bind fun y6 => cond (y6.2 != 0) (some (1, y6.2)) ((interchangeref6_columnOf k (a.2.2.1[t]'he.lt) a.2.2.2.2.2.2).bind fun y7 => cond (decide (0 ≤ y7)) (cond (decide (y7 < ((l[l.length - 1]).2.length : Int))) (cond (!(eqS ((l[l.length - 1]).2.getD y7.toNat (bs [])) y6.1)) (some (1, 12)) (some (0, 0))) none) none))))) none) none) z → Ev (fun k => interchangeref6_CheckTotals k a l) z := fun {z} hz => by
    refine .step (fun k => interchangeref6_CheckTotals_eq k _ _) (.bind y1 (.ff hy (.ff hT' (.bind hR (.ck (by omega) (.ck (by omega) (.ck (by omega) (.ck (by omega) ?_))))))))
    rw [hw, getD_at he.lt, getD_at hp]
    exact hz
  have fs : ∀ {z : Int × Int}, Ev (fun k => (cond (!(eqS a.2.2.2.2.2.1 (bs []))) (flat_columnAt k (a.2.2.1[t]'he.lt) a.2.2.2.2.2.1) (some 0)).bind fun y2 => cond ((!(!(eqS a.2.2.2.2.2.1 (bs [])))) || (decide (0 ≤ y2))) (cond ((!(!(eqS a.2.2.2.2.2.1 (bs [])))) || (decide (y2 < ((l[l.length - 1]).2.length : Int)))) ((cond (!(eqS a.2.2.2.2.2.1 (bs []))) (flat_inner_1 k a l) (some [])).bind fun y3 => (cond (!(eqS a.2.2.2.2.2.1 (bs []))) (strconv_Itoa k (y3.length : Int)) (some (bs []))).bind fun y4 => cond (cond (!(eqS a.2.2.2.2.2.1 (bs []))) (!(eqS ((l[l.length - 1]).2.getD y2.toNat (bs [])) y4)) false) (some (0, 12)) (cond (eqS a.2.2.2.2.2.2 (bs [])) (some (0, 0)) ((flat_inner k a l).bind fun y5 => (flat_sumFault k a y5).bind fun y6 => cond y6 (some (1, 6)) ((flat_inner k a l).bind fun y7 => (flat_sumOf k a y7 (bs []) a.2.2.2.2.2.2).bind fun y8 => cond (y8.2 != 0) (some (1, y8.2)) ((flat_columnAt k (a.2.2.1[t]'he.lt) a.2.2.2.2.2.2).bind fun y9 => cond (decide (0 ≤ y9)) (cond (decide (y9 < ((l[l.length - 1]).2.length : Int))) ((amount_Told k y8.1).bind fun y10 => cond (!(eqS ((l[l.length - 1]).2.getD y9.toNat (bs [])) y10)) (some (1, 12)) (some (0, 0))) none) none))))) none) none) z → Ev (fun k => flat_CheckTotals k a l) z := fun {z} hz => by
    refine .step (fun k => flat_CheckTotals_eq k _ _) (.bind y2 (.ff hy (.ff hT' (.bind hA (.ck (by omega) (.ck (by omega) ?_))))))
    rw [hw, getD_at hp]
    exact hz
  cases hC : eB a.2.2.2.2.2.1 with
  | true =>
    have hC' : eqS a.2.2.2.2.2.1 (bs []) = true := hC
    have n1 : (!(eqS a.2.2.2.2.2.1 (bs []))) = false := by rw [hC']; rfl
    refine ⟨y, rs ?_, fs ?_⟩
    · exact .bind (.ff n1 (.pure 0)) (.tt (by rw [n1]; rfl) (.tt (by rw [n1]; rfl) (.bind (.ff n1 (.pure 0)) (.bind (.ff n1 (.pure _)) (.ff (by rw [n1]; rfl) s1)))))
    · exact .bind (.ff n1 (.pure 0)) (.tt (by rw [n1]; rfl) (.tt (by rw [n1]; rfl) (.bind (.ff n1 (.pure [])) (.bind (.ff n1 (.pure _)) (.ff (by rw [n1]; rfl) s2)))))
  | false =>
    have hC' : eqS a.2.2.2.2.2.1 (bs []) = false := hC
    have n1 : (!(eqS a.2.2.2.2.2.1 (bs []))) = true := by rw [hC']; rfl
    obtain ⟨i, hi, hi2⟩ := he.c hC
    have hIt : Ev (fun k => strconv_Itoa k ((midL a l).length : Int)) (B (Lib.itoa ((midL a l).length : Int))) := ev_Itoa (by omega) (by omega)
    refine ⟨cond (!(eqS ((l[l.length - 1]).2.getD ((i : Nat) : Int).toNat (bs [])) (B (Lib.itoa ((midL a l).length : Int))))) (0, 12) y, rs ?_, fs ?_⟩
    · exact .bind (.tt n1 ((hcR _).to hi2)) (.tt (bor' fun _ => by simp) (.tt (bor' fun _ => decide_eq_true (by omega)) (.bind (.tt n1 (ev_rCount2 a l hM)) (.bind (.tt n1 hIt) (.sel (by rw [n1]; rfl) (fun _ => .pure _) fun _ => s1)))))
    · exact .bind (.tt n1 ((hcA _).to hi2)) (.tt (bor' fun _ => by simp) (.tt (bor' fun _ => decide_eq_true (by omega)) (.bind (.tt n1 (ev_inner1 a l hM)) (.bind (.tt n1 hIt) (.sel (by rw [n1]; rfl) (fun _ => .pure _) fun _ => s2)))))
theorem ev_law_orders (a : Fmt) (l : List Row) (ha : FitF a) (hl : FitRs l) (hM : l.length ≤ 3518437208780) : Ev (fun k => interchangelaw6_FlatOrdersMatchSpec k a l) true := by
  obtain ⟨y, y1, y2, _⟩ := ev_CheckOrder a l ha hl
  obtain ⟨z, z1, z2⟩ := ev_TotalsB a l ha hl hM
  obtain ⟨c, c1, c2, c3⟩ := ev_ClosedB a l ha hl
  refine .step (fun k => interchangelaw6_FlatOrdersMatchSpec_eq k _ _) (.bind y1 (.bind y2 (.ff (by simp) (.bind z1 (.bind z2 (.ff (by simp) (.bind c1 (.bind c2 (.bind (x := true) (.tt (by simp) (ev_same _ c3)) (.bind (x := true) (.tt (by simp) ev_awakeF) (.to (.pure _) (by simp))))))))))))
end Go.Proofs.YtpgbbmdfnmjjjaaGreatDoor.Eq
