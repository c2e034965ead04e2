/- What the functions of this law compute, part 3. -/
import Derived.Test.YtkkkmnjgjmhdnaaGreatDoorP2
namespace Go.Proofs.YtkkkmnjgjmhdnaaGreatDoor.Eq
open Go Go.Ra
set_option linter.unusedVariables false
theorem num_chars {b : Col} {c : ByteArray} (hv : IsV b c) (h2 : b.2.1 = 2) : ∀ x ∈ L c, dgB x = true ∨ x = 45 ∨ x = 46 := by
  obtain ⟨neg, w, f, has, hl, hw, hno, hyes, _⟩ := rtx_parts _ (hv.num h2).1
  intro x hx
  rw [hl] at hx
  rcases List.mem_append.1 hx with hx | hx
  · cases neg with
    | true => exact .inr (.inl (by simpa using hx))
    | false => cases hx
  · rcases List.mem_append.1 hx with hx | hx
    · exact .inl (digB_all (whole_dg hw) x hx)
    · cases hh : has with
      | false => rw [hh] at hx; cases hx
      | true =>
        rw [hh, if_pos rfl] at hx
        rcases List.mem_cons.1 hx with hx | hx
        · exact .inr (.inr hx)
        · exact .inl (digB_all (hyes hh).1 x hx)
theorem nm_dig {l : List UInt8} (h : nmL l ≠ -1) : digB l = true := by
  cases hd : digB l with
  | true => rfl
  | false => exact absurd (nmL_no hd) h
theorem day_chars {b : Col} {c : ByteArray} (hc : c.size ≤ 140737488351232) (hv : IsV b c) (h3 : b.2.1 = 3) : ∀ x ∈ L c, dgB x = true := by
  have hsz := size_L c
  obtain ⟨n, _, n2⟩ := hv.day h3
  obtain ⟨t, t1, t2, _⟩ := ev_day (L c) (by omega)
  have T := (ev_rd1T (L c) 1 (by decide) (by omega)).1
  have e1 := Ev.uniq t1 T
  rw [B_L] at t2
  have e2 := Ev.uniq t2 n2
  rw [e2] at e1
  by_cases h8 : (L c).length = 8
  · rw [if_pos h8] at e1
    have hno : ¬ (nmL ((L c).take 4) = -1 ∨ nmL (((L c).drop 4).take 2) = -1 ∨ nmL ((L c).drop 6) = -1) := fun z => by
      rw [finD_no z] at e1
      have : (0 : Int) = 10 := congrArg Prod.snd e1
      exact absurd this (by decide)
    have d1 := nm_dig (fun z => hno (.inl z))
    have d2 := nm_dig (fun z => hno (.inr (.inl z)))
    have d3 := nm_dig (fun z => hno (.inr (.inr z)))
    intro x hx
    have e : L c = (L c).take 4 ++ (((L c).drop 4).take 2 ++ (L c).drop 6) := by
      have q1 := List.take_append_drop 4 (L c)
      have q2 := List.take_append_drop 2 ((L c).drop 4)
      rw [List.drop_drop] at q2
      rw [q2, q1]
    rw [e] at hx
    rcases List.mem_append.1 hx with hx | hx
    · exact digB_all d1 x hx
    · rcases List.mem_append.1 hx with hx | hx
      · exact digB_all d2 x hx
      · exact digB_all d3 x hx
  · rw [if_neg h8] at e1
    have : (0 : Int) = 10 := congrArg Prod.snd e1
    exact absurd this (by decide)
theorem mark_byte {m : Int} (h : markB m = true) : dgB m.toNat.toUInt8 = false ∧ m.toNat.toUInt8 ≠ 45 ∧ m.toNat.toUInt8 ≠ 46 := by
  have hl := mark_lt h
  have : ∀ n : Fin 128, markB (n.val : Int) = true → dgB n.val.toUInt8 = false ∧ n.val.toUInt8 ≠ 45 ∧ n.val.toUInt8 ≠ 46 := by decide +kernel
  have hh := this ⟨m.toNat, by omega⟩
  have e : ((m.toNat : Nat) : Int) = m := Int.toNat_of_nonneg (by omega)
  rw [e] at hh
  exact hh h
theorem wid_eq {m : Int} {b : Col} {l : List UInt8} {d : Int × Int} {s : Shp} (hp : 0 ≤ b.2.2.2.1 ∧ b.2.2.2.1 ≤ 9) (hd : 0 ≤ d.2 ∧ d.2 ≤ 9) (hs : ShpOf l d s) :
    wid m b s = if m = 0 then (if 0 < s.2.1 then s.1 + s.2.1 + b.2.2.2.1 else s.1 + b.2.2.2.1 - s.2.2.2 + 1) else (if 0 < s.2.2.1 then s.1 + (if 1 ≤ s.2.1 then s.2.1 else 1) + 1 + s.2.2.1 else s.1 + s.2.1) := by
  have h1 := hs.sg
  have h2 := hs.bf
  have h3 := hs.fs
  have h4 := hs.pl
  unfold wid
  by_cases hm : m = 0
  · rw [if_pos hm, hm]
    by_cases hb : 0 < s.2.1
    · rw [if_pos hb, decide_eq_true (show s.2.1 > 0 from hb)]
      show wi64 (wi64 (s.1 + s.2.1) + b.2.2.2.1) = _
      rw [wi64_id (x := s.1 + s.2.1) (by omega) (by omega), wi64_id (by omega) (by omega)]
    · rw [if_neg hb, decide_eq_false (show ¬ s.2.1 > 0 from hb)]
      show wi64 (wi64 (wi64 (s.1 + b.2.2.2.1) - s.2.2.2) + 1) = _
      rw [wi64_id (x := s.1 + b.2.2.2.1) (by omega) (by omega), wi64_id (x := s.1 + b.2.2.2.1 - s.2.2.2) (by omega) (by omega), wi64_id (by omega) (by omega)]
  · rw [if_neg hm]
    have hm' : (m == 0) = false := by simpa using hm
    rw [hm']
    by_cases hb : 0 < s.2.2.1
    · rw [if_pos hb, decide_eq_true (show s.2.2.1 > 0 from hb)]
      show wi64 (wi64 (wi64 (s.1 + maxI s.2.1 1) + 1) + s.2.2.1) = _
      have e : maxI s.2.1 1 = if 1 ≤ s.2.1 then s.2.1 else 1 := by
        unfold maxI
        split <;> split <;> omega
      have e2 : 1 ≤ (if 1 ≤ s.2.1 then s.2.1 else 1) ∧ (if 1 ≤ s.2.1 then s.2.1 else 1) ≤ 16 := by split <;> omega
      rw [e]
      generalize (if 1 ≤ s.2.1 then s.2.1 else 1) = q at *
      rw [wi64_id (x := s.1 + q) (by omega) (by omega), wi64_id (x := s.1 + q + 1) (by omega) (by omega), wi64_id (by omega) (by omega)]
    · rw [if_neg hb, decide_eq_false (show ¬ s.2.2.1 > 0 from hb)]
      exact wi64_id (by omega) (by omega)
/-- A number's bytes are its shape's. -/
theorem wr_size {a : Fmt} {b : Col} (hb : ColOk a.1 b) {c : ByteArray} (hc : c.size ≤ 140737488351232) (hne : eqS c (bs []) = false) (hv : IsV b c) (h2 : b.2.1 = 2) {s : Shp} (hs : ShpOf (L c) (rtx (L c)).1 s) {w : ByteArray} (hw : Ev (fun k => flat_written k a b c) w) : (w.size : Int) = wid a.1 b s := by
  obtain ⟨hz, hp, _⟩ := hv.num h2
  have hok := rtx_ok _ hz
  have hpl := hb.pl h2
  rw [wid_eq hpl ⟨hok.2.2.1, hok.2.2.2⟩ hs]
  obtain ⟨w', w1, _, _, w3, w4⟩ := ev_wrF a b hb c hc hne hv
  have e := Ev.uniq hw w1
  have hsz := size_L c
  by_cases hm : a.1 = 0
  · rw [if_pos hm, e, w4 h2 hm, size_B]
    exact hs.fx _ hp hpl.2
  · rw [if_neg hm, e, w3 h2 hm, hsz]
    exact hs.mw
theorem vf_turn {a b : Fmt} {c o : Col} (ca : ColOk a.1 c) (cb : ColOk b.1 o) (ty : o.2.1 = c.2.1) (hn : NoLoss a b c o) (hm : b.1 ≠ 0 → markB b.1 = true) {v : ByteArray} (hs : v.size ≤ 140737488351232) (hne : eqS v (bs []) = false) (h : VF a c v) : VF b o v := by
  have hv := h.isV hne
  have hsz := size_L v
  have h0 := ne_size hne
  obtain ⟨wa, wa1, wa3, wa0, _, _⟩ := ev_wrF a c ca v hs hne hv
  have hwa := h.len hne wa wa1
  -- numbers
  have num : c.2.1 = 2 → (rtx (L v)).1.2 ≤ o.2.2.2.1 ∧ ((rtx (L v)).1 = (0, 0) ∧ (L v).length = 1 ∨ ∃ s, ShpOf (L v) (rtx (L v)).1 s ∧ wid b.1 o s ≤ o.2.2.1) := fun h2 => by
    have hpo := cb.pl (by rw [ty]; exact h2)
    rcases num_shape hv h2 with ⟨z1, z2⟩ | ⟨s, hsh⟩
    · refine ⟨?_, .inl ⟨z1, z2⟩⟩
      rw [z1]
      exact hpo.1
    · have hsize := wr_size ca hs hne hv h2 hsh wa1
      have hin : inS a.1 c s = true := by
        unfold inS
        have q1 : s.2.2.1 ≤ c.2.2.2.1 := by rw [hsh.pl]; exact (hv.num h2).2.1
        rw [decide_eq_true q1]
        exact decide_eq_true (by omega)
      have hin2 := hn.num h2 s hsh.mem hin
      unfold inS at hin2
      by_cases q : s.2.2.1 ≤ o.2.2.2.1
      · rw [decide_eq_true q] at hin2
        exact ⟨by rw [← hsh.pl]; exact q, .inr ⟨s, hsh, of_decide_eq_true hin2⟩⟩
      · rw [decide_eq_false q] at hin2
        cases hin2
  have isV : IsV o v := by
    refine ⟨fun z => ?_, fun z => hv.day (by rw [← ty]; exact z), fun z1 z2 => hv.txt (by rw [← ty]; exact z1) (by rw [← ty]; exact z2)⟩
    have h2 : c.2.1 = 2 := by rw [← ty]; exact z
    exact ⟨(hv.num h2).1, (num h2).1, (hv.num h2).2.2⟩
  obtain ⟨wb, wb1, wb3, wb0, wbm, wbf⟩ := ev_wrF b o cb v hs hne isV
  refine ⟨(fun z => by rw [hne] at z; cases z), fun _ => isV, fun _ w hw => ?_, fun _ q1 q2 => ?_⟩
  · rw [Ev.uniq hw wb1]
    have tcase := cb.ty
    by_cases h2 : o.2.1 = 2
    · rcases (num (by rw [← ty]; exact h2)).2 with ⟨z1, z2⟩ | ⟨s, hsh, hle⟩
      · have hw1 := cb.w1
        by_cases hb0 : b.1 = 0
        · rw [wbf h2 hb0, size_B, z1]
          have e : sc (0, 0) o.2.2.2.1 = 0 := by unfold sc; exact Int.zero_mul _
          have e1 : (Lib.itoa 0).length = 1 := by
            rw [show (0 : Int) = ((0 : Nat) : Int) from rfl, itoa_nat, Lib.decDigits_one (by decide)]
            rfl
          rw [e, e1]
          omega
        · rw [wbm h2 hb0]
          omega
      · rw [wr_size cb hs hne isV h2 hsh wb1]
        exact hle
    · by_cases h3 : o.2.1 = 3
      · have h3' : c.2.1 = 3 := by rw [← ty]; exact h3
        rw [wb3 h3]
        have := wa3 h3'
        exact hn.day h3' (by omega)
      · have h2' : c.2.1 ≠ 2 := by rw [← ty]; exact h2
        have h3' : c.2.1 ≠ 3 := by rw [← ty]; exact h3
        rw [wb0 h3 h2]
        have := wa0 h3' h2'
        rw [this] at hwa
        have := (hn.txt h2' h3').1
        omega
  · have hmb := mark_byte (hm q1)
    have notin : b.1.toNat.toUInt8 ∉ L v → Lib.indexByte (L v) b.1.toNat.toUInt8 < 0 := fun z => by rw [indexByte_none z]; decide
    by_cases h2 : c.2.1 = 2
    · refine notin fun z => ?_
      rcases num_chars hv h2 _ z with q | q | q
      · rw [hmb.1] at q; cases q
      · exact hmb.2.1 q
      · exact hmb.2.2 q
    · by_cases h3 : c.2.1 = 3
      · refine notin fun z => ?_
        have := day_chars hs hv h3 _ z
        rw [hmb.1] at this
        cases this
      · obtain ⟨hwd, hbar⟩ := hn.txt h2 h3
        have hbb : barI b = b.1 := by unfold barI; rw [q2]; rfl
        rcases hbar with q | q | ⟨q, qw⟩
        · rw [hbb] at q; exact absurd q q1
        · rw [hbb] at q
          have hne0 : barI a ≠ 0 := by rw [← q]; exact q1
          have ha2 : a.2.1 = 0 := by
            by_cases z : a.2.1 = 0
            · exact z
            · have : (a.2.1 != 0) = true := by simpa using z
              unfold barI at hne0
              rw [this] at hne0
              exact absurd rfl hne0
          have ha1 : barI a = a.1 := by unfold barI; rw [ha2]; rfl
          rw [ha1] at q hne0
          have := h.bar hne hne0 ha2
          rw [← q] at this
          exact this
        · rw [hbb] at q
          rw [q]
          have hw0 := wa0 h3 h2
          rw [hw0] at hwa
          have hpl := hv.txt h2 h3
          unfold plB at hpl
          simp only [Bool.and_eq_true, bne_iff_ne] at hpl
          have hl2 : (L v).length ≤ 2 := by omega
          have hnot : (Int.toNat 32).toUInt8 ∉ L v := fun z => by
            obtain ⟨i, hi, he⟩ := List.getElem_of_mem z
            have hg : (L v).getD i 0 = 32 := by rw [getD_nat hi]; exact he
            have : i = 0 ∨ i = (L v).length - 1 := by omega
            rcases this with rfl | rfl
            · exact hpl.2.1 hg
            · exact hpl.2.2 hg
          rw [indexByte_none hnot]
          decide
/-! ### rows -/
/-- A row whose values are right. -/
def RowVF (a : Fmt) (b : Row) : Prop := ∃ i : Nat, ∃ hi : i < a.2.2.1.length, kOf a.2.2.1 b.1 = i ∧ b.2.length = (a.2.2.1[i]).2.1.length ∧ ∀ j (hj : j < b.2.length) (hj' : j < (a.2.2.1[i]).2.1.length), VF a ((a.2.2.1[i]).2.1[j]) (b.2[j])
theorem ev_rowVF (a : Fmt) (b : Row) (ha : FitF a) (hok : FmtOk a) (hb : FitR b) : ∃ y : Int × Int, Ev (fun k => flat_checkRow k a b) y ∧ (y.2 = 0 → RowVF a b) ∧ (RowVF a b → y.2 = 0) := by
  by_cases h0 : kOf a.2.2.1 b.1 < 0
  · refine ⟨(0, 9), .step (fun k => flat_checkRow_eq k _ _) (.bind (ev_kindAt a _ ha.n) ?_), fun z => absurd z (by decide), fun ⟨i, hi, hk, _⟩ => by omega⟩
    rw [kAt_no h0]
    exact .tt rfl (.pure _)
  · obtain ⟨i, hi, hk, _⟩ := ixI_get (show 0 ≤ ixI (tagP b.1) a.2.2.1 from Int.not_lt.1 h0)
    have hk' : kOf a.2.2.1 b.1 = (i : Int) := hk
    have hmem := List.getElem_mem hi
    have hcl := hok.len _ hmem
    have hcol := hok.col _ hmem
    have hA : Ev (fun k => flat_kindAt k a b.1) (a.2.2.1[i], true) := (ev_kindAt a _ ha.n).to (kAt_at hi hk')
    by_cases hlen : b.2.length = (a.2.2.1[i]).2.1.length
    · have key : ∃ y : Int × Int, Ev (fun k => flat_checkRow_c7 k a b (a.2.2.1[i]).2.1 ((a.2.2.1[i]).2.1.length : Int) 0) y ∧ Ev (fun k => flat_checkRow_c7 k a b (a.2.2.1[i]).2.1 ((a.2.2.1[i]).2.1.length : Int) 0) y ∧
          ((y.2 = 0 → ∀ j, 0 ≤ j → ∀ (hj : j < b.2.length) (hj' : j < (a.2.2.1[i]).2.1.length), VF a ((a.2.2.1[i]).2.1[j]) (b.2[j])) ∧ ((∀ j, 0 ≤ j → ∀ (hj : j < b.2.length) (hj' : j < (a.2.2.1[i]).2.1.length), VF a ((a.2.2.1[i]).2.1[j]) (b.2[j])) → y.2 = 0)) := by
        refine ev_up2 b.2.length (fun (m : Nat) (y : Int × Int) => (y.2 = 0 → ∀ j, m ≤ j → ∀ (hj : j < b.2.length) (hj' : j < (a.2.2.1[i]).2.1.length), VF a ((a.2.2.1[i]).2.1[j]) (b.2[j])) ∧ ((∀ j, m ≤ j → ∀ (hj : j < b.2.length) (hj' : j < (a.2.2.1[i]).2.1.length), VF a ((a.2.2.1[i]).2.1[j]) (b.2[j])) → y.2 = 0)) (fun k j => flat_checkRow_c7 k a b (a.2.2.1[i]).2.1 ((a.2.2.1[i]).2.1.length : Int) j) (fun k j => flat_checkRow_c7 k a b (a.2.2.1[i]).2.1 ((a.2.2.1[i]).2.1.length : Int) j) (fun m hm h => ?_) ?_
        · obtain ⟨y, _, y2, y3, y4⟩ := h
          have hm' : m < (a.2.2.1[i]).2.1.length := by omega
          obtain ⟨f, f1, f2⟩ := ev_vf a ((a.2.2.1[i]).2.1[m]) (hcol _ (List.getElem_mem hm')) (b.2[m]) (hb.s _ (List.getElem_mem hm))
          have he : Ev (fun k => flat_checkRow_c7 k a b (a.2.2.1[i]).2.1 ((a.2.2.1[i]).2.1.length : Int) ((m : Nat) : Int)) (cond (f != 0) ((m : Int), f) y) := by
            refine .step (fun k => flat_checkRow_c7_eq k _ _ _ _ _) (.ck (by omega) (.ck (by omega) (.ck (by omega) (.ck (by omega) (.ck (by omega) ?_)))))
            rw [getD_at hm, getD_at hm', wj hm hb.n, col_eta]
            exact .bind f1 (.sel rfl (fun _ => .pure _) fun _ => y2)
          refine ⟨_, he, he, fun z j hj1 hj2 hj3 => ?_, fun z => ?_⟩
          · cases hf : (f != 0) with
            | true =>
              rw [hf] at z
              have z' : f = 0 := z
              rw [z'] at hf
              cases hf
            | false =>
              rw [hf] at z
              have hf0 : f = 0 := by simpa using hf
              by_cases e : j = m
              · subst e; exact f2.1 hf0
              · exact y3 z j (by omega) hj2 hj3
          · rw [f2.2 (z m (Nat.le_refl _) hm hm')]
            exact y4 fun j q1 q2 q3 => z j (by omega) q2 q3
        · have he : Ev (fun k => flat_checkRow_c7 k a b (a.2.2.1[i]).2.1 ((a.2.2.1[i]).2.1.length : Int) ((b.2.length : Nat) : Int)) (0, 0) := .step (fun k => flat_checkRow_c7_eq k _ _ _ _ _) (.nk (by omega) (.pure _))
          exact ⟨(0, 0), he, he, fun _ j hj1 hj2 => absurd hj2 (by omega), fun _ => rfl⟩
      obtain ⟨y, y1, _, y3, y4⟩ := key
      refine ⟨y, .step (fun k => flat_checkRow_eq k _ _) (.bind hA (.ff rfl (.ff (by rw [len_eq]; exact decide_eq_false (fun z => z hlen)) y1))), fun z => ⟨i, hi, hk', hlen, fun j hj hj' => y3 z j (Nat.zero_le _) hj hj'⟩, fun ⟨i', hi', hk2, _, hv⟩ => y4 fun j _ q2 q3 => ?_⟩
      have : i' = i := by omega
      subst this
      exact hv j q2 q3
    · refine ⟨(0, 3), .step (fun k => flat_checkRow_eq k _ _) (.bind hA (.ff rfl (.tt (by rw [len_eq]; exact decide_eq_true hlen) (.pure _)))), fun z => absurd z (by decide), fun ⟨i', hi', hk2, hl2, _⟩ => ?_⟩
      have : i' = i := by omega
      subst this
      exact absurd hl2 hlen
theorem ev_rowsVF (a : Fmt) (l : List Row) (ha : FitF a) (hok : FmtOk a) (hl : FitRs l) : ∃ y : Int × Int, Ev (fun k => flat_checkRows k a l) y ∧ (y.2 = 0 → ∀ r ∈ l, RowVF a r) ∧ ((∀ r ∈ l, RowVF a r) → y.2 = 0) := by
  have key : ∃ y : Int × Int, Ev (fun k => flat_checkRows_c2 k a l (l.length : Int) 0) y ∧ Ev (fun k => flat_checkRows_c2 k a l (l.length : Int) 0) y ∧ ((y.2 = 0 → ∀ j, 0 ≤ j → ∀ hj : j < l.length, RowVF a l[j]) ∧ ((∀ j, 0 ≤ j → ∀ hj : j < l.length, RowVF a l[j]) → y.2 = 0)) := by
    refine ev_up2 l.length (fun (m : Nat) (y : Int × Int) => (y.2 = 0 → ∀ j, m ≤ j → ∀ hj : j < l.length, RowVF a l[j]) ∧ ((∀ j, m ≤ j → ∀ hj : j < l.length, RowVF a l[j]) → y.2 = 0)) (fun k j => flat_checkRows_c2 k a l (l.length : Int) j) (fun k j => flat_checkRows_c2 k a l (l.length : Int) j) (fun m hm h => ?_) ?_
    · obtain ⟨y, _, y2, y3, y4⟩ := h
      obtain ⟨f, f1, f2, f3⟩ := ev_rowVF a l[m] ha hok (hl.r _ (List.getElem_mem hm))
      have he : Ev (fun k => flat_checkRows_c2 k a l (l.length : Int) ((m : Nat) : Int)) (cond (f.2 != 0) ((m : Int), f.2) y) := by
        refine .step (fun k => flat_checkRows_c2_eq k _ _ _ _) (.ck (by omega) (.ck (by omega) (.ck (by omega) ?_)))
        rw [getD_at hm, wj hm hl.n]
        exact .bind f1 (.sel rfl (fun _ => .pure _) fun _ => y2)
      refine ⟨_, he, he, fun z j hj1 hj2 => ?_, fun z => ?_⟩
      · cases hf : (f.2 != 0) with
        | true =>
          rw [hf] at z
          have z' : f.2 = 0 := z
          rw [z'] at hf
          cases hf
        | false =>
          rw [hf] at z
          have hf0 : f.2 = 0 := by simpa using hf
          by_cases e : j = m
          · subst e; exact f2 hf0
          · exact y3 z j (by omega) hj2
      · rw [f3 (z m (Nat.le_refl _) hm)]
        exact y4 fun j q1 q2 => z j (by omega) q2
    · have he : Ev (fun k => flat_checkRows_c2 k a l (l.length : Int) ((l.length : Nat) : Int)) (0, 0) := .step (fun k => flat_checkRows_c2_eq k _ _ _ _) (.nk (by omega) (.pure _))
      exact ⟨(0, 0), he, he, fun _ j hj1 hj2 => absurd hj2 (by omega), fun _ => rfl⟩
  obtain ⟨y, y1, _, y3, y4⟩ := key
  refine ⟨y, .step (fun k => flat_checkRows_eq k _ _) y1, fun z r hr => ?_, fun z => y4 fun j _ hj => z _ (List.getElem_mem hj)⟩
  obtain ⟨j, hj, rfl⟩ := List.getElem_of_mem hr
  exact y3 z j (Nat.zero_le _) hj
/-! ### turned -/
/-- A row's value by a column's name. -/
def valN (kd : Knd) (r : Row) (t : ByteArray) : ByteArray := if 0 ≤ cOf kd.2.1 t then r.2.getD (cOf kd.2.1 t).toNat (bs []) else bs []
def turnR (kd o : Knd) (r : Row) : Row := (r.1, o.2.1.map fun c => valN kd r c.1)
theorem ev_turned2 {kd o : Knd} (hk : kd.2.1.length < 1125899906842624) (ho : o.2.1.length ≤ 50) (r : Row) (hr : r.2.length = kd.2.1.length) (hc : ∀ c ∈ kd.2.1, 0 ≤ cOf o.2.1 c.1) : Ev (fun k => flat_turned k kd o r) (turnR kd o r, 0) := by
  have hoc : o.2.1.length < 1125899906842624 := by omega
  refine .step (fun k => flat_turned_eq k _ _ _) ?_
  have lost : Ev (fun k => flat_turned_c13 k o r row0 (turnR kd o r) 0 kd.2.1 (kd.2.1.length : Int) 0) (turnR kd o r, 0) := by
    refine ev_up kd.2.1.length (fun _ => (turnR kd o r, 0)) (fun k j => flat_turned_c13 k o r row0 (turnR kd o r) 0 kd.2.1 (kd.2.1.length : Int) j) (fun j hj h => ?_) ?_
    · have hj2 : j < r.2.length := by omega
      have hcj := hc _ (List.getElem_mem hj)
      refine .step (fun k => flat_turned_c13_eq k _ _ _ _ _ _ _ _) (.ck (by omega) (.ck (by omega) (.ck (by omega) (.ck (by omega) (.ck (by omega) ?_)))))
      rw [getD_at hj, getD_at hj2, wj hj hk]
      refine .bind (.gd rfl fun _ => ev_columnAt o _ hoc) (.ff ?_ h)
      cases eqS (r.2[j]) (bs []) with
      | true => rfl
      | false => exact decide_eq_false (show ¬ (cOf o.2.1 (kd.2.1[j]).1 < 0) by omega)
    · exact .step (fun k => flat_turned_c13_eq k _ _ _ _ _ _ _ _) (.nk (by omega) (.pure _))
  have key : ∀ (m j : Nat), o.2.1.length - j = m → j ≤ o.2.1.length → Ev (fun k => flat_turned_c3 k kd o r row0 (r.1, (o.2.1.take j).map fun c => valN kd r c.1) o.2.1 (o.2.1.length : Int) (j : Int)) (turnR kd o r, 0) := by
    intro m
    induction m with
    | zero =>
      intro j hm hj
      refine .step (fun k => flat_turned_c3_eq k _ _ _ _ _ _ _ _) (.nk (by omega) ?_)
      rw [List.take_of_length_le (by omega)]
      exact lost
    | succ m ih =>
      intro j hm hj
      have hj1 : j < o.2.1.length := by omega
      have hstep : Ev (fun k => flat_turned_c9 k kd o r row0 (r.1, (o.2.1.take j).map fun c => valN kd r c.1) (valN kd r (o.2.1[j]).1) o.2.1 (o.2.1.length : Int) (j : Int)) (turnR kd o r, 0) := by
        refine .step (fun k => flat_turned_c9_eq k _ _ _ _ _ _ _ _ _) (.ck (by simp only [List.length_map, List.length_take]; omega) ?_)
        rw [wj hj1 hoc]
        have e : ((o.2.1.take j).map fun c => valN kd r c.1) ++ [valN kd r (o.2.1[j]).1] = (o.2.1.take (j + 1)).map fun c => valN kd r c.1 := by
          rw [← List.take_append_getElem hj1, List.map_append]
          rfl
        have := ih (j + 1) (by omega) (by omega)
        rw [← e] at this
        exact this
      refine .step (fun k => flat_turned_c3_eq k _ _ _ _ _ _ _ _) (.ck (by omega) (.ck (by omega) (.ck (by omega) ?_)))
      rw [getD_at hj1]
      refine .bind (ev_columnAt kd _ hk) ?_
      have hlt := (ixI_lt (colP (o.2.1[j]).1) kd.2.1).2
      have hlt' : cOf kd.2.1 (o.2.1[j]).1 < kd.2.1.length := hlt
      by_cases h : cOf kd.2.1 (o.2.1[j]).1 ≥ 0
      · have e : valN kd r (o.2.1[j]).1 = r.2.getD (cOf kd.2.1 (o.2.1[j]).1).toNat (bs []) := if_pos h
        rw [e] at hstep
        exact .ck h (.ck h (.ck (by omega) hstep))
      · have e : valN kd r (o.2.1[j]).1 = bs [] := if_neg h
        rw [e] at hstep
        exact .nk h hstep
  have := key _ 0 rfl (Nat.zero_le _)
  exact this
theorem valN_small {kd : Knd} {r : Row} (hr : FitR r) (t : ByteArray) : (valN kd r t).size ≤ 140737488351232 := by
  unfold valN
  split
  · rw [List.getD_eq_getElem?_getD]
    cases h : r.2[(cOf kd.2.1 t).toNat]? with
    | none => exact Nat.zero_le _
    | some x => exact hr.s x (List.mem_of_getElem? h)
  · exact Nat.zero_le _
/-- How a row is turned. -/
def turnG (a b : Fmt) (r : Row) : Row := turnR (kAt a.2.2.1 r.1).1 (kAt b.2.2.1 r.1).1 r
theorem turn_ok {a b : Fmt} (ha : FitF a) (hb : FitF b) (oa : FmtOk a) (ob : FmtOk b) (wb : OwnF b) (hf : Fit2 a b) (r : Row) (hr : FitR r) (h : RowVF a r) : RowVF b (turnG a b r) := by
  obtain ⟨i, hi, hk, hlen, hv⟩ := h
  have hmem := List.getElem_mem hi
  have etag : (a.2.2.1[i]).1 = r.1 := (eqS_iff _ _).1 (ixI_at hk).2.1
  have hkb : 0 ≤ kOf b.2.2.1 r.1 := by rw [← etag]; exact hf.k _ hmem
  obtain ⟨p, hp, hkp, _⟩ := ixI_get hkb
  have hkp' : kOf b.2.2.1 r.1 = (p : Int) := hkp
  have hpm := List.getElem_mem hp
  have eA : (kAt a.2.2.1 r.1).1 = a.2.2.1[i] := by rw [kAt_at hi hk]
  have eB : (kAt b.2.2.1 r.1).1 = b.2.2.1[p] := by rw [kAt_at hp hkp']
  have eotag : (b.2.2.1[p]).1 = r.1 := (eqS_iff _ _).1 (ixI_at hkp').2.1
  refine ⟨p, hp, hkp', ?_, fun j hj hj' => ?_⟩
  · unfold turnG turnR
    rw [eB]
    simp
  · have ev : (turnG a b r).2[j] = valN (a.2.2.1[i]) r ((b.2.2.1[p]).2.1[j]).1 := by
      unfold turnG turnR
      simp only [eA, eB, List.getElem_map]
    rw [ev]
    have hmark : b.1 ≠ 0 → markB b.1 = true := fun z => by
      have h1 := ob.m12
      unfold mk12 at h1
      have z' : (b.1 != 0) = true := by simpa using z
      rw [z', Bool.true_and] at h1
      cases hq : markB b.1 with
      | true => rfl
      | false => rw [hq] at h1; simp at h1
    by_cases hc : 0 ≤ cOf (a.2.2.1[i]).2.1 ((b.2.2.1[p]).2.1[j]).1
    · obtain ⟨q, hq, hqc, hqp⟩ := ixI_get hc
      have hqc' : cOf (a.2.2.1[i]).2.1 ((b.2.2.1[p]).2.1[j]).1 = (q : Int) := hqc
      have ename : ((a.2.2.1[i]).2.1[q]).1 = ((b.2.2.1[p]).2.1[j]).1 := (eqS_iff _ _).1 hqp
      have hq2 : q < r.2.length := by omega
      have e : valN (a.2.2.1[i]) r ((b.2.2.1[p]).2.1[j]).1 = r.2[q] := by
        unfold valN
        rw [if_pos hc, hqc', getD_at hq2]
      rw [e]
      have hvq := hv q hq2 hq
      have hkept : Kept a b ((a.2.2.1[i]).2.1[q]) (b.2.2.1[p]) := by
        have := hf.c _ hmem _ (List.getElem_mem hq)
        rw [etag, eB] at this
        exact this
      obtain ⟨j', hj2, hjc, hty, hneed, hnl⟩ := hkept
      rw [ename, wb.c _ hpm j hj'] at hjc
      have : j' = j := by omega
      subst this
      cases hem : eqS (r.2[q]) (bs []) with
      | true =>
        refine ⟨fun _ => ?_, (fun z => by rw [hem] at z; cases z), (fun z => by rw [hem] at z; cases z), (fun z => by rw [hem] at z; cases z)⟩
        cases hnd : ((b.2.2.1[p]).2.1[j']).2.2.2.2.2.2.2 with
        | false => rfl
        | true =>
          have := hneed hnd
          rw [hvq.need hem] at this
          cases this
      | false => exact vf_turn (oa.col _ hmem _ (List.getElem_mem hq)) (ob.col _ hpm _ (List.getElem_mem hj')) hty hnl hmark (hr.s _ (List.getElem_mem hq2)) hem hvq
    · have e : valN (a.2.2.1[i]) r ((b.2.2.1[p]).2.1[j]).1 = bs [] := if_neg hc
      rw [e]
      have hem : eqS (bs []) (bs []) = true := eqS_self _
      refine ⟨fun _ => ?_, (fun z => by rw [hem] at z; cases z), (fun z => by rw [hem] at z; cases z), (fun z => by rw [hem] at z; cases z)⟩
      cases hnd : ((b.2.2.1[p]).2.1[j]).2.2.2.2.2.2.2 with
      | false => rfl
      | true =>
        have := hf.n _ hpm (by rw [eotag, hk]; omega) _ (List.getElem_mem hj') hnd
        rw [eotag, eA] at this
        exact absurd this hc
theorem ev_noType2 {a b : Fmt} (ha : FitF a) (hb : FitF b) (hf : Fit2 a b) : Ev (fun k => flat_typeFault k a b) false := by
  refine .step (fun k => flat_typeFault_eq k _ _) ?_
  refine ev_up a.2.2.1.length (fun _ => false) (fun k i => flat_typeFault_c2 k b a.2.2.1 (a.2.2.1.length : Int) i) (fun i hi h => ?_) ?_
  · have hmem := List.getElem_mem hi
    have hcl := ha.c _ hmem
    have hkc := kAt_len b.2.2.1 (a.2.2.1[i]).1 hb.c
    refine .step (fun k => flat_typeFault_c2_eq k _ _ _ _) (.ck (by omega) (.ck (by omega) (.ck (by omega) ?_)))
    rw [getD_at hi]
    refine .bind (ev_kindAt b _ hb.n) ?_
    refine ev_up (a.2.2.1[i]).2.1.length (fun _ => false) (fun k j => flat_typeFault_c6 k b (kAt b.2.2.1 (a.2.2.1[i]).1).1 a.2.2.1 (a.2.2.1.length : Int) (i : Int) (a.2.2.1[i]).2.1 ((a.2.2.1[i]).2.1.length : Int) j) (fun j hj hy => ?_) ?_
    · obtain ⟨j', hj2, hjc, hty, _⟩ := hf.c _ hmem _ (List.getElem_mem hj)
      have hC : Ev (fun k => flat_columnAt k (kAt b.2.2.1 (a.2.2.1[i]).1).1 ((a.2.2.1[i]).2.1[j]).1) (j' : Int) := (ev_columnAt _ _ hkc).to hjc
      refine .step (fun k => flat_typeFault_c6_eq k _ _ _ _ _ _ _ _) (.ck (by omega) (.ck (by omega) (.ck (by omega) ?_)))
      rw [getD_at hj, wj hj hcl]
      refine .bind hC (.tt (bor' fun z => z) (.tt (bor' fun _ => by simp; omega) (.ff ?_ hy)))
      rw [getD_at hj2, hty]
      cases decide ((j' : Int) ≥ 0) <;> simp
    · refine .step (fun k => flat_typeFault_c6_eq k _ _ _ _ _ _ _ _) (.nk (by omega) ?_)
      rw [wj hi ha.n]
      exact h
  · exact .step (fun k => flat_typeFault_c2_eq k _ _ _ _) (.nk (by omega) (.pure _))
theorem ev_turnAll {a b : Fmt} (ha : FitF a) (hb : FitF b) (oa : FmtOk a) (ob : FmtOk b) (hf : Fit2 a b) (l : List Row) (hn : l.length ≤ 2000) (hrows : ∀ r ∈ l, RowVF a r) {y : Int × Int} (hy : Ev (fun k => flat_checkRows k b (l.map (turnG a b))) y) (hy0 : y.2 = 0) :
    Ev (fun k => flat_Turned_c16 k a b [] 0 l (l.length : Int) 0) (l.map (turnG a b), (0, 0)) := by
  have key : ∀ (m q : Nat), l.length - q = m → q ≤ l.length → Ev (fun k => flat_Turned_c16 k a b ((l.take q).map (turnG a b)) 0 l (l.length : Int) (q : Int)) (l.map (turnG a b), (0, 0)) := by
    intro m
    induction m with
    | zero =>
      intro q hm hq
      refine .step (fun k => flat_Turned_c16_eq k _ _ _ _ _ _ _) (.nk (by omega) ?_)
      rw [List.take_of_length_le (by omega)]
      exact .bind hy (.ff (by rw [hy0]; rfl) (.pure _))
    | succ m ih =>
      intro q hm hq
      have hq3 : q < l.length := by omega
      obtain ⟨i, hi, hk, hlen, _⟩ := hrows _ (List.getElem_mem hq3)
      have hmem := List.getElem_mem hi
      have etag : (a.2.2.1[i]).1 = (l[q]).1 := (eqS_iff _ _).1 (ixI_at hk).2.1
      have hkb : 0 ≤ kOf b.2.2.1 (l[q]).1 := by rw [← etag]; exact hf.k _ hmem
      obtain ⟨p, hp, hkp, _⟩ := ixI_get hkb
      have hkp' : kOf b.2.2.1 (l[q]).1 = (p : Int) := hkp
      have hA : Ev (fun k => flat_kindAt k a (l[q]).1) (a.2.2.1[i], true) := (ev_kindAt a _ ha.n).to (kAt_at hi hk)
      have hB : Ev (fun k => flat_kindAt k b (l[q]).1) (b.2.2.1[p], true) := (ev_kindAt b _ hb.n).to (kAt_at hp hkp')
      have hT : Ev (fun k => flat_turned k a.2.2.1[i] b.2.2.1[p] l[q]) (turnG a b l[q], 0) := by
        have := ev_turned2 (ha.c _ hmem) (ob.len _ (List.getElem_mem hp)) l[q] hlen (fun c hc => by
          obtain ⟨j', _, hjc, _⟩ := hf.c _ hmem c hc
          rw [etag, kAt_at hp hkp'] at hjc
          have hjc' : cOf (b.2.2.1[p]).2.1 c.1 = (j' : Int) := hjc
          omega)
        unfold turnG
        rw [kAt_at hi hk, kAt_at hp hkp']
        exact this
      refine .step (fun k => flat_Turned_c16_eq k _ _ _ _ _ _ _) (.ck (by omega) (.ck (by omega) (.ck (by omega) ?_)))
      rw [getD_at hq3, wj hq3 (by omega), row_eta]
      refine .bind hA (.bind hB (.ff rfl (.bind hT (.ck (by simp only [List.length_map, List.length_take]; omega) ?_))))
      have e : (l.take q).map (turnG a b) ++ [turnG a b l[q]] = (l.take (q + 1)).map (turnG a b) := by
        rw [← List.take_append_getElem hq3, List.map_append]
        rfl
      have := ih (q + 1) (by omega) (by omega)
      rw [← e] at this
      exact this
  have := key _ 0 rfl (Nat.zero_le _)
  exact this
theorem ev_law_fits (a b : Fmt) (l : List Row) (ha : FitF a) (hb : FitF b) (hl : FitRs l) : Ev (fun k => interchangelaw6_FlatFitsLosesNothing k a b l) true := by
  obtain ⟨y, y1, y2, y3⟩ := ev_fits2 a b ha hb
  refine .step (fun k => interchangelaw6_FlatFitsLosesNothing_eq k _ _ _) (.bind y1 ?_)
  cases hf : (y.2 != 0) with
  | true =>
    have e := y2 (by simpa using hf)
    rw [e]
    exact .bind (x := true) (.tt rfl ev_awakeF) (.pure _)
  | false =>
    obtain ⟨ga, gb, g3⟩ := y3 (by simpa using hf)
    have oa := fmt_ok ga
    have ob := fmt_ok gb
    have fa : (fmtF a != 0) = false := by rw [ga]; rfl
    have fb : (fmtF b != 0) = false := by rw [gb]; rfl
    obtain ⟨t, t1, t2, _⟩ := ev_ask a l ha hl
    refine .ff rfl ?_
    have hR : Ev (fun k => interchangeref6_AreRight k a l) (t == 0) := .step (fun k => interchangeref6_AreRight_eq k _ _) (.bind t1 (.pure _))
    by_cases h0 : y.1.length = 0
    · have hy : y.1 = [] := List.eq_nil_of_length_eq_zero h0
      have hfit := g3 hy
      have hd : decide ((y.1.length : Int) > 0) = false := decide_eq_false (by omega)
      rw [hd]
      refine .bind (.tt rfl hR) ?_
      cases ht : (t == 0) with
      | false => exact .tt rfl (.ret ev_awakeF rfl)
      | true =>
        have ht0 : t = 0 := by simpa using ht
        -- the rows are right
        by_cases hn : (l.length : Int) > 2000
        · have : Ev (fun k => flat_rowsFault k a l) 2 := .step (fun k => flat_rowsFault_eq k _ _) (.bind (ev_CheckFormat a ha) (.ff fa (.ck hn (.pure _))))
          have := Ev.uniq t2 this
          rw [ht0] at this
          exact absurd this (by decide)
        · obtain ⟨z, z1, z2, _⟩ := ev_rowsVF a l ha oa hl
          have hz : Ev (fun k => flat_rowsFault k a l) z.2 := .step (fun k => flat_rowsFault_eq k _ _) (.bind (ev_CheckFormat a ha) (.ff fa (.nk hn (.bind z1 (.pure _)))))
          have hz0 : z.2 = 0 := by rw [← Ev.uniq t2 hz]; exact ht0
          have hrows := z2 hz0
          have hlm : FitRs (l.map (turnG a b)) := ⟨by rw [List.length_map]; exact hl.n, fun r hr => by
            obtain ⟨r', hr', rfl⟩ := List.mem_map.1 hr
            refine ⟨?_, fun c hc => ?_⟩
            · unfold turnG turnR
              rw [List.length_map]
              exact kAt_len _ _ hb.c
            · unfold turnG turnR at hc
              obtain ⟨o, _, rfl⟩ := List.mem_map.1 hc
              exact valN_small (hl.r r' hr') _⟩
          obtain ⟨u, u1, _, u3⟩ := ev_rowsVF b (l.map (turnG a b)) hb ob hlm
          have hu0 := u3 fun r hr => by
            obtain ⟨r', hr', rfl⟩ := List.mem_map.1 hr
            exact turn_ok ha hb oa ob (fmt_own gb) hfit r' (hl.r r' hr') (hrows r' hr')
          have hT : Ev (fun k => flat_Turned k a b l) (l.map (turnG a b), (0, 0)) := by
            refine .step (fun k => flat_Turned_eq k _ _ _) (.step (fun k => flat_Turned_c2_eq k _ _ _ _ _ _) (.ck (by decide) (.ck (by decide) (.ck (show (0 : Int) < ((2 : Nat) : Int) by decide) (.bind (ev_CheckFormat a ha) (.ff fa ?_))))))
            refine .step (fun k => flat_Turned_c2_eq k _ _ _ _ _ _) (.ck (by decide) (.ck (by decide) (.ck (show (1 : Int) < ((2 : Nat) : Int) by decide) (.bind (ev_CheckFormat b hb) (.ff fb (.step (fun k => flat_Turned_c2_eq k _ _ _ _ _ _) (.nk (by decide) ?_)))))))
            exact .bind hz (.ff (by rw [hz0]; rfl) (.bind (ev_noType2 ha hb hfit) (.ff rfl (ev_turnAll ha hb oa ob hfit l (by omega) hrows u1 hu0))))
          refine .ff rfl (.bind hT (.bind (x := true) (.tt (by simp) ev_awakeF) (.to (.pure _) (by simp))))
    · have hd : decide ((y.1.length : Int) > 0) = true := decide_eq_true (by omega)
      rw [hd]
      exact .bind (x := false) (.ff rfl (.pure _)) (.tt rfl (.ret ev_awakeF rfl))
end Go.Proofs.YtkkkmnjgjmhdnaaGreatDoor.Eq
