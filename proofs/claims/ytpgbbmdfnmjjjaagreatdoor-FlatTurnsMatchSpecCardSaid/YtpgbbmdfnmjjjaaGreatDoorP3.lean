/- What the functions of this law compute, part 3. -/
import Derived.Test.YtpgbbmdfnmjjjaaGreatDoorP2
namespace Go.Proofs.YtpgbbmdfnmjjjaaGreatDoor.Eq
open Go Go.Ra
set_option linter.unusedVariables false
theorem num_chars {b : Col} {c : ByteArray} (hv : IsV b c) (h2 : b.2.1 = 2) : ∀ x ∈ L c, dgB x = true ∨ x = 45 ∨ x = 46 := by
  obtain ⟨neg, w, f, has, hl, hw, hno, hyes, _⟩ := rtx_parts _ (hv.num h2).1
  intro x hx
  rw [hl] at hx
  rcases List.mem_append.1 hx with hx | hx
  · cases neg with
    | true => exact .inr (.inl (by simpa using hx))
    | false => cases hx
  · rcases List.mem_append.1 hx with hx | hx
    · exact .inl (digB_all (whole_dg hw) x hx)
    · cases hh : has with
      | false => rw [hh] at hx; cases hx
      | true =>
        rw [hh, if_pos rfl] at hx
        rcases List.mem_cons.1 hx with hx | hx
        · exact .inr (.inr hx)
        · exact .inl (digB_all (hyes hh).1 x hx)
theorem nm_dig {l : List UInt8} (h : nmL l ≠ -1) : digB l = true := by
  cases hd : digB l with
  | true => rfl
  | false => exact absurd (nmL_no hd) h
theorem day_chars {b : Col} {c : ByteArray} (hc : c.size ≤ 140737488351232) (hv : IsV b c) (h3 : b.2.1 = 3) : ∀ x ∈ L c, dgB x = true := by
  have hsz := size_L c
  obtain ⟨n, _, n2⟩ := hv.day h3
  obtain ⟨t, t1, t2, _⟩ := ev_day (L c) (by omega)
  have T := (ev_rd1T (L c) 1 (by decide) (by omega)).1
  have e1 := Ev.uniq t1 T
  rw [B_L] at t2
  have e2 := Ev.uniq t2 n2
  rw [e2] at e1
  by_cases h8 : (L c).length = 8
  · rw [if_pos h8] at e1
    have hno : ¬ (nmL ((L c).take 4) = -1 ∨ nmL (((L c).drop 4).take 2) = -1 ∨ nmL ((L c).drop 6) = -1) := fun z => by
      rw [finD_no z] at e1
      have : (0 : Int) = 10 := congrArg Prod.snd e1
      exact absurd this (by decide)
    have d1 := nm_dig (fun z => hno (.inl z))
    have d2 := nm_dig (fun z => hno (.inr (.inl z)))
    have d3 := nm_dig (fun z => hno (.inr (.inr z)))
    intro x hx
    have e : L c = (L c).take 4 ++ (((L c).drop 4).take 2 ++ (L c).drop 6) := by
      have q1 := List.take_append_drop 4 (L c)
      have q2 := List.take_append_drop 2 ((L c).drop 4)
      rw [List.drop_drop] at q2
      rw [q2, q1]
    rw [e] at hx
    rcases List.mem_append.1 hx with hx | hx
    · exact digB_all d1 x hx
    · rcases List.mem_append.1 hx with hx | hx
      · exact digB_all d2 x hx
      · exact digB_all d3 x hx
  · rw [if_neg h8] at e1
    have : (0 : Int) = 10 := congrArg Prod.snd e1
    exact absurd this (by decide)
theorem mark_byte {m : Int} (h : markB m = true) : dgB m.toNat.toUInt8 = false ∧ m.toNat.toUInt8 ≠ 45 ∧ m.toNat.toUInt8 ≠ 46 := by
  have hl := mark_lt h
  have : ∀ n : Fin 128, markB (n.val : Int) = true → dgB n.val.toUInt8 = false ∧ n.val.toUInt8 ≠ 45 ∧ n.val.toUInt8 ≠ 46 := by decide +kernel
  have hh := this ⟨m.toNat, by omega⟩
  have e : ((m.toNat : Nat) : Int) = m := Int.toNat_of_nonneg (by omega)
  rw [e] at hh
  exact hh h
theorem wid_eq {m : Int} {b : Col} {l : List UInt8} {d : Int × Int} {s : Shp} (hp : 0 ≤ b.2.2.2.1 ∧ b.2.2.2.1 ≤ 9) (hd : 0 ≤ d.2 ∧ d.2 ≤ 9) (hs : ShpOf l d s) :
    wid m b s = if m = 0 then (if 0 < s.2.1 then s.1 + s.2.1 + b.2.2.2.1 else s.1 + b.2.2.2.1 - s.2.2.2 + 1) else (if 0 < s.2.2.1 then s.1 + (if 1 ≤ s.2.1 then s.2.1 else 1) + 1 + s.2.2.1 else s.1 + s.2.1) := by
  have h1 := hs.sg
  have h2 := hs.bf
  have h3 := hs.fs
  have h4 := hs.pl
  unfold wid
  by_cases hm : m = 0
  · rw [if_pos hm, hm]
    by_cases hb : 0 < s.2.1
    · rw [if_pos hb, decide_eq_true (show s.2.1 > 0 from hb)]
      show wi64 (wi64 (s.1 + s.2.1) + b.2.2.2.1) = _
      rw [wi64_id (x := s.1 + s.2.1) (by omega) (by omega), wi64_id (by omega) (by omega)]
    · rw [if_neg hb, decide_eq_false (show ¬ s.2.1 > 0 from hb)]
      show wi64 (wi64 (wi64 (s.1 + b.2.2.2.1) - s.2.2.2) + 1) = _
      rw [wi64_id (x := s.1 + b.2.2.2.1) (by omega) (by omega), wi64_id (x := s.1 + b.2.2.2.1 - s.2.2.2) (by omega) (by omega), wi64_id (by omega) (by omega)]
  · rw [if_neg hm]
    have hm' : (m == 0) = false := by simpa using hm
    rw [hm']
    by_cases hb : 0 < s.2.2.1
    · rw [if_pos hb, decide_eq_true (show s.2.2.1 > 0 from hb)]
      show wi64 (wi64 (wi64 (s.1 + maxI s.2.1 1) + 1) + s.2.2.1) = _
      have e : maxI s.2.1 1 = if 1 ≤ s.2.1 then s.2.1 else 1 := by
        unfold maxI
        split <;> split <;> omega
      have e2 : 1 ≤ (if 1 ≤ s.2.1 then s.2.1 else 1) ∧ (if 1 ≤ s.2.1 then s.2.1 else 1) ≤ 16 := by split <;> omega
      rw [e]
      generalize (if 1 ≤ s.2.1 then s.2.1 else 1) = q at *
      rw [wi64_id (x := s.1 + q) (by omega) (by omega), wi64_id (x := s.1 + q + 1) (by omega) (by omega), wi64_id (by omega) (by omega)]
    · rw [if_neg hb, decide_eq_false (show ¬ s.2.2.1 > 0 from hb)]
      exact wi64_id (by omega) (by omega)
theorem wr_size {a : Fmt} {b : Col} (hb : ColOk a.1 b) {c : ByteArray} (hc : c.size ≤ 140737488351232) (hne : eqS c (bs []) = false) (hv : IsV b c) (h2 : b.2.1 = 2) {s : Shp} (hs : ShpOf (L c) (rtx (L c)).1 s) {w : ByteArray} (hw : Ev (fun k => flat_written k a b c) w) : (w.size : Int) = wid a.1 b s := by
  obtain ⟨hz, hp, _⟩ := hv.num h2
  have hok := rtx_ok _ hz
  have hpl := hb.pl h2
  rw [wid_eq hpl ⟨hok.2.2.1, hok.2.2.2⟩ hs]
  obtain ⟨w', w1, _, _, w3, w4⟩ := ev_wrF a b hb c hc hne hv
  have e := Ev.uniq hw w1
  have hsz := size_L c
  by_cases hm : a.1 = 0
  · rw [if_pos hm, e, w4 h2 hm, size_B]
    exact hs.fx _ hp hpl.2
  · rw [if_neg hm, e, w3 h2 hm, hsz]
    exact hs.mw
theorem vf_turn {a b : Fmt} {c o : Col} (ca : ColOk a.1 c) (cb : ColOk b.1 o) (ty : o.2.1 = c.2.1) (hn : NoLoss a b c o) (hm : b.1 ≠ 0 → markB b.1 = true) {v : ByteArray} (hs : v.size ≤ 140737488351232) (hne : eqS v (bs []) = false) (h : VF a c v) : VF b o v := by
  have hv := h.isV hne
  have hsz := size_L v
  have h0 := ne_size hne
  obtain ⟨wa, wa1, wa3, wa0, _, _⟩ := ev_wrF a c ca v hs hne hv
  have hwa := h.len hne wa wa1
  -- numbers
  have num : c.2.1 = 2 → (rtx (L v)).1.2 ≤ o.2.2.2.1 ∧ ((rtx (L v)).1 = (0, 0) ∧ (L v).length = 1 ∨ ∃ s, ShpOf (L v) (rtx (L v)).1 s ∧ wid b.1 o s ≤ o.2.2.1) := fun h2 => by
    have hpo := cb.pl (by rw [ty]; exact h2)
    rcases num_shape hv h2 with ⟨z1, z2⟩ | ⟨s, hsh⟩
    · refine ⟨?_, .inl ⟨z1, z2⟩⟩
      rw [z1]
      exact hpo.1
    · have hsize := wr_size ca hs hne hv h2 hsh wa1
      have hin : inS a.1 c s = true := by
        unfold inS
        have q1 : s.2.2.1 ≤ c.2.2.2.1 := by rw [hsh.pl]; exact (hv.num h2).2.1
        rw [decide_eq_true q1]
        exact decide_eq_true (by omega)
      have hin2 := hn.num h2 s hsh.mem hin
      unfold inS at hin2
      by_cases q : s.2.2.1 ≤ o.2.2.2.1
      · rw [decide_eq_true q] at hin2
        exact ⟨by rw [← hsh.pl]; exact q, .inr ⟨s, hsh, of_decide_eq_true hin2⟩⟩
      · rw [decide_eq_false q] at hin2
        cases hin2
  have isV : IsV o v := by
    refine ⟨fun z => ?_, fun z => hv.day (by rw [← ty]; exact z), fun z1 z2 => hv.txt (by rw [← ty]; exact z1) (by rw [← ty]; exact z2)⟩
    have h2 : c.2.1 = 2 := by rw [← ty]; exact z
    exact ⟨(hv.num h2).1, (num h2).1, (hv.num h2).2.2⟩
  obtain ⟨wb, wb1, wb3, wb0, wbm, wbf⟩ := ev_wrF b o cb v hs hne isV
  refine ⟨(fun z => by rw [hne] at z; cases z), fun _ => isV, fun _ w hw => ?_, fun _ q1 q2 => ?_⟩
  · rw [Ev.uniq hw wb1]
    have tcase := cb.ty
    by_cases h2 : o.2.1 = 2
    · rcases (num (by rw [← ty]; exact h2)).2 with ⟨z1, z2⟩ | ⟨s, hsh, hle⟩
      · have hw1 := cb.w1
        by_cases hb0 : b.1 = 0
        · rw [wbf h2 hb0, size_B, z1]
          have e : sc (0, 0) o.2.2.2.1 = 0 := by unfold sc; exact Int.zero_mul _
          have e1 : (Lib.itoa 0).length = 1 := by
            rw [show (0 : Int) = ((0 : Nat) : Int) from rfl, itoa_nat, Lib.decDigits_one (by decide)]
            rfl
          rw [e, e1]
          omega
        · rw [wbm h2 hb0]
          omega
      · rw [wr_size cb hs hne isV h2 hsh wb1]
        exact hle
    · by_cases h3 : o.2.1 = 3
      · have h3' : c.2.1 = 3 := by rw [← ty]; exact h3
        rw [wb3 h3]
        have := wa3 h3'
        exact hn.day h3' (by omega)
      · have h2' : c.2.1 ≠ 2 := by rw [← ty]; exact h2
        have h3' : c.2.1 ≠ 3 := by rw [← ty]; exact h3
        rw [wb0 h3 h2]
        have := wa0 h3' h2'
        rw [this] at hwa
        have := (hn.txt h2' h3').1
        omega
  · have hmb := mark_byte (hm q1)
    have notin : b.1.toNat.toUInt8 ∉ L v → Lib.indexByte (L v) b.1.toNat.toUInt8 < 0 := fun z => by rw [indexByte_none z]; decide
    by_cases h2 : c.2.1 = 2
    · refine notin fun z => ?_
      rcases num_chars hv h2 _ z with q | q | q
      · rw [hmb.1] at q; cases q
      · exact hmb.2.1 q
      · exact hmb.2.2 q
    · by_cases h3 : c.2.1 = 3
      · refine notin fun z => ?_
        have := day_chars hs hv h3 _ z
        rw [hmb.1] at this
        cases this
      · obtain ⟨hwd, hbar⟩ := hn.txt h2 h3
        have hbb : barI b = b.1 := by unfold barI; rw [q2]; rfl
        rcases hbar with q | q | ⟨q, qw⟩
        · rw [hbb] at q; exact absurd q q1
        · rw [hbb] at q
          have hne0 : barI a ≠ 0 := by rw [← q]; exact q1
          have ha2 : a.2.1 = 0 := by
            by_cases z : a.2.1 = 0
            · exact z
            · have : (a.2.1 != 0) = true := by simpa using z
              unfold barI at hne0
              rw [this] at hne0
              exact absurd rfl hne0
          have ha1 : barI a = a.1 := by unfold barI; rw [ha2]; rfl
          rw [ha1] at q hne0
          have := h.bar hne hne0 ha2
          rw [← q] at this
          exact this
        · rw [hbb] at q
          rw [q]
          have hw0 := wa0 h3 h2
          rw [hw0] at hwa
          have hpl := hv.txt h2 h3
          unfold plB at hpl
          simp only [Bool.and_eq_true, bne_iff_ne] at hpl
          have hl2 : (L v).length ≤ 2 := by omega
          have hnot : (Int.toNat 32).toUInt8 ∉ L v := fun z => by
            obtain ⟨i, hi, he⟩ := List.getElem_of_mem z
            have hg : (L v).getD i 0 = 32 := by rw [getD_nat hi]; exact he
            have : i = 0 ∨ i = (L v).length - 1 := by omega
            rcases this with rfl | rfl
            · exact hpl.2.1 hg
            · exact hpl.2.2 hg
          rw [indexByte_none hnot]
          decide
def valN (kd : Knd) (r : Row) (t : ByteArray) : ByteArray := if 0 ≤ cOf kd.2.1 t then r.2.getD (cOf kd.2.1 t).toNat (bs []) else bs []
def turnR (kd o : Knd) (r : Row) : Row := (r.1, o.2.1.map fun c => valN kd r c.1)
theorem valN_small {kd : Knd} {r : Row} (hr : FitR r) (t : ByteArray) : (valN kd r t).size ≤ 140737488351232 := by
  unfold valN
  split
  · rw [List.getD_eq_getElem?_getD]
    cases h : r.2[(cOf kd.2.1 t).toNat]? with
    | none => exact Nat.zero_le _
    | some x => exact hr.s x (List.mem_of_getElem? h)
  · exact Nat.zero_le _
end Go.Proofs.YtpgbbmdfnmjjjaaGreatDoor.Eq
namespace Go.Proofs.YtpgbbmdfnmjjjaaGreatDoor.Eq
open Go Go.Ra
set_option linter.unusedVariables false
def lostI (kd o : Knd) (r : Row) : Nat → Int
  | 0 => 0
  | j + 1 => cond (!(eqS (r.2.getD j (bs [])) (bs [])) && decide (cOf o.2.1 (kd.2.1.getD j col0).1 < 0)) (wi64 (lostI kd o r j + 1)) (lostI kd o r j)
def valsI (kd o : Knd) (r : Row) : Nat → List ByteArray
  | 0 => List.replicate o.2.1.length (bs [])
  | j + 1 => if 0 ≤ cOf o.2.1 (kd.2.1.getD j col0).1 then (valsI kd o r j).set (cOf o.2.1 (kd.2.1.getD j col0).1).toNat (r.2.getD j (bs [])) else valsI kd o r j
theorem valsI_len (kd o : Knd) (r : Row) : ∀ j, (valsI kd o r j).length = o.2.1.length
  | 0 => List.length_replicate
  | j + 1 => by
    unfold valsI
    split
    · rw [List.length_set]; exact valsI_len kd o r j
    · exact valsI_len kd o r j
def OwnK (kd : Knd) : Prop := ∀ j (hj : j < kd.2.1.length), cOf kd.2.1 (kd.2.1[j]).1 = (j : Int)
theorem valsI_at {kd o : Knd} (hk : OwnK kd) (ho : OwnK o) (r : Row) (hr : r.2.length = kd.2.1.length) : ∀ (j : Nat), j ≤ kd.2.1.length → ∀ p (hp : p < o.2.1.length), (valsI kd o r j)[p]'(by rw [valsI_len]; exact hp) = if 0 ≤ cOf kd.2.1 (o.2.1[p]).1 ∧ cOf kd.2.1 (o.2.1[p]).1 < j then r.2.getD (cOf kd.2.1 (o.2.1[p]).1).toNat (bs []) else bs [] := by
  intro j
  induction j with
  | zero =>
    intro hj p hp
    rw [if_neg (by omega)]
    simp [valsI]
  | succ j ih =>
    intro hj p hp
    have hj1 : j < kd.2.1.length := by omega
    have hname : kd.2.1.getD j col0 = kd.2.1[j] := getD_nat hj1 _
    have hown := hk j hj1
    by_cases hc : 0 ≤ cOf o.2.1 (kd.2.1[j]).1
    · obtain ⟨p', hp', hcp, hpn⟩ := ixI_get hc
      have hcp' : cOf o.2.1 (kd.2.1[j]).1 = (p' : Int) := hcp
      have en : (o.2.1[p']).1 = (kd.2.1[j]).1 := (eqS_iff _ _).1 hpn
      have e : (valsI kd o r (j + 1))[p]'(by rw [valsI_len]; exact hp) = ((valsI kd o r j).set p' (r.2.getD j (bs [])))[p]'(by rw [List.length_set, valsI_len]; exact hp) := by
        have ev : valsI kd o r (j + 1) = (valsI kd o r j).set p' (r.2.getD j (bs [])) := by
          show (if 0 ≤ cOf o.2.1 (kd.2.1.getD j col0).1 then (valsI kd o r j).set (cOf o.2.1 (kd.2.1.getD j col0).1).toNat (r.2.getD j (bs [])) else valsI kd o r j) = _
          rw [hname, if_pos hc, hcp', Int.toNat_natCast]
        simp only [ev]
      rw [e, List.getElem_set]
      by_cases hpp : p' = p
      · subst hpp
        rw [if_pos rfl, en, hown, if_pos ⟨by omega, by omega⟩, Int.toNat_natCast]
      · rw [if_neg hpp, ih (by omega) p hp]
        by_cases hq : 0 ≤ cOf kd.2.1 (o.2.1[p]).1 ∧ cOf kd.2.1 (o.2.1[p]).1 < j
        · rw [if_pos hq, if_pos ⟨hq.1, by omega⟩]
        · rw [if_neg hq, if_neg]
          rintro ⟨q1, q2⟩
          have q3 : cOf kd.2.1 (o.2.1[p]).1 = (j : Int) := by omega
          obtain ⟨_, hn, _⟩ := ixI_at q3
          have en2 : (kd.2.1[j]).1 = (o.2.1[p]).1 := (eqS_iff _ _).1 hn
          rw [en2, ho p hp] at hcp'
          exact hpp (by omega)
    · have e : (valsI kd o r (j + 1))[p]'(by rw [valsI_len]; exact hp) = (valsI kd o r j)[p]'(by rw [valsI_len]; exact hp) := by
        have ev : valsI kd o r (j + 1) = valsI kd o r j := by
          show (if 0 ≤ cOf o.2.1 (kd.2.1.getD j col0).1 then (valsI kd o r j).set (cOf o.2.1 (kd.2.1.getD j col0).1).toNat (r.2.getD j (bs [])) else valsI kd o r j) = _
          rw [hname, if_neg hc]
        simp only [ev]
      rw [e, ih (by omega) p hp]
      by_cases hq : 0 ≤ cOf kd.2.1 (o.2.1[p]).1 ∧ cOf kd.2.1 (o.2.1[p]).1 < j
      · rw [if_pos hq, if_pos ⟨hq.1, by omega⟩]
      · rw [if_neg hq, if_neg]
        rintro ⟨q1, q2⟩
        have q3 : cOf kd.2.1 (o.2.1[p]).1 = (j : Int) := by omega
        obtain ⟨_, hn, _⟩ := ixI_at q3
        have en2 : (kd.2.1[j]).1 = (o.2.1[p]).1 := (eqS_iff _ _).1 hn
        rw [en2, ho p hp] at hc
        omega
theorem valsI_all {kd o : Knd} (hk : OwnK kd) (ho : OwnK o) (r : Row) (hr : r.2.length = kd.2.1.length) : valsI kd o r kd.2.1.length = (turnR kd o r).2 := by
  refine List.ext_getElem (by rw [valsI_len]; unfold turnR; simp) fun p h1 h2 => ?_
  have hp : p < o.2.1.length := by rw [valsI_len] at h1; exact h1
  rw [valsI_at hk ho r hr _ (Nat.le_refl _) p hp]
  have e : (turnR kd o r).2[p]'h2 = valN kd r (o.2.1[p]).1 := by simp only [turnR, List.getElem_map]
  rw [e]
  unfold valN
  have hlt := (ixI_lt (colP (o.2.1[p]).1) kd.2.1).2
  have hlt' : cOf kd.2.1 (o.2.1[p]).1 < kd.2.1.length := hlt
  by_cases hq : 0 ≤ cOf kd.2.1 (o.2.1[p]).1
  · rw [if_pos ⟨hq, hlt'⟩, if_pos hq]
  · rw [if_neg (fun z => hq z.1), if_neg hq]
theorem ev_turnB {kd o : Knd} (hk : OwnK kd) (ho : OwnK o) (hkc : kd.2.1.length < 1125899906842624) (ho5 : o.2.1.length ≤ 50) (r : Row) (hr : r.2.length = kd.2.1.length) :
    Ev (fun k => interchangeref6_turned k kd o r) (turnR kd o r, lostI kd o r kd.2.1.length) ∧ Ev (fun k => flat_turned k kd o r) (turnR kd o r, lostI kd o r kd.2.1.length) := by
  have hoc : o.2.1.length < 1125899906842624 := by omega
  constructor
  · refine .step (fun k => interchangeref6_turned_eq k _ _ _) (.ck (by omega) (.ck (by omega) ?_))
    rw [Int.toNat_natCast]
    have key : ∀ (m j : Nat), kd.2.1.length - j = m → j ≤ kd.2.1.length → Ev (fun k => interchangeref6_turned_c4 k o r row0 (r.1, valsI kd o r j) (lostI kd o r j) kd.2.1 (kd.2.1.length : Int) (j : Int)) (turnR kd o r, lostI kd o r kd.2.1.length) := by
      intro m
      induction m with
      | zero =>
        intro j hm hj
        have e : j = kd.2.1.length := by omega
        subst e
        refine .step (fun k => interchangeref6_turned_c4_eq k _ _ _ _ _ _ _ _) (.nk (by omega) (.to (.pure _) ?_))
        rw [valsI_all hk ho r hr]
        rfl
      | succ m ih =>
        intro j hm hj
        have hj1 : j < kd.2.1.length := by omega
        have hj2 : j < r.2.length := by omega
        have hih := ih (j + 1) (by omega) (by omega)
        have hname : kd.2.1.getD j col0 = kd.2.1[j] := getD_nat hj1 _
        have hval : r.2.getD j (bs []) = r.2[j] := getD_nat hj2 _
        refine .step (fun k => interchangeref6_turned_c4_eq k _ _ _ _ _ _ _ _) (.ck (by omega) (.ck (by omega) (.ck (by omega) ?_)))
        rw [getD_at hj1, getD_at hj2, wj hj1 hkc]
        refine .bind (ev_rcolumnOf o _ hoc) ?_
        have hlt := (ixI_lt (colP (kd.2.1[j]).1) o.2.1).2
        have hlt' : cOf o.2.1 (kd.2.1[j]).1 < o.2.1.length := hlt
        by_cases hc : cOf o.2.1 (kd.2.1[j]).1 ≥ 0
        · refine .ck hc (.ck (by omega) (.ck (by omega) (.ck hc (.ck (by rw [valsI_len]; exact hlt') ?_))))
          simp only [valsI, lostI, hname, hval, if_pos hc, decide_eq_false (show ¬ cOf o.2.1 (kd.2.1[j]).1 < 0 by omega), Bool.and_false, cond_false] at hih
          exact hih
        · refine .nk hc (.ck (by omega) (.ck (by omega) ?_))
          simp only [valsI, lostI, hname, hval, if_neg hc, decide_eq_true (show cOf o.2.1 (kd.2.1[j]).1 < 0 by omega), Bool.and_true] at hih
          cases he : eqS (r.2[j]) (bs []) with
          | true =>
            rw [he] at hih
            exact .ff rfl hih
          | false =>
            rw [he] at hih
            exact .tt rfl hih
    exact key _ 0 rfl (Nat.zero_le _)
  · refine .step (fun k => flat_turned_eq k _ _ _) ?_
    have lost : ∀ (m j : Nat), kd.2.1.length - j = m → j ≤ kd.2.1.length → Ev (fun k => flat_turned_c13 k o r row0 (turnR kd o r) (lostI kd o r j) kd.2.1 (kd.2.1.length : Int) (j : Int)) (turnR kd o r, lostI kd o r kd.2.1.length) := by
      intro m
      induction m with
      | zero =>
        intro j hm hj
        have e : j = kd.2.1.length := by omega
        subst e
        exact .step (fun k => flat_turned_c13_eq k _ _ _ _ _ _ _ _) (.nk (by omega) (.pure _))
      | succ m ih =>
        intro j hm hj
        have hj1 : j < kd.2.1.length := by omega
        have hj2 : j < r.2.length := by omega
        have hih := ih (j + 1) (by omega) (by omega)
        have hname : kd.2.1.getD j col0 = kd.2.1[j] := getD_nat hj1 _
        have hval : r.2.getD j (bs []) = r.2[j] := getD_nat hj2 _
        refine .step (fun k => flat_turned_c13_eq k _ _ _ _ _ _ _ _) (.ck (by omega) (.ck (by omega) (.ck (by omega) (.ck (by omega) (.ck (by omega) ?_)))))
        rw [getD_at hj1, getD_at hj2, wj hj1 hkc]
        simp only [lostI, hname, hval] at hih
        refine .bind (.gd rfl fun _ => ev_columnAt o _ hoc) ?_
        cases he : eqS (r.2[j]) (bs []) with
        | true =>
          rw [he] at hih
          exact .ff rfl hih
        | false =>
          rw [he] at hih
          by_cases hc : cOf o.2.1 (kd.2.1[j]).1 < 0
          · rw [decide_eq_true hc] at hih
            exact .tt (decide_eq_true hc) hih
          · rw [decide_eq_false hc] at hih
            exact .ff (decide_eq_false hc) hih
    have key : ∀ (m j : Nat), o.2.1.length - j = m → j ≤ o.2.1.length → Ev (fun k => flat_turned_c3 k kd o r row0 (r.1, (o.2.1.take j).map fun c => valN kd r c.1) o.2.1 (o.2.1.length : Int) (j : Int)) (turnR kd o r, lostI kd o r kd.2.1.length) := by
      intro m
      induction m with
      | zero =>
        intro j hm hj
        refine .step (fun k => flat_turned_c3_eq k _ _ _ _ _ _ _ _) (.nk (by omega) ?_)
        rw [List.take_of_length_le (by omega)]
        exact lost _ 0 rfl (Nat.zero_le _)
      | succ m ih =>
        intro j hm hj
        have hj1 : j < o.2.1.length := by omega
        have hstep : Ev (fun k => flat_turned_c9 k kd o r row0 (r.1, (o.2.1.take j).map fun c => valN kd r c.1) (valN kd r (o.2.1[j]).1) o.2.1 (o.2.1.length : Int) (j : Int)) (turnR kd o r, lostI kd o r kd.2.1.length) := by
          refine .step (fun k => flat_turned_c9_eq k _ _ _ _ _ _ _ _ _) (.ck (by simp only [List.length_map, List.length_take]; omega) ?_)
          rw [wj hj1 hoc]
          have e : ((o.2.1.take j).map fun c => valN kd r c.1) ++ [valN kd r (o.2.1[j]).1] = (o.2.1.take (j + 1)).map fun c => valN kd r c.1 := by
            rw [← List.take_append_getElem hj1, List.map_append]
            rfl
          have := ih (j + 1) (by omega) (by omega)
          rw [← e] at this
          exact this
        refine .step (fun k => flat_turned_c3_eq k _ _ _ _ _ _ _ _) (.ck (by omega) (.ck (by omega) (.ck (by omega) ?_)))
        rw [getD_at hj1]
        refine .bind (ev_columnAt kd _ hkc) ?_
        have hlt := (ixI_lt (colP (o.2.1[j]).1) kd.2.1).2
        have hlt' : cOf kd.2.1 (o.2.1[j]).1 < kd.2.1.length := hlt
        by_cases h : cOf kd.2.1 (o.2.1[j]).1 ≥ 0
        · have e : valN kd r (o.2.1[j]).1 = r.2.getD (cOf kd.2.1 (o.2.1[j]).1).toNat (bs []) := if_pos h
          rw [e] at hstep
          exact .ck h (.ck h (.ck (by omega) hstep))
        · have e : valN kd r (o.2.1[j]).1 = bs [] := if_neg h
          rw [e] at hstep
          exact .nk h hstep
    exact key _ 0 rfl (Nat.zero_le _)
end Go.Proofs.YtpgbbmdfnmjjjaaGreatDoor.Eq
namespace Go.Proofs.YtpgbbmdfnmjjjaaGreatDoor.Eq
open Go Go.Ra
set_option linter.unusedVariables false
theorem ev_otherB (a b : Fmt) (ha : FitF a) (hb : FitF b) : ∃ t : Bool, Ev (fun k => interchangeref6_isOther k a b) t ∧ Ev (fun k => flat_typeFault k a b) t := by
  have key : ∃ t : Bool, Ev (fun k => interchangeref6_isOther_c2 k b a.2.2.1 (a.2.2.1.length : Int) 0) t ∧ Ev (fun k => flat_typeFault_c2 k b a.2.2.1 (a.2.2.1.length : Int) 0) t ∧ True := by
    refine ev_up2 a.2.2.1.length (fun _ _ => True) (fun k i => interchangeref6_isOther_c2 k b a.2.2.1 (a.2.2.1.length : Int) i) (fun k i => flat_typeFault_c2 k b a.2.2.1 (a.2.2.1.length : Int) i) (fun i hi h => ?_) ?_
    · obtain ⟨y, y1, y2, _⟩ := h
      have hmem := List.getElem_mem hi
      have hcl := ha.c _ hmem
      by_cases h0 : kOf b.2.2.1 (a.2.2.1[i]).1 < 0
      · refine ⟨y, .step (fun k => interchangeref6_isOther_c2_eq k _ _ _ _) (.ck (by omega) (.ck (by omega) (.ck (by omega) ?_))), .step (fun k => flat_typeFault_c2_eq k _ _ _ _) (.ck (by omega) (.ck (by omega) (.ck (by omega) ?_))), trivial⟩
        · rw [getD_at hi, wj hi ha.n]
          exact .bind (ev_rkindOf b _ hb.n) (.ck h0 y1)
        · rw [getD_at hi]
          refine .bind (ev_kindAt b _ hb.n) ?_
          rw [kAt_no h0]
          refine ev_up (a.2.2.1[i]).2.1.length (fun _ => y) (fun k j => flat_typeFault_c6 k b knd0 a.2.2.1 (a.2.2.1.length : Int) (i : Int) (a.2.2.1[i]).2.1 ((a.2.2.1[i]).2.1.length : Int) j) (fun j hj hy => ?_) ?_
          · have hC : Ev (fun k => flat_columnAt k knd0 ((a.2.2.1[i]).2.1[j]).1) (-1) := (ev_columnAt knd0 _ (by decide)).to rfl
            refine .step (fun k => flat_typeFault_c6_eq k _ _ _ _ _ _ _ _) (.ck (by omega) (.ck (by omega) (.ck (by omega) ?_)))
            rw [getD_at hj, wj hj hcl]
            exact .bind hC (.tt rfl (.tt rfl (.ff rfl hy)))
          · refine .step (fun k => flat_typeFault_c6_eq k _ _ _ _ _ _ _ _) (.nk (by omega) ?_)
            rw [wj hi ha.n]
            exact y2
      · obtain ⟨p, hp, hkp, _⟩ := ixI_get (show 0 ≤ ixI (tagP (a.2.2.1[i]).1) b.2.2.1 from Int.not_lt.1 h0)
        have hkp' : kOf b.2.2.1 (a.2.2.1[i]).1 = (p : Int) := hkp
        have hR : Ev (fun k => interchangeref6_kindOf k b (a.2.2.1[i]).1) (p : Int) := (ev_rkindOf b _ hb.n).to hkp'
        have hA : Ev (fun k => flat_kindAt k b (a.2.2.1[i]).1) (b.2.2.1[p], true) := (ev_kindAt b _ hb.n).to (kAt_at hp hkp')
        have hoc := hb.c _ (List.getElem_mem hp)
        have inner : ∃ t : Bool, Ev (fun k => interchangeref6_isOther_c7 k b (p : Int) a.2.2.1 (a.2.2.1.length : Int) (i : Int) (a.2.2.1[i]).2.1 ((a.2.2.1[i]).2.1.length : Int) 0) t ∧ Ev (fun k => flat_typeFault_c6 k b b.2.2.1[p] a.2.2.1 (a.2.2.1.length : Int) (i : Int) (a.2.2.1[i]).2.1 ((a.2.2.1[i]).2.1.length : Int) 0) t ∧ True := by
          refine ev_up2 (a.2.2.1[i]).2.1.length (fun _ _ => True) (fun k j => interchangeref6_isOther_c7 k b (p : Int) a.2.2.1 (a.2.2.1.length : Int) (i : Int) (a.2.2.1[i]).2.1 ((a.2.2.1[i]).2.1.length : Int) j) (fun k j => flat_typeFault_c6 k b b.2.2.1[p] a.2.2.1 (a.2.2.1.length : Int) (i : Int) (a.2.2.1[i]).2.1 ((a.2.2.1[i]).2.1.length : Int) j) (fun j hj h => ?_) ?_
          · obtain ⟨z, z1, z2, _⟩ := h
            have hlt := (ixI_lt (colP ((a.2.2.1[i]).2.1[j]).1) (b.2.2.1[p]).2.1).2
            have hlt' : cOf (b.2.2.1[p]).2.1 ((a.2.2.1[i]).2.1[j]).1 < (b.2.2.1[p]).2.1.length := hlt
            refine ⟨cond (cond (decide (cOf (b.2.2.1[p]).2.1 ((a.2.2.1[i]).2.1[j]).1 ≥ 0)) (((b.2.2.1[p]).2.1.getD (cOf (b.2.2.1[p]).2.1 ((a.2.2.1[i]).2.1[j]).1).toNat col0).2.1 != ((a.2.2.1[i]).2.1[j]).2.1) false) true z, .step (fun k => interchangeref6_isOther_c7_eq k _ _ _ _ _ _ _ _) (.ck (by omega) (.ck (by omega) (.ck (by omega) (.ck (by omega) (.ck (by omega) ?_))))), .step (fun k => flat_typeFault_c6_eq k _ _ _ _ _ _ _ _) (.ck (by omega) (.ck (by omega) (.ck (by omega) ?_))), trivial⟩
            · rw [getD_at hp, getD_at hj, wj hj hcl]
              exact .bind (ev_rcolumnOf (b.2.2.1[p]) _ hoc) (.tt (bor' fun _ => by simp) (.tt (bor' fun _ => by simp; omega) (.tt (bor' fun z => z) (.tt (bor' fun _ => by simpa using hlt') (.sel rfl (fun _ => .pure _) fun _ => z1)))))
            · rw [getD_at hj, wj hj hcl]
              exact .bind (ev_columnAt (b.2.2.1[p]) _ hoc) (.tt (bor' fun z => z) (.tt (bor' fun _ => by simpa using hlt') (.sel rfl (fun _ => .pure _) fun _ => z2)))
          · refine ⟨y, .step (fun k => interchangeref6_isOther_c7_eq k _ _ _ _ _ _ _ _) (.nk (by omega) ?_), .step (fun k => flat_typeFault_c6_eq k _ _ _ _ _ _ _ _) (.nk (by omega) ?_), trivial⟩
            · rw [wj hi ha.n]; exact y1
            · rw [wj hi ha.n]; exact y2
        obtain ⟨t, t1, t2, _⟩ := inner
        refine ⟨t, .step (fun k => interchangeref6_isOther_c2_eq k _ _ _ _) (.ck (by omega) (.ck (by omega) (.ck (by omega) ?_))), .step (fun k => flat_typeFault_c2_eq k _ _ _ _) (.ck (by omega) (.ck (by omega) (.ck (by omega) ?_))), trivial⟩
        · rw [getD_at hi]
          exact .bind hR (.nk (by omega) t1)
        · rw [getD_at hi]
          exact .bind hA t2
    · exact ⟨false, .step (fun k => interchangeref6_isOther_c2_eq k _ _ _ _) (.nk (by omega) (.pure _)), .step (fun k => flat_typeFault_c2_eq k _ _ _ _) (.nk (by omega) (.pure _)), trivial⟩
  obtain ⟨t, t1, t2, _⟩ := key
  exact ⟨t, .step (fun k => interchangeref6_isOther_eq k _ _) t1, .step (fun k => flat_typeFault_eq k _ _) t2⟩
theorem fit_snoc {l : List Row} {r : Row} (hl : FitRs l) (hn : l.length ≤ 2000) (hr : FitR r) : FitRs (l ++ [r]) := ⟨by rw [List.length_append]; simp; omega, fun x hx => by
  rcases List.mem_append.1 hx with hx | hx
  · exact hl.r x hx
  · rw [List.mem_singleton.1 hx]; exact hr⟩
theorem ev_TurnedB (a b : Fmt) (l : List Row) (ha : FitF a) (hb : FitF b) (hl : FitRs l) : ∃ y : List Row × Int × Int, Ev (fun k => interchangeref6_Turned k a b l) y ∧ Ev (fun k => flat_Turned k a b l) y ∧ FitRs y.1 := by
  have fit0 : FitRs ([] : List Row) := ⟨Nat.zero_lt_succ _, fun r hr => by cases hr⟩
  have start : ∀ {y : List Row × Int × Int}, Ev (fun k => (flat_CheckFormat k a).bind fun y0 => cond (y0 != 0) (some ([], (0, y0))) (flat_Turned_c2 k l a b [a, b] 2 1)) y → Ev (fun k => flat_Turned k a b l) y := fun {y} hy =>
    .step (fun k => flat_Turned_eq k _ _ _) (.step (fun k => flat_Turned_c2_eq k _ _ _ _ _ _) (.ck (by decide) (.ck (by decide) (.ck (show (0 : Int) < ((2 : Nat) : Int) by decide) hy))))
  cases hf : (fmtF a != 0) with
  | true => exact ⟨([], (0, fmtF a)), .step (fun k => interchangeref6_Turned_eq k _ _ _) (.bind (ev_rCheckFormat a ha) (.tt hf (.pure _))), start (.bind (ev_CheckFormat a ha) (.tt hf (.pure _))), fit0⟩
  | false =>
    have next : ∀ {y : List Row × Int × Int}, Ev (fun k => (flat_CheckFormat k b).bind fun y0 => cond (y0 != 0) (some ([], (0, y0))) (flat_Turned_c2 k l a b [a, b] 2 2)) y → Ev (fun k => flat_Turned k a b l) y := fun {y} hy =>
      start (.bind (ev_CheckFormat a ha) (.ff hf (.step (fun k => flat_Turned_c2_eq k _ _ _ _ _ _) (.ck (by decide) (.ck (by decide) (.ck (show (1 : Int) < ((2 : Nat) : Int) by decide) hy))))))
    cases hg : (fmtF b != 0) with
    | true => exact ⟨([], (0, fmtF b)), .step (fun k => interchangeref6_Turned_eq k _ _ _) (.bind (ev_rCheckFormat a ha) (.ff hf (.bind (ev_rCheckFormat b hb) (.tt hg (.pure _))))), next (.bind (ev_CheckFormat b hb) (.tt hg (.pure _))), fit0⟩
    | false =>
      have h0 : fmtF a = 0 := by simpa using hf
      have g0 : fmtF b = 0 := by simpa using hg
      have oa := fmt_ok h0
      have ob := fmt_ok g0
      have wa := fmt_own h0
      have wb := fmt_own g0
      obtain ⟨e, e1, e2, e3⟩ := ev_ask a l ha hl
      have last : ∀ {y : List Row × Int × Int}, Ev (fun k => (flat_rowsFault k a l).bind fun y1 => cond (y1 != 0) (some ([], (0, y1))) ((flat_typeFault k a b).bind fun y2 => cond y2 (some ([], (0, 6))) (flat_Turned_c16 k a b [] 0 l (l.length : Int) 0))) y → Ev (fun k => flat_Turned k a b l) y := fun {y} hy =>
        next (.bind (ev_CheckFormat b hb) (.ff hg (.step (fun k => flat_Turned_c2_eq k _ _ _ _ _ _) (.nk (by decide) hy))))
      have rlast : ∀ {y : List Row × Int × Int}, Ev (fun k => (interchangeref6_askRows k a l).bind fun y2 => cond (y2 != 0) (some ([], (0, y2))) ((interchangeref6_isOther k a b).bind fun y3 => cond y3 (some ([], (0, 6))) (interchangeref6_Turned_c15 k a b [] 0 l (l.length : Int) 0))) y → Ev (fun k => interchangeref6_Turned k a b l) y := fun {y} hy =>
        .step (fun k => interchangeref6_Turned_eq k _ _ _) (.bind (ev_rCheckFormat a ha) (.ff hf (.bind (ev_rCheckFormat b hb) (.ff hg hy))))
      cases he : (e != 0) with
      | true => exact ⟨([], (0, e)), rlast (.bind e1 (.tt he (.pure _))), last (.bind e2 (.tt he (.pure _))), fit0⟩
      | false =>
        obtain ⟨_, hn, hrows⟩ := e3 (by simpa using he)
        obtain ⟨t, t1, t2⟩ := ev_otherB a b ha hb
        cases t with
        | true => exact ⟨([], (0, 6)), rlast (.bind e1 (.ff he (.bind t1 (.pure _)))), last (.bind e2 (.ff he (.bind t2 (.pure _)))), fit0⟩
        | false =>
          have key : ∀ (m q : Nat) (acc : List Row) (s : Int), l.length - q = m → q ≤ l.length → acc.length ≤ q → FitRs acc →
              ∃ y : List Row × Int × Int, Ev (fun k => interchangeref6_Turned_c15 k a b acc s l (l.length : Int) (q : Int)) y ∧ Ev (fun k => flat_Turned_c16 k a b acc s l (l.length : Int) (q : Int)) y ∧ FitRs y.1 := by
            intro m
            induction m with
            | zero =>
              intro q acc s hm hq hacc hfit
              obtain ⟨z, z1, z2, _⟩ := ev_checkRows b acc hb ob hfit
              cases hz : (z.2 != 0) with
              | true => exact ⟨([], (0, z.2)), .step (fun k => interchangeref6_Turned_c15_eq k _ _ _ _ _ _ _) (.nk (by omega) (.bind z1 (.tt hz (.pure _)))), .step (fun k => flat_Turned_c16_eq k _ _ _ _ _ _ _) (.nk (by omega) (.bind z2 (.tt hz (.pure _)))), fit0⟩
              | false => exact ⟨(acc, (s, 0)), .step (fun k => interchangeref6_Turned_c15_eq k _ _ _ _ _ _ _) (.nk (by omega) (.bind z1 (.ff hz (.pure _)))), .step (fun k => flat_Turned_c16_eq k _ _ _ _ _ _ _) (.nk (by omega) (.bind z2 (.ff hz (.pure _)))), hfit⟩
            | succ m ih =>
              intro q acc s hm hq hacc hfit
              have hq3 : q < l.length := by omega
              obtain ⟨i, hi, hk, hlen, _⟩ := hrows _ (List.getElem_mem hq3)
              have hmem := List.getElem_mem hi
              have hA : Ev (fun k => flat_kindAt k a (l[q]).1) (a.2.2.1[i], true) := (ev_kindAt a _ ha.n).to (kAt_at hi hk)
              have hAr : Ev (fun k => interchangeref6_kindOf k a (l[q]).1) (i : Int) := (ev_rkindOf a _ ha.n).to hk
              by_cases h1 : kOf b.2.2.1 (l[q]).1 < 0
              · obtain ⟨y, y1, y2, y3⟩ := ih (q + 1) acc (wi64 (s + 1)) (by omega) (by omega) (by omega) hfit
                refine ⟨y, .step (fun k => interchangeref6_Turned_c15_eq k _ _ _ _ _ _ _) (.ck (by omega) (.ck (by omega) (.ck (by omega) ?_))), .step (fun k => flat_Turned_c16_eq k _ _ _ _ _ _ _) (.ck (by omega) (.ck (by omega) (.ck (by omega) ?_))), y3⟩
                · rw [getD_at hq3, wj hq3 (by omega)]
                  exact .bind (ev_rkindOf b _ hb.n) (.ck h1 y1)
                · rw [getD_at hq3, wj hq3 (by omega)]
                  refine .bind hA (.bind (ev_kindAt b _ hb.n) ?_)
                  rw [kAt_no h1]
                  exact .tt rfl y2
              · obtain ⟨p, hp, hkp, _⟩ := ixI_get (show 0 ≤ ixI (tagP (l[q]).1) b.2.2.1 from Int.not_lt.1 h1)
                have hkp' : kOf b.2.2.1 (l[q]).1 = (p : Int) := hkp
                have hpm := List.getElem_mem hp
                have hB : Ev (fun k => flat_kindAt k b (l[q]).1) (b.2.2.1[p], true) := (ev_kindAt b _ hb.n).to (kAt_at hp hkp')
                have hBr : Ev (fun k => interchangeref6_kindOf k b (l[q]).1) (p : Int) := (ev_rkindOf b _ hb.n).to hkp'
                obtain ⟨T1, T2⟩ := ev_turnB (kd := a.2.2.1[i]) (o := b.2.2.1[p]) (fun j hj => wa.c _ hmem j hj) (fun j hj => wb.c _ hpm j hj) (ha.c _ hmem) (ob.len _ hpm) l[q] hlen
                have hfr : FitR (turnR a.2.2.1[i] b.2.2.1[p] l[q]) := by
                  refine ⟨?_, fun c hc => ?_⟩
                  · unfold turnR
                    rw [List.length_map]
                    exact hb.c _ hpm
                  · unfold turnR at hc
                    obtain ⟨o, _, rfl⟩ := List.mem_map.1 hc
                    exact valN_small (hl.r _ (List.getElem_mem hq3)) _
                obtain ⟨y, y1, y2, y3⟩ := ih (q + 1) (acc ++ [turnR a.2.2.1[i] b.2.2.1[p] l[q]]) (wi64 (s + lostI a.2.2.1[i] b.2.2.1[p] l[q] (a.2.2.1[i]).2.1.length)) (by omega) (by omega) (by rw [List.length_append]; simp; omega) (fit_snoc hfit (by omega) hfr)
                refine ⟨y, .step (fun k => interchangeref6_Turned_c15_eq k _ _ _ _ _ _ _) (.ck (by omega) (.ck (by omega) (.ck (by omega) ?_))), .step (fun k => flat_Turned_c16_eq k _ _ _ _ _ _ _) (.ck (by omega) (.ck (by omega) (.ck (by omega) ?_))), y3⟩
                · rw [getD_at hq3, wj hq3 (by omega)]
                  refine .bind hBr (.nk (by omega) (.bind hAr (.ck (by omega) (.ck (by omega) (.ck (by omega) (.ck (by omega) ?_))))))
                  rw [getD_at hi, getD_at hp]
                  exact .bind T1 (.ck (by omega) y1)
                · rw [getD_at hq3, wj hq3 (by omega), row_eta]
                  exact .bind hA (.bind hB (.ff rfl (.bind T2 (.ck (by omega) y2))))
          obtain ⟨y, y1, y2, y3⟩ := key _ 0 [] 0 rfl (Nat.zero_le _) (Nat.le_refl _) fit0
          exact ⟨y, rlast (.bind e1 (.ff he (.bind t1 (.ff rfl y1)))), last (.bind e2 (.ff he (.bind t2 (.ff rfl y2)))), y3⟩
end Go.Proofs.YtpgbbmdfnmjjjaaGreatDoor.Eq
namespace Go.Proofs.YtpgbbmdfnmjjjaaGreatDoor.Eq
open Go Go.Ra
set_option linter.unusedVariables false
theorem ev_fitsIn (a : Fmt) (b : Col) (hb : ColOk a.1 b) (c : ByteArray) (hc : c.size ≤ 140737488351232) (hne : eqS c (bs []) = false) : ∃ t : Bool, Ev (fun k => interchangeref6_fitsIn k a b c) t ∧ (t = true ↔ VF a b c) := by
  obtain ⟨t, t1, t2, t3⟩ := ev_isOf a.1 b hb c hc hne
  obtain ⟨t', u1, u2⟩ := ev_isVal b c hc hne
  have et : t' = t := Ev.uniq u1 t2
  subst et
  cases t' with
  | false =>
    refine ⟨false, .step (fun k => interchangeref6_fitsIn_eq k _ _ _) (.bind t1 (.bind (x := bs []) (.ff rfl (.pure _)) (.bind (x := 0) (.ff rfl (.pure _)) (.pure _)))), (fun z => by cases z), fun z => ?_⟩
    have := u2.2 (z.isV hne)
    cases this
  | true =>
    have hv := u2.1 rfl
    obtain ⟨q2, q3⟩ := t3 rfl
    obtain ⟨w, w1, w2, _⟩ := ev_written a b hb c hc hne q2 q3
    have hj : Ev (fun k => strings_IndexByte k c a.1) (Lib.indexByte (L c) a.1.toNat.toUInt8) := .step (fun k => strings_IndexByte_eq k _ _) (.bind (x := Lib.indexByte (L c) a.1.toNat.toUInt8) (.off (n := 0) fun k => by rw [stringslite_IndexByte_eq]) (.pure _))
    by_cases hw : (w.size : Int) ≤ b.2.2.1
    · have hlen : ∀ w' : ByteArray, Ev (fun k => flat_written k a b c) w' → (w'.size : Int) ≤ b.2.2.1 := fun w' h' => by
        rw [← Ev.uniq w2 h']
        exact hw
      cases hg : (cond (a.1 == 0) true (a.2.1 != 0)) with
      | true =>
        refine ⟨true, .step (fun k => interchangeref6_fitsIn_eq k _ _ _) (.bind t1 (.bind (.tt rfl w1) (.bind (x := 0) (.ff (by rw [decide_eq_true hw, hg]; rfl) (.pure _)) (.to (.pure _) ?_)))), fun _ => ⟨(fun z => by rw [hne] at z; cases z), fun _ => hv, fun _ => hlen, fun _ z1 z2 => ?_⟩, fun _ => rfl⟩
        · rw [decide_eq_true hw, hg]; rfl
        · have h1 : (a.1 == 0) = false := by simpa using z1
          rw [h1, z2] at hg
          cases hg
      | false =>
        refine ⟨decide (Lib.indexByte (L c) a.1.toNat.toUInt8 < 0), .step (fun k => interchangeref6_fitsIn_eq k _ _ _) (.bind t1 (.bind (.tt rfl w1) (.bind (.tt (by rw [decide_eq_true hw, hg]; rfl) hj) (.to (.pure _) ?_)))), fun z => ⟨(fun z => by rw [hne] at z; cases z), fun _ => hv, fun _ => hlen, fun _ _ _ => of_decide_eq_true z⟩, fun z => ?_⟩
        · rw [decide_eq_true hw, hg]; rfl
        · refine decide_eq_true (z.bar hne ?_ ?_)
          · intro z1
            rw [z1] at hg
            cases hg
          · by_cases z2 : a.2.1 = 0
            · exact z2
            · have : (a.2.1 != 0) = true := by simpa using z2
              rw [this] at hg
              cases h1 : (a.1 == 0) <;> rw [h1] at hg <;> cases hg
    · refine ⟨false, .step (fun k => interchangeref6_fitsIn_eq k _ _ _) (.bind t1 (.bind (.tt rfl w1) (.bind (x := 0) (.ff (by rw [decide_eq_false hw]; rfl) (.pure _)) (.to (.pure _) ?_)))), (fun z => by cases z), fun z => absurd (z.len hne w w2) hw⟩
      rw [decide_eq_false hw]; rfl
theorem ev_isLess (a b : Fmt) (c d : Col) (hc : ColOk a.1 c) (hd : ColOk b.1 d) (S : List ByteArray) (hS : S.length < 1000000) (hv : ∀ v ∈ S, v.size ≤ 140737488351232 ∧ eqS v (bs []) = false) (hs : Ev (fun k => interchangeref6_samples k a c) S) :
    ∃ t : Bool, Ev (fun k => interchangeref6_isLess k a b c d) t ∧ (t = false ↔ ∀ v ∈ S, VF a c v → VF b d v) := by
  have key : ∃ t : Bool, Ev (fun k => interchangeref6_isLess_c2 k a b c d S (S.length : Int) 0) t ∧ Ev (fun k => interchangeref6_isLess_c2 k a b c d S (S.length : Int) 0) t ∧ (t = false ↔ ∀ j, 0 ≤ j → ∀ hj : j < S.length, VF a c S[j] → VF b d S[j]) := by
    refine ev_up2 S.length (fun (m : Nat) (t : Bool) => t = false ↔ ∀ j, m ≤ j → ∀ hj : j < S.length, VF a c S[j] → VF b d S[j]) (fun k j => interchangeref6_isLess_c2 k a b c d S (S.length : Int) j) (fun k j => interchangeref6_isLess_c2 k a b c d S (S.length : Int) j) (fun m hm h => ?_) ?_
    · obtain ⟨y, _, y2, y3⟩ := h
      have hvm := hv _ (List.getElem_mem hm)
      obtain ⟨t1, e1, f1⟩ := ev_fitsIn a c hc S[m] hvm.1 hvm.2
      obtain ⟨t2, e2, f2⟩ := ev_fitsIn b d hd S[m] hvm.1 hvm.2
      have he : Ev (fun k => interchangeref6_isLess_c2 k a b c d S (S.length : Int) ((m : Nat) : Int)) (cond (t1 && !t2) true y) := by
        refine .step (fun k => interchangeref6_isLess_c2_eq k _ _ _ _ _ _ _) (.ck (by omega) (.ck (by omega) (.ck (by omega) ?_)))
        rw [getD_at hm, wj hm (by omega)]
        refine .bind e1 (.bind (.gd rfl fun _ => e2) (.sel ?_ (fun _ => .pure _) fun _ => y2))
        cases t1 <;> rfl
      refine ⟨_, he, he, fun z j q1 q2 q3 => ?_, fun z => ?_⟩
      · cases hx : (t1 && !t2) with
        | true => rw [hx] at z; cases z
        | false =>
          rw [hx] at z
          by_cases e : j = m
          · subst e
            have h1 := f1.2 q3
            rw [h1] at hx
            exact f2.1 (not_f (by simpa using hx))
          · exact y3.1 z j (by omega) q2 q3
      · have hx : (t1 && !t2) = false := by
          cases h1 : t1 with
          | false => rfl
          | true =>
            have := f2.2 (z m (Nat.le_refl _) hm (f1.1 h1))
            rw [this]; rfl
        rw [hx]
        exact y3.2 fun j q1 q2 => z j (by omega) q2
    · have he : Ev (fun k => interchangeref6_isLess_c2 k a b c d S (S.length : Int) ((S.length : Nat) : Int)) false := .step (fun k => interchangeref6_isLess_c2_eq k _ _ _ _ _ _ _) (.nk (by omega) (.pure _))
      exact ⟨false, he, he, fun _ j q1 q2 => absurd q2 (by omega), fun _ => rfl⟩
  obtain ⟨t, t1, _, t3⟩ := key
  refine ⟨t, .step (fun k => interchangeref6_isLess_eq k _ _ _ _) (.bind hs t1), fun z v hv' => ?_, fun z => t3.2 fun j _ hj => z _ (List.getElem_mem hj)⟩
  obtain ⟨j, hj, rfl⟩ := List.getElem_of_mem hv'
  exact t3.1 z j (Nat.zero_le _) hj
end Go.Proofs.YtpgbbmdfnmjjjaaGreatDoor.Eq
namespace Go.Proofs.YtpgbbmdfnmjjjaaGreatDoor.Eq
open Go Go.Ra
set_option linter.unusedVariables false
theorem ev_normOk : ∀ (n : Nat) (d s : Int × Int), okD d → d.2.toNat = n → ∃ y : Int × Int, Ev (fun k => interchangeref1_Normal_c1 k d s) y ∧ okD y := by
  intro n
  induction n with
  | zero =>
    intro d s h hn
    have h2 := h.2.2.1
    exact ⟨d, .step (fun k => interchangeref1_Normal_c1_eq k _ _) (.tt (bor' fun _ => rfl) (.ff (by rw [decide_eq_false (by omega)]; rfl) (.pure _))), h⟩
  | succ n ih =>
    intro d s h hn
    have h' := h
    unfold okD at h'
    cases hc : (cond (decide (d.2 > 0)) ((d.1.tmod 10) == 0) false) with
    | false => exact ⟨d, .step (fun k => interchangeref1_Normal_c1_eq k _ _) (.tt (bor' fun _ => rfl) (.ff hc (.pure _))), h⟩
    | true =>
      have hb : -1000000000000000 ≤ d.1.tdiv 10 ∧ d.1.tdiv 10 ≤ 1000000000000000 := by
        have h3 : (d.1.tdiv 10).natAbs ≤ d.1.natAbs := by
          rw [Int.natAbs_tdiv]
          exact Nat.div_le_self _ _
        omega
      have e1 : wi64 (d.1.tdiv 10) = d.1.tdiv 10 := wi64_id (by omega) (by omega)
      have e2 : wi64 (d.2 - 1) = d.2 - 1 := wi64_id (by omega) (by omega)
      obtain ⟨y, y1, y2⟩ := ih (d.1.tdiv 10, d.2 - 1) s (by unfold okD; simp only; omega) (by simp only; omega)
      refine ⟨y, .step (fun k => interchangeref1_Normal_c1_eq k _ _) (.tt (bor' fun _ => rfl) (.tt hc ?_)), y2⟩
      rw [e1, e2]; exact y1
def GoodS (S : List ByteArray) : Prop := ∀ v ∈ S, v.size ≤ 140737488351232 ∧ eqS v (bs []) = false
theorem good_snoc {S : List ByteArray} {v : ByteArray} (h : GoodS S) (h1 : v.size ≤ 140737488351232) (h2 : 0 < v.size) : GoodS (S ++ [v]) := fun x hx => by
  rcases List.mem_append.1 hx with hx | hx
  · exact h x hx
  · rw [List.mem_singleton.1 hx]
    refine ⟨h1, eqS_ne fun z => ?_⟩
    rw [z] at h2
    exact absurd h2 (by decide)
theorem txL_pos {d : Int × Int} (h : okD d) : 0 < (txL d).length := by
  have hpl := ptL_len d.1.natAbs d.2.toNat
  unfold txL befL
  simp only [List.length_append, List.length_take]
  omega
def RS (S : List ByteArray) (p dg : Nat) : Prop := ∀ u : Int, (u = 10 ^ dg - 1 ∨ u = 1 - 10 ^ dg ∨ u = 1000000000000000 ∨ u = -1000000000000000) → okD (u, (p : Int)) → ∀ y, Ev (fun k => interchangeref1_Normal k (u, (p : Int))) y → B (txL y) ∈ S
def Then (f : Nat → List ByteArray → Option (List ByteArray)) (M : Nat) (Q : List ByteArray → Prop) : Prop := ∀ l : List ByteArray, l.length ≤ M → GoodS l → ∃ S : List ByteArray, (∀ x ∈ l, x ∈ S) ∧ S.length ≤ 100000 ∧ GoodS S ∧ Q S ∧ Ev (fun k => f k l) S
theorem ev_sam25 (p : Nat) (us : List Int) (hus : us.length = 6) (s8 s50 s51 : Int) (M : Nat) (Q : List ByteArray → Prop) (hM : M ≤ 90000) (hn : Then (fun k l => interchangeref6_samples_c17 k l (p : Int) (wi64 (s8 + 1)) s50 s51) M Q) :
    ∀ (m i : Nat) (l : List ByteArray), 6 - i = m → i ≤ 6 → l.length + m ≤ M → GoodS l → ∃ S : List ByteArray, (∀ x ∈ l, x ∈ S) ∧ S.length ≤ 100000 ∧ GoodS S ∧ (Q S ∧ ∀ i', i ≤ i' → ∀ hi' : i' < us.length, okD (us[i'], (p : Int)) → ∀ y, Ev (fun k => interchangeref1_Normal k (us[i'], (p : Int))) y → B (txL y) ∈ S) ∧ Ev (fun k => interchangeref6_samples_c25 k l (p : Int) s8 s50 s51 us 6 (i : Int)) S := by
  intro m
  induction m with
  | zero =>
    intro i l hm hi hl hg
    obtain ⟨S, q1, q2, q3, q4, q5⟩ := hn l (by omega) hg
    exact ⟨S, q1, q2, q3, ⟨q4, fun i' h1 h2 => absurd h2 (by omega)⟩, .step (fun k => interchangeref6_samples_c25_eq k _ _ _ _ _ _ _ _) (.nk (by omega) q5)⟩
  | succ m ih =>
    intro i l hm hi hl hg
    have hi6 : i < us.length := by omega
    have hck := ev_rCheck (us[i], (p : Int))
    by_cases hok : okD (us[i], (p : Int))
    · rw [if_pos hok] at hck
      obtain ⟨y, y1, y2⟩ := ev_normOk _ (us[i], (p : Int)) (0, 0) hok rfl
      have yN : Ev (fun k => interchangeref1_Normal k (us[i], (p : Int))) y := .step (fun k => interchangeref1_Normal_eq k _) y1
      have ht := ev_rText y
      rw [if_pos y2] at ht
      have hsm := txL_small y2
      have hpos := txL_pos y2
      obtain ⟨S, q1, q2, q3, q4, q5⟩ := ih (i + 1) (l ++ [B (txL y)]) (by omega) (by omega) (by rw [List.length_append]; simp; omega) (good_snoc hg (by rw [size_B]; exact hsm) (by rw [size_B]; exact hpos))
      refine ⟨S, fun x hx => q1 x (List.mem_append_left _ hx), q2, q3, ⟨q4.1, fun i' h1 h2 h3 y' h4 => ?_⟩, .step (fun k => interchangeref6_samples_c25_eq k _ _ _ _ _ _ _ _) (.ck (by omega) (.ck (by omega) (.ck (by omega) ?_)))⟩
      · by_cases e : i' = i
        · subst e
          rw [Ev.uniq h4 yN]
          exact q1 _ (List.mem_append_right _ (List.mem_singleton.2 rfl))
        · exact q4.2 i' (by omega) h2 h3 y' h4
      · rw [getD_at hi6, wj (show i < 1000 by omega) (by decide)]
        exact .bind hck (.tt rfl (.bind yN (.bind ht (.ck (by omega) q5))))
    · rw [if_neg hok] at hck
      obtain ⟨S, q1, q2, q3, q4, q5⟩ := ih (i + 1) l (by omega) (by omega) (by omega) hg
      refine ⟨S, q1, q2, q3, ⟨q4.1, fun i' h1 h2 h3 y' h4 => ?_⟩, .step (fun k => interchangeref6_samples_c25_eq k _ _ _ _ _ _ _ _) (.ck (by omega) (.ck (by omega) (.ck (by omega) ?_)))⟩
      · by_cases e : i' = i
        · subst e
          exact absurd h3 hok
        · exact q4.2 i' (by omega) h2 h3 y' h4
      · rw [getD_at hi6, wj (show i < 1000 by omega) (by decide)]
        exact .bind hck (.ff rfl q5)
theorem p10 {dg : Nat} (h : dg ≤ 16) : (1 : Int) ≤ 10 ^ dg ∧ (10 : Int) ^ dg ≤ 10000000000000000 := by
  have h1 : 1 ≤ 10 ^ dg := Nat.one_le_pow _ _ (by decide)
  have h2 : 10 ^ dg ≤ 10 ^ 16 := Nat.pow_le_pow_right (by decide) h
  have e16 : (10 : Nat) ^ 16 = 10000000000000000 := by decide
  rw [e16] at h2
  have e : (10 : Int) ^ dg = ((10 ^ dg : Nat) : Int) := by push_cast; rfl
  rw [e]
  omega
theorem ev_sam21 (p dg : Nat) (hdg : dg ≤ 16) (s50 s51 : Int) (M : Nat) (Q : List ByteArray → Prop) (hM : M + 6 ≤ 90000) (hn : Then (fun k l => interchangeref6_samples_c17 k l (p : Int) (wi64 ((dg : Int) + 1)) s50 s51) (M + 6) Q) :
    Then (fun k l => interchangeref6_samples_c21 k l (p : Int) (dg : Int) 1 s50 s51 (dg : Int) 0) M (fun S => Q S ∧ RS S p dg) := by
  have hp := p10 hdg
  have key : ∀ (m i : Nat) (l : List ByteArray), dg - i = m → i ≤ dg → l.length ≤ M → GoodS l → ∃ S : List ByteArray, (∀ x ∈ l, x ∈ S) ∧ S.length ≤ 100000 ∧ GoodS S ∧ (Q S ∧ RS S p dg) ∧ Ev (fun k => interchangeref6_samples_c21 k l (p : Int) (dg : Int) (10 ^ i) s50 s51 (dg : Int) (i : Int)) S := by
    intro m
    induction m with
    | zero =>
      intro i l hm hi hl hg
      have e : i = dg := by omega
      subst e
      obtain ⟨S, q1, q2, q3, q4, q5⟩ := ev_sam25 p [(10 : Int) ^ i - 1, 1 - 10 ^ i, 1000000000000000, -1000000000000000, wi64 (((10 : Int) ^ i).tdiv 10), wi64 ((wi64 (0 - 10 ^ i)).tdiv 10)] rfl (i : Int) s50 s51 (M + 6) Q hM hn 6 0 l rfl (by decide) (by omega) hg
      refine ⟨S, q1, q2, q3, ⟨q4.1, fun u hu hok y hy => ?_⟩, .step (fun k => interchangeref6_samples_c21_eq k _ _ _ _ _ _ _ _) (.nk (by omega) ?_)⟩
      · rcases hu with rfl | rfl | rfl | rfl
        · exact q4.2 0 (Nat.zero_le _) (show 0 < 6 by decide) hok y hy
        · exact q4.2 1 (Nat.zero_le _) (show 1 < 6 by decide) hok y hy
        · exact q4.2 2 (Nat.zero_le _) (show 2 < 6 by decide) hok y hy
        · exact q4.2 3 (Nat.zero_le _) (show 3 < 6 by decide) hok y hy
      · rw [wi64_id (x := (10 : Int) ^ i - 1) (by omega) (by omega), wi64_id (x := 1 - (10 : Int) ^ i) (by omega) (by omega)]
        exact q5
    | succ m ih =>
      intro i l hm hi hl hg
      have hpi := p10 (dg := i + 1) (by omega)
      obtain ⟨S, q1, q2, q3, q4, q5⟩ := ih (i + 1) l (by omega) (by omega) hl hg
      refine ⟨S, q1, q2, q3, q4, .step (fun k => interchangeref6_samples_c21_eq k _ _ _ _ _ _ _ _) (.ck (by omega) ?_)⟩
      have e : wi64 ((10 : Int) ^ i * 10) = 10 ^ (i + 1) := by
        rw [← Int.pow_succ]
        exact wi64_id (by omega) (by omega)
      rw [e, wj (show i < 1000 by omega) (by decide)]
      exact q5
  intro l hl hg
  exact key _ 0 l rfl (Nat.zero_le _) hl hg
theorem ev_sam17 (p : Nat) (s50 s51 : Int) (M : Nat) (Q : List ByteArray → Prop) (hM : M + 120 ≤ 90000) (hn : Then (fun k l => interchangeref6_samples_c14 k l s50 (wi64 (s51 + 1))) (M + 120) Q) :
    ∀ (m dg : Nat), 17 - dg = m → 1 ≤ dg → dg ≤ 17 → Then (fun k l => interchangeref6_samples_c17 k l (p : Int) (dg : Int) s50 s51) (M + 6 * (dg - 1)) (fun S => Q S ∧ ∀ dg', dg ≤ dg' → dg' ≤ 16 → RS S p dg') := by
  intro m
  induction m with
  | zero =>
    intro dg hm h1 h17 l hl hg
    obtain ⟨S, q1, q2, q3, q4, q5⟩ := hn l (by omega) hg
    exact ⟨S, q1, q2, q3, ⟨q4, fun dg' z1 z2 => absurd z2 (by omega)⟩, .step (fun k => interchangeref6_samples_c17_eq k _ _ _ _ _) (.nk (by omega) q5)⟩
  | succ m ih =>
    intro dg hm h1 h17 l hl hg
    have hnext := ih (dg + 1) (by omega) (by omega) (by omega)
    have hw : wi64 ((dg : Int) + 1) = ((dg + 1 : Nat) : Int) := wj (show dg < 1000 by omega) (by decide)
    have e : M + 6 * (dg + 1 - 1) = M + 6 * (dg - 1) + 6 := by omega
    rw [e, ← hw] at hnext
    obtain ⟨S, q1, q2, q3, q4, q5⟩ := ev_sam21 p dg (by omega) s50 s51 (M + 6 * (dg - 1)) _ (by omega) hnext l hl hg
    refine ⟨S, q1, q2, q3, ⟨q4.1.1, fun dg' z1 z2 => ?_⟩, .step (fun k => interchangeref6_samples_c17_eq k _ _ _ _ _) (.ck (by omega) q5)⟩
    by_cases ee : dg' = dg
    · rw [ee]; exact q4.2
    · exact q4.1.2 dg' (by omega) z2
theorem ev_sam14 (C : Nat) (hC : C ≤ 9) : ∀ (m p : Nat), C + 1 - p = m → p ≤ C + 1 → Then (fun k l => interchangeref6_samples_c14 k l ((C + 1 : Nat) : Int) (p : Int)) (200 * p) (fun S => ∀ p', p ≤ p' → p' ≤ C → ∀ dg, 1 ≤ dg → dg ≤ 16 → RS S p' dg) := by
  intro m
  induction m with
  | zero =>
    intro p hm hp l hl hg
    refine ⟨l ++ [bs [48]], fun x hx => List.mem_append_left _ hx, by rw [List.length_append]; simp; omega, good_snoc hg (by decide) (by decide), fun p' z1 z2 => absurd z2 (by omega), .step (fun k => interchangeref6_samples_c14_eq k _ _ _) (.nk (by omega) (.ck (by omega) (.pure _)))⟩
  | succ m ih =>
    intro p hm hp l hl hg
    have hnext := ih (p + 1) (by omega) (by omega)
    have hw : wi64 ((p : Int) + 1) = ((p + 1 : Nat) : Int) := wj (show p < 1000 by omega) (by decide)
    rw [← hw] at hnext
    have hn2 : Then (fun k l => interchangeref6_samples_c14 k l ((C + 1 : Nat) : Int) (wi64 ((p : Int) + 1))) (200 * p + 120) (fun S => ∀ p', p + 1 ≤ p' → p' ≤ C → ∀ dg, 1 ≤ dg → dg ≤ 16 → RS S p' dg) := fun l' hl' hg' => hnext l' (by omega) hg'
    obtain ⟨S, q1, q2, q3, q4, q5⟩ := ev_sam17 p ((C + 1 : Nat) : Int) (p : Int) (200 * p) _ (by omega) hn2 16 1 rfl (by decide) (by decide) l (by omega) hg
    refine ⟨S, q1, q2, q3, fun p' z1 z2 dg z3 z4 => ?_, .step (fun k => interchangeref6_samples_c14_eq k _ _ _) (.ck (by omega) q5)⟩
    by_cases ee : p' = p
    · rw [ee]; exact q4.2 dg z3 z4
    · exact q4.1 p' (by omega) z2 dg z3 z4
theorem ev_samN (a : Fmt) (c : Col) (h2 : c.2.1 = 2) (hp : 0 ≤ c.2.2.2.1 ∧ c.2.2.2.1 ≤ 9) : ∃ S : List ByteArray, S.length ≤ 100000 ∧ GoodS S ∧ (∀ p : Nat, (p : Int) ≤ c.2.2.2.1 → ∀ dg, 1 ≤ dg → dg ≤ 16 → RS S p dg) ∧ Ev (fun k => interchangeref6_samples k a c) S := by
  obtain ⟨S, _, q2, q3, q4, q5⟩ := ev_sam14 c.2.2.2.1.toNat (by omega) _ 0 rfl (Nat.zero_le _) [] (Nat.zero_le _) (fun v hv => by cases hv)
  refine ⟨S, q2, q3, fun p z1 dg z2 z3 => q4 p (Nat.zero_le _) (by omega) dg z2 z3, .step (fun k => interchangeref6_samples_eq k _ _) (.ff (by rw [h2]; rfl) (.ff (by rw [h2]; rfl) ?_))⟩
  have e : wi64 (c.2.2.2.1 + 1) = ((c.2.2.2.1.toNat + 1 : Nat) : Int) := by rw [wi64_id (by omega) (by omega)]; omega
  rw [e]
  exact q5
end Go.Proofs.YtpgbbmdfnmjjjaaGreatDoor.Eq
namespace Go.Proofs.YtpgbbmdfnmjjjaaGreatDoor.Eq
open Go Go.Ra
set_option linter.unusedVariables false
theorem norm_self {d : Int × Int} (h : d.2 ≤ 0 ∨ d.1.natAbs % 10 ≠ 0) : Ev (fun k => interchangeref1_Normal k d) d ∧ Ev (fun k => amount_Least k d) d := by
  have hc : (cond (decide (d.2 > 0)) ((d.1.tmod 10) == 0) false) = false := by
    rcases h with h | h
    · rw [decide_eq_false (by omega)]; rfl
    · have : (d.1.tmod 10 == 0) = false := by
        have e := Int.natAbs_tmod d.1 10
        have e10 : (10 : Int).natAbs = 10 := rfl
        rw [e10] at e
        have : d.1.tmod 10 ≠ 0 := fun z => by rw [z] at e; exact h e.symm
        simpa using this
      rw [this]
      cases decide (d.2 > 0) <;> rfl
  exact ⟨.step (fun k => interchangeref1_Normal_eq k _) (.step (fun k => interchangeref1_Normal_c1_eq k _ _) (.tt (bor' fun _ => rfl) (.ff hc (.pure _)))), .step (fun k => amount_Least_eq k _) (.step (fun k => amount_Least_c1_eq k _ _) (.tt (bor' fun _ => rfl) (.ff hc (.pure _))))⟩
theorem num_len {n U nd p : Nat} (hn : n ≤ 1) (h1 : 10 ^ (nd - 1) ≤ U) (h2 : U < 10 ^ nd) (hnd : 1 ≤ nd) (hU : U ≤ 1000000000000000) (hp : p ≤ 9) :
    okD ((if n = 1 then -((U : Nat) : Int) else ((U : Nat) : Int)), (p : Int)) ∧ (∀ P : Int, (p : Int) ≤ P → P ≤ 9 → ((Lib.itoa (sc ((if n = 1 then -((U : Nat) : Int) else ((U : Nat) : Int)), (p : Int)) P)).length : Int) = (n : Int) + (nd : Int) + (P - (p : Int))) ∧
    (txL ((if n = 1 then -((U : Nat) : Int) else ((U : Nat) : Int)), (p : Int))).length = n + (max 1 (nd - p) + (if p = 0 then 0 else 1 + p)) := by
  have hU1 : 0 < U := Nat.lt_of_lt_of_le (Nat.pow_pos (by decide)) h1
  have hdl : (Lib.decDigits U).length = nd := by
    have e : nd - 1 + 1 = nd := by omega
    have := dec_len h1 (by rw [e]; exact h2)
    omega
  have hok : okD ((if n = 1 then -((U : Nat) : Int) else ((U : Nat) : Int)), (p : Int)) := by
    unfold okD
    simp only
    split <;> omega
  have hna : (if n = 1 then -((U : Nat) : Int) else ((U : Nat) : Int)).natAbs = U := by split <;> omega
  refine ⟨hok, fun P q1 q2 => ?_, ?_⟩
  · rw [itoa_sc hok q1 (by simp only; split <;> omega)]
    simp only
    rw [hna, List.length_append, List.length_append, List.length_replicate, hdl]
    by_cases h : n = 1
    · rw [if_pos (by rw [if_pos h]; omega), h]
      simp only [List.length_singleton]
      omega
    · rw [if_neg (by rw [if_neg h]; omega)]
      simp only [List.length_nil]
      omega
  · unfold txL befL behL ptL
    simp only [hna, Int.toNat_natCast, List.length_append, List.length_take, List.length_replicate, hdl]
    by_cases h : n = 1
    · rw [if_pos (by rw [if_pos h]; omega), h]
      by_cases hz : p = 0
      · subst hz
        simp
        omega
      · rw [if_neg (show ¬ ((p : Int) = 0) by omega), if_neg hz]
        simp [hdl]
        omega
    · rw [if_neg (by rw [if_neg h]; omega)]
      by_cases hz : p = 0
      · subst hz
        simp
        omega
      · rw [if_neg (show ¬ ((p : Int) = 0) by omega), if_neg hz]
        simp [hdl]
        omega
theorem p10n {nd : Nat} (h : 1 ≤ nd) : 10 ^ (nd - 1) ≤ 10 ^ nd - 1 ∧ 10 ^ nd - 1 < 10 ^ nd ∧ (10 ^ nd - 1) % 10 ≠ 0 := by
  obtain ⟨m, rfl⟩ : ∃ m, nd = m + 1 := ⟨nd - 1, by omega⟩
  have : 1 ≤ 10 ^ m := Nat.one_le_pow _ _ (by decide)
  rw [Nat.add_sub_cancel, Nat.pow_succ]
  omega
theorem shp_sample {s : Shp} (hs : s ∈ shapesL) : ∃ (p dg : Nat) (u : Int), p ≤ 9 ∧ 1 ≤ dg ∧ dg ≤ 16 ∧ s.2.2.1 = (p : Int) ∧ (u = 10 ^ dg - 1 ∨ u = 1 - 10 ^ dg ∨ u = 1000000000000000 ∨ u = -1000000000000000) ∧ okD (u, (p : Int)) ∧ ((p : Int) ≤ 0 ∨ u.natAbs % 10 ≠ 0) ∧ ShpOf (txL (u, (p : Int))) (u, (p : Int)) s := by
  have hs0 := hs
  unfold shapesL at hs
  obtain ⟨neg, hneg, hs⟩ := List.mem_flatMap.1 hs
  obtain ⟨n, hn, rfl⟩ : ∃ n : Nat, n ≤ 1 ∧ neg = (n : Int) := by
    have : neg = 0 ∨ neg = 1 := by simpa using hneg
    rcases this with rfl | rfl
    · exact ⟨0, by decide, rfl⟩
    · exact ⟨1, by decide, rfl⟩
  -- a number of nd digits, all 9
  have nines : ∀ (nd p : Nat), 1 ≤ nd → nd ≤ 15 → p ≤ 9 → ∃ u : Int, (u = 10 ^ nd - 1 ∨ u = 1 - 10 ^ nd ∨ u = 1000000000000000 ∨ u = -1000000000000000) ∧ okD (u, (p : Int)) ∧ u.natAbs % 10 ≠ 0 ∧ (∀ P : Int, (p : Int) ≤ P → P ≤ 9 → ((Lib.itoa (sc (u, (p : Int)) P)).length : Int) = (n : Int) + (nd : Int) + (P - (p : Int))) ∧ (txL (u, (p : Int))).length = n + (max 1 (nd - p) + (if p = 0 then 0 else 1 + p)) := by
    intro nd p h1 h15 hp
    obtain ⟨b1, b2, b3⟩ := p10n h1
    have hle : 10 ^ nd ≤ 10 ^ 15 := Nat.pow_le_pow_right (by decide) h15
    have e15 : (10 : Nat) ^ 15 = 1000000000000000 := by decide
    obtain ⟨g1, g2, g3⟩ := num_len hn b1 b2 h1 (by omega) hp
    have ec : ((10 ^ nd - 1 : Nat) : Int) = (10 : Int) ^ nd - 1 := by
      have : 1 ≤ 10 ^ nd := Nat.one_le_pow _ _ (by decide)
      push_cast [Int.ofNat_sub this]
      rfl
    refine ⟨_, ?_, g1, ?_, g2, g3⟩
    · split
      · right; left; rw [ec]; omega
      · left; exact ec
    · have : (if n = 1 then -((10 ^ nd - 1 : Nat) : Int) else ((10 ^ nd - 1 : Nat) : Int)).natAbs = 10 ^ nd - 1 := by split <;> omega
      rw [this]
      exact b3
  rcases List.mem_append.1 hs with hs | hs
  · obtain ⟨p, hp, hs⟩ := List.mem_flatMap.1 hs
    have hp9 : p ≤ 9 := by have := List.mem_range.1 hp; omega
    rcases List.mem_append.1 hs with hs | hs
    · obtain ⟨b, hb, rfl⟩ := List.mem_map.1 hs
      have hb15 := List.mem_range.1 hb
      obtain ⟨u, u1, u2, u3, u4, u5⟩ := nines (b + 1 + p) p (by omega) (by omega) hp9
      refine ⟨p, b + 1 + p, u, hp9, by omega, by omega, rfl, u1, u2, .inr u3, hs0, ⟨show (0 : Int) ≤ (n : Int) by omega, show (n : Int) ≤ 1 by omega⟩, ⟨show (0 : Int) ≤ ((b + 1 : Nat) : Int) by omega, show ((b + 1 : Nat) : Int) ≤ 16 by omega⟩, rfl, ⟨Int.le_refl _, show (0 : Int) ≤ 9 by decide⟩, fun P q1 q2 => ?_, ?_⟩
      · show _ = if (0 : Int) < ((b + 1 : Nat) : Int) then (n : Int) + ((b + 1 : Nat) : Int) + P else _
        rw [u4 P q1 q2, if_pos (by omega)]
        omega
      · show _ = if (0 : Int) < (p : Int) then (n : Int) + (if (1 : Int) ≤ ((b + 1 : Nat) : Int) then ((b + 1 : Nat) : Int) else 1) + 1 + (p : Int) else (n : Int) + ((b + 1 : Nat) : Int)
        rw [u5]
        by_cases hz : p = 0
        · rw [if_pos hz, if_neg (by omega)]
          omega
        · rw [if_neg hz, if_pos (by omega), if_pos (by omega)]
          omega
    · obtain ⟨f, hf, rfl⟩ := List.mem_map.1 hs
      have hfp := List.mem_range.1 hf
      obtain ⟨u, u1, u2, u3, u4, u5⟩ := nines (p - f) p (by omega) (by omega) hp9
      refine ⟨p, p - f, u, hp9, by omega, by omega, rfl, u1, u2, .inr u3, hs0, ⟨show (0 : Int) ≤ (n : Int) by omega, show (n : Int) ≤ 1 by omega⟩, ⟨Int.le_refl _, show (0 : Int) ≤ 16 by decide⟩, rfl, ⟨show (0 : Int) ≤ ((f + 1 : Nat) : Int) by omega, show ((f + 1 : Nat) : Int) ≤ 9 by omega⟩, fun P q1 q2 => ?_, ?_⟩
      · show _ = if (0 : Int) < 0 then _ else (n : Int) + P - ((f + 1 : Nat) : Int) + 1
        rw [u4 P q1 q2, if_neg (by decide)]
        omega
      · show _ = if (0 : Int) < (p : Int) then (n : Int) + (if (1 : Int) ≤ 0 then (0 : Int) else 1) + 1 + (p : Int) else _
        rw [u5, if_pos (show (0 : Int) < (p : Int) by omega), if_neg (show ¬ p = 0 by omega), if_neg (show ¬ (1 : Int) ≤ 0 by decide)]
        omega
  · have hs := List.mem_singleton.1 hs
    subst hs
    have b1 : 10 ^ (16 - 1) ≤ 1000000000000000 := by decide
    obtain ⟨g1, g2, g3⟩ := num_len (n := n) (U := 1000000000000000) (nd := 16) (p := 0) hn b1 (by decide) (by decide) (by decide) (by decide)
    refine ⟨0, 16, _, by decide, by decide, by decide, rfl, ?_, g1, .inl (by decide), hs0, ⟨show (0 : Int) ≤ (n : Int) by omega, show (n : Int) ≤ 1 by omega⟩, ⟨show (0 : Int) ≤ 16 by decide, Int.le_refl _⟩, rfl, ⟨Int.le_refl _, show (0 : Int) ≤ 9 by decide⟩, fun P q1 q2 => ?_, ?_⟩
    · split
      · right; right; right; rfl
      · right; right; left; rfl
    · show _ = if (0 : Int) < 16 then (n : Int) + 16 + P else _
      rw [g2 P q1 q2, if_pos (by decide)]
      omega
    · show _ = if (0 : Int) < 0 then _ else (n : Int) + 16
      rw [g3, if_pos (rfl : (0 : Nat) = 0), if_neg (show ¬ (0 : Int) < 0 by decide)]
      omega
end Go.Proofs.YtpgbbmdfnmjjjaaGreatDoor.Eq
namespace Go.Proofs.YtpgbbmdfnmjjjaaGreatDoor.Eq
open Go Go.Ra
set_option linter.unusedVariables false
theorem samp_vf {a : Fmt} {c : Col} (ca : ColOk a.1 c) (h2 : c.2.1 = 2) (hm : a.1 ≠ 0 → markB a.1 = true) {s : Shp} {d : Int × Int} (hok : okD d) (hnorm : Ev (fun k => amount_Least k d) d) (hs : ShpOf (txL d) d s) :
    VF a c (B (txL d)) ↔ inS a.1 c s = true := by
  have hsm := txL_small hok
  have hpos := txL_pos hok
  have hne : eqS (B (txL d)) (bs []) = false := eqS_ne fun z => by
    have := congrArg ByteArray.size z
    rw [size_B] at this
    exact absurd this (by show ¬ (txL d).length = 0; omega)
  have hr : rtx (L (B (txL d))) = (d, 0) := by rw [L_B]; exact rtx_back hok
  have hs' : ShpOf (L (B (txL d))) (rtx (L (B (txL d)))).1 s := by rw [hr, L_B]; exact hs
  have hsz : (B (txL d)).size ≤ 140737488351232 := by rw [size_B]; exact hsm
  constructor
  · intro h
    have hv := h.isV hne
    obtain ⟨w, w1, _⟩ := ev_wrF a c ca _ hsz hne hv
    have hsize := wr_size ca hsz hne hv h2 hs' w1
    have hlen := h.len hne w w1
    have hp := (hv.num h2).2.1
    rw [← hs'.pl] at hp
    unfold inS
    rw [decide_eq_true hp]
    exact decide_eq_true (by omega)
  · intro h
    have hp : s.2.2.1 ≤ c.2.2.2.1 ∧ wid a.1 c s ≤ c.2.2.1 := by
      unfold inS at h
      by_cases q : s.2.2.1 ≤ c.2.2.2.1
      · rw [decide_eq_true q] at h
        exact ⟨q, of_decide_eq_true h⟩
      · rw [decide_eq_false q] at h
        cases h
    have hv : IsV c (B (txL d)) := ⟨fun _ => ⟨by rw [hr], by rw [← hs'.pl]; exact hp.1, by rw [hr]; exact hnorm⟩, fun z => by omega, fun z => absurd h2 z⟩
    refine ⟨(fun z => by rw [hne] at z; cases z), fun _ => hv, fun _ w hw => ?_, fun _ q1 q2 => ?_⟩
    · rw [wr_size ca hsz hne hv h2 hs' hw]
      exact hp.2
    · have hmb := mark_byte (hm q1)
      have : a.1.toNat.toUInt8 ∉ L (B (txL d)) := fun z => by
        rcases num_chars hv h2 _ z with q | q | q
        · rw [hmb.1] at q; cases q
        · exact hmb.2.1 q
        · exact hmb.2.2 q
      rw [indexByte_none this]
      decide
def day1 : List UInt8 := [50, 48, 48, 48, 48, 49, 48, 49]
theorem day1_read : ∃ n : Int, (1 ≤ n ∧ n ≤ 3652059) ∧ Ev (fun k => amount_ReadDay k (B day1) 1 1) (n, 0) := by
  obtain ⟨t, t1, t2, t3⟩ := ev_day day1 (by decide)
  have T := (ev_rd1T day1 1 (by decide) (by decide)).1
  have e := Ev.uniq t1 T
  have e0 : t.2 = 0 := by rw [e]; decide +kernel
  have ht : t = (t.1, 0) := by rw [← e0]
  rw [ht] at t2
  exact ⟨t.1, t3 e0, t2⟩
theorem day1_vf {a : Fmt} {c : Col} (ca : ColOk a.1 c) (h3 : c.2.1 = 3) (hm : a.1 ≠ 0 → markB a.1 = true) : VF a c (B day1) ↔ wOf c.2.2.2.2.1 ≤ c.2.2.1 := by
  have hne : eqS (B day1) (bs []) = false := by decide +kernel
  have hsz : (B day1).size ≤ 140737488351232 := by decide
  have hv : IsV c (B day1) := ⟨fun z => by omega, fun _ => day1_read, fun _ z => absurd h3 z⟩
  obtain ⟨w, w1, w3, _⟩ := ev_wrF a c ca _ hsz hne hv
  constructor
  · intro h
    have := h.len hne w w1
    have := w3 h3
    omega
  · intro h
    refine ⟨(fun z => by rw [hne] at z; cases z), fun _ => hv, fun _ w' hw' => ?_, fun _ q1 q2 => ?_⟩
    · rw [Ev.uniq hw' w1]
      have := w3 h3
      omega
    · have hmb := mark_byte (hm q1)
      have : a.1.toNat.toUInt8 ∉ L (B day1) := fun z => by
        have := day_chars hsz hv h3 _ z
        rw [hmb.1] at this
        cases this
      rw [indexByte_none this]
      decide
theorem text_vf {a : Fmt} {c : Col} (ca : ColOk a.1 c) (h2 : c.2.1 ≠ 2) (h3 : c.2.1 ≠ 3) {l : List UInt8} (hl : l.length ≤ 1000) (h0 : 0 < l.length) (hp : plB l = true) :
    VF a c (B l) ↔ (l.length : Int) ≤ c.2.2.1 ∧ (a.1 ≠ 0 → a.2.1 = 0 → Lib.indexByte l a.1.toNat.toUInt8 < 0) := by
  have hne : eqS (B l) (bs []) = false := eqS_ne fun z => by
    have := congrArg ByteArray.size z
    rw [size_B] at this
    exact absurd this (by show ¬ l.length = 0; omega)
  have hsz : (B l).size ≤ 140737488351232 := by rw [size_B]; omega
  have hv : IsV c (B l) := ⟨fun z => absurd z h2, fun z => absurd z h3, fun _ _ => by rw [L_B]; exact hp⟩
  obtain ⟨w, w1, _, w0, _⟩ := ev_wrF a c ca _ hsz hne hv
  have hw := w0 h3 h2
  constructor
  · intro h
    have := h.len hne w w1
    rw [hw, size_B] at this
    refine ⟨this, fun q1 q2 => ?_⟩
    have := h.bar hne q1 q2
    rw [L_B] at this
    exact this
  · rintro ⟨q1, q2⟩
    refine ⟨(fun z => by rw [hne] at z; cases z), fun _ => hv, fun _ w' hw' => ?_, fun _ z1 z2 => ?_⟩
    · rw [Ev.uniq hw' w1, hw, size_B]
      exact q1
    · rw [L_B]
      exact q2 z1 z2
theorem enc_byte {n : Nat} (h : n < 128) : Utf8.encode (wi32 (n : Int)) = B [UInt8.ofNat n] := by
  rw [wi32_idF (by omega) (by omega), enc_one (by omega) (by omega), Int.toNat_natCast]
theorem ev_samT (a : Fmt) (c : Col) (h1 : c.2.1 = 1) (hw : 1 ≤ c.2.2.1 ∧ c.2.2.1 ≤ 100) : ∃ S : List ByteArray, S.length ≤ 100000 ∧ GoodS S ∧ (∀ n : Nat, 33 ≤ n → n ≤ 126 → B (List.replicate c.2.2.1.toNat (UInt8.ofNat n)) ∈ S) ∧
    (c.2.2.1 > 2 → B (97 :: (List.replicate (c.2.2.1.toNat - 2) 32 ++ [97])) ∈ S) ∧ Ev (fun k => interchangeref6_samples k a c) S := by
  have eW : c.2.2.1 = ((c.2.2.1.toNat : Nat) : Int) := by omega
  have key : ∀ (m n : Nat) (l : List ByteArray), 127 - n = m → 33 ≤ n → n ≤ 127 → l.length + m ≤ 1000 → GoodS l → ∃ S : List ByteArray, (∀ x ∈ l, x ∈ S) ∧ S.length ≤ 100000 ∧ GoodS S ∧ (∀ n', n ≤ n' → n' ≤ 126 → B (List.replicate c.2.2.1.toNat (UInt8.ofNat n')) ∈ S) ∧
      (c.2.2.1 > 2 → B (97 :: (List.replicate (c.2.2.1.toNat - 2) 32 ++ [97])) ∈ S) ∧ Ev (fun k => interchangeref6_samples_c7 k c l (n : Int)) S := by
    intro m
    induction m with
    | zero =>
      intro n l hm h33 h127 hl hg
      have en : n = 127 := by omega
      by_cases h2 : c.2.2.1 > 2
      · have e45 : (bs [97] ++ B (List.replicate (c.2.2.1.toNat - 2) 32)) ++ bs [97] = B (97 :: (List.replicate (c.2.2.1.toNat - 2) 32 ++ [97])) := by
          show (B [97] ++ B _) ++ B [97] = _
          rw [B_app, B_app]
          rfl
        have hsz : (B (97 :: (List.replicate (c.2.2.1.toNat - 2) 32 ++ [97]))).size = c.2.2.1.toNat := by
          rw [size_B, List.length_cons, List.length_append, List.length_replicate]
          simp
          omega
        refine ⟨l ++ [B (97 :: (List.replicate (c.2.2.1.toNat - 2) 32 ++ [97]))], fun x hx => List.mem_append_left _ hx, by rw [List.length_append]; simp; omega, good_snoc hg (by rw [hsz]; omega) (by rw [hsz]; omega), fun n' z1 z2 => absurd z2 (by omega), fun _ => List.mem_append_right _ (List.mem_singleton.2 rfl), .step (fun k => interchangeref6_samples_c7_eq k _ _ _) (.nk (by omega) (.ck h2 ?_))⟩
        have e : wi64 (c.2.2.1 - 2) = ((c.2.2.1.toNat - 2 : Nat) : Int) := by rw [wi64_id (by omega) (by omega)]; omega
        rw [e]
        have hr := ev_RepC 32 (c.2.2.1.toNat - 2) (by omega)
        have s97 : (bs [97]).size = 1 := rfl
        refine .bind hr (.ck (by rw [size_B, List.length_replicate]; omega) (.ck (by rw [ByteArray.size_append, size_B, List.length_replicate, s97]; omega) (.ck (by omega) (.step (fun k => interchangeref6_samples_c12_eq k _) (.to (.pure _) ?_)))))
        rw [e45]
      · exact ⟨l, fun x hx => hx, by omega, hg, fun n' z1 z2 => absurd z2 (by omega), fun z => absurd z h2, .step (fun k => interchangeref6_samples_c7_eq k _ _ _) (.nk (by omega) (.nk h2 (.step (fun k => interchangeref6_samples_c12_eq k _) (.pure _))))⟩
    | succ m ih =>
      intro n l hm h33 h127 hl hg
      have hsz : (B (List.replicate c.2.2.1.toNat (UInt8.ofNat n))).size = c.2.2.1.toNat := by rw [size_B, List.length_replicate]
      obtain ⟨S, q1, q2, q3, q4, q5, q6⟩ := ih (n + 1) (l ++ [B (List.replicate c.2.2.1.toNat (UInt8.ofNat n))]) (by omega) (by omega) (by omega) (by rw [List.length_append]; simp; omega) (good_snoc hg (by rw [hsz]; omega) (by rw [hsz]; omega))
      refine ⟨S, fun x hx => q1 x (List.mem_append_left _ hx), q2, q3, fun n' z1 z2 => ?_, q5, .step (fun k => interchangeref6_samples_c7_eq k _ _ _) (.ck (by omega) ?_)⟩
      · by_cases e : n' = n
        · rw [e]; exact q1 _ (List.mem_append_right _ (List.mem_singleton.2 rfl))
        · exact q4 n' (by omega) z2
      · have hr := ev_RepC (UInt8.ofNat n) c.2.2.1.toNat (by omega)
        rw [← eW] at hr
        rw [enc_byte (by omega)]
        have hw8 : wu8 ((n : Int) + 1) = ((n + 1 : Nat) : Int) := by rw [wu8_id (by omega) (by omega)]; rfl
        rw [hw8]
        exact .bind hr (.ck (by omega) q6)
  obtain ⟨S, _, q2, q3, q4, q5, q6⟩ := key _ 33 [] rfl (by decide) (by decide) (by decide) (fun v hv => by cases hv)
  exact ⟨S, q2, q3, q4, q5, .step (fun k => interchangeref6_samples_eq k _ _) (.ff (by rw [h1]; rfl) (.tt (by rw [h1]; rfl) q6))⟩
end Go.Proofs.YtpgbbmdfnmjjjaaGreatDoor.Eq
namespace Go.Proofs.YtpgbbmdfnmjjjaaGreatDoor.Eq
open Go Go.Ra
set_option linter.unusedVariables false
theorem ev_losesI (a b : Fmt) (c o : Col) : ∃ t : Bool, Ev (fun k => flat_loses k a b c o) t ∧ (t = false ↔ NoLoss a b c o) := by
  obtain ⟨t, t1, t2⟩ := ev_loses2 a b c o
  refine ⟨t, t1, t2, fun h => ?_⟩
  cases t with
  | false => rfl
  | true =>
    exfalso
    by_cases h2 : c.2.1 = 2
    · -- numbers: the search finds one
      have h1 : ∀ s : Shp, Ev (fun k => flat_losesNumber_1_r_r_r_r k s a c b o) (inS a.1 c s && !inS b.1 o s) := fun s => by
        refine .step (fun k => flat_losesNumber_1_r_r_r_r_eq k _ _ _ _ _) (.bind (ev_inS s a c) (.bind (.gd rfl fun _ => ev_inS s b o) (.to (.pure _) ?_)))
        cases inS a.1 c s <;> rfl
      have hnone : ixI (fun s => inS a.1 c s && !inS b.1 o s) shapesL < 0 := ixI_none.2 fun s hs => by
        cases hi : inS a.1 c s with
        | false => rfl
        | true => rw [h.num h2 s hs hi]; rfl
      have hlen := shapesL_len
      have hN : Ev (fun k => flat_losesNumber k a b c o) (decide (ixI (fun s => inS a.1 c s && !inS b.1 o s) shapesL ≥ 0)) := by
        refine .step (fun k => flat_losesNumber_eq k _ _ _ _) (.bind ev_shapesL (.ret (.step (fun k => slices_ContainsFunc_Lflat_shape_flat_shape_of_flat_losesNumber_1_eq k _ _) (.bind (x := ixI (fun s => inS a.1 c s && !inS b.1 o s) shapesL) (.step (fun k => slices_IndexFunc_Lflat_shape_flat_shape_of_flat_losesNumber_1_eq k _ _) ?_) (.pure _))) rfl))
        generalize shapesL = S at *
        refine ev_loop _ S (fun k i => slices_IndexFunc_Lflat_shape_flat_shape_of_flat_losesNumber_1_c2 k S (a, (c, (b, o))) (S.length : Int) i) (fun i hi y q1 q2 => ?_) (.step (fun k => slices_IndexFunc_Lflat_shape_flat_shape_of_flat_losesNumber_1_c2_eq k _ _ _ _) (.nk (by omega) (.pure _)))
        refine .step (fun k => slices_IndexFunc_Lflat_shape_flat_shape_of_flat_losesNumber_1_c2_eq k _ _ _ _) (.ck (by omega) (.ck (by omega) (.ck (by omega) ?_)))
        rw [getD_at hi, wj hi (by omega), shp_eta]
        exact .bind (h1 _) (.cond (fun z => .to (.pure _) (q1 z).symm) q2)
      rw [decide_eq_false (by omega)] at hN
      have := Ev.uniq t1 (.step (fun k => flat_loses_eq k _ _ _ _) (.tt (by simpa using h2) (.ret hN rfl)))
      cases this
    · have e2 : (c.2.1 == 2) = false := by simpa using h2
      by_cases h3 : c.2.1 = 3
      · have hD : Ev (fun k => flat_losesDay k c o) false := by
          refine .step (fun k => flat_losesDay_eq k _ _) (.bind (ev_formWidth _) (.bind (.gd rfl fun _ => ev_formWidth _) (.to (.pure _) ?_)))
          by_cases q : wOf c.2.2.2.2.1 ≤ c.2.2.1
          · rw [decide_eq_true q]
            have := h.day h3 q
            exact decide_eq_false (show ¬ (wOf o.2.2.2.2.1 > o.2.2.1) by omega)
          · rw [decide_eq_false q]; rfl
        have := Ev.uniq t1 (.step (fun k => flat_loses_eq k _ _ _ _) (.ff e2 (.tt (by simpa using h3) (.ret hD rfl))))
        cases this
      · have e3 : (c.2.1 == 3) = false := by simpa using h3
        obtain ⟨hw, hbar⟩ := h.txt h2 h3
        have hT : Ev (fun k => flat_losesText k a b c o) false := by
          refine .step (fun k => flat_losesText_eq k _ _ _ _) (.bind (ev_barred b) (.bind (.gd rfl fun _ => ev_barred a) (.to (.pure _) ?_)))
          rw [decide_eq_false (show ¬ (c.2.2.1 > o.2.2.1) by omega)]
          by_cases q0 : barI b = 0
          · have e : (barI b != 0) = false := by simpa using q0
            rw [e]; rfl
          · have e : (barI b != 0) = true := by simpa using q0
            rw [e]
            show cond (barI b != barI a) (cond (barI b != 32) true (decide (c.2.2.1 > 2))) false = false
            rcases hbar with z | z | ⟨z1, z2⟩
            · exact absurd z q0
            · have : (barI b != barI a) = false := by simpa using z
              rw [this]; rfl
            · have e32 : (barI b != 32) = false := by simpa using z1
              rw [e32, decide_eq_false (show ¬ (c.2.2.1 > 2) by omega)]
              cases (barI b != barI a) <;> rfl
        have := Ev.uniq t1 (.step (fun k => flat_loses_eq k _ _ _ _) (.ff e2 (.ff e3 (.ret hT rfl))))
        cases this
theorem mark_ok {a : Fmt} (h : FmtOk a) : a.1 ≠ 0 → markB a.1 = true := fun z => by
  have h1 := h.m12
  unfold mk12 at h1
  have z' : (a.1 != 0) = true := by simpa using z
  rw [z', Bool.true_and] at h1
  cases hq : markB a.1 with
  | true => rfl
  | false => rw [hq] at h1; simp at h1
theorem rep_plain {n W : Nat} (h1 : 33 ≤ n) (h2 : n ≤ 126) (hW : 0 < W) : plB (List.replicate W (UInt8.ofNat n)) = true := by
  have hb : prB (UInt8.ofNat n) = true ∧ (UInt8.ofNat n != 32) = true := by
    have : ∀ m : Fin 127, 33 ≤ m.val → prB (UInt8.ofNat m.val) = true ∧ (UInt8.ofNat m.val != 32) = true := by decide +kernel
    exact this ⟨n, by omega⟩ h1
  unfold plB
  rw [Bool.and_eq_true, Bool.and_eq_true]
  refine ⟨List.all_eq_true.2 fun x hx => ?_, ?_, ?_⟩
  · rw [List.eq_of_mem_replicate hx]; exact hb.1
  · rw [getD_nat (by rw [List.length_replicate]; omega), List.getElem_replicate]; exact hb.2
  · rw [getD_nat (by rw [List.length_replicate]; omega), List.getElem_replicate]; exact hb.2
theorem gap_plain (n : Nat) : plB (97 :: (List.replicate n 32 ++ [97])) = true := by
  unfold plB
  rw [Bool.and_eq_true, Bool.and_eq_true]
  refine ⟨List.all_eq_true.2 fun x hx => ?_, rfl, ?_⟩
  · rcases List.mem_cons.1 hx with rfl | hx
    · decide
    · rcases List.mem_append.1 hx with hx | hx
      · rw [List.eq_of_mem_replicate hx]; decide
      · rw [List.mem_singleton.1 hx]; decide
  · have e : (97 :: (List.replicate n 32 ++ [97]) : List UInt8).getD ((97 :: (List.replicate n 32 ++ [97]) : List UInt8).length - 1) 0 = 97 := by
      simp [List.getD_eq_getElem?_getD]
    rw [e]
    decide
theorem idx_mem {l : List UInt8} {x : UInt8} (h : x ∈ l) : ¬ Lib.indexByte l x < 0 := by
  induction l with
  | nil => cases h
  | cons b t ih =>
    unfold Lib.indexByte
    by_cases hb : b = x
    · simp [hb]
    · have hx : x ∈ t := by
        rcases List.mem_cons.1 h with q | q
        · exact absurd q.symm hb
        · exact q
      have := ih hx
      have hge := Lib.indexByte_ge t x
      simp [hb]
      split <;> omega
theorem ev_lessB (a b : Fmt) (c o : Col) (oa : FmtOk a) (ob : FmtOk b) (ca : ColOk a.1 c) (cb : ColOk b.1 o) (ty : o.2.1 = c.2.1) : ∃ t : Bool, Ev (fun k => interchangeref6_isLess k a b c o) t ∧ Ev (fun k => flat_loses k a b c o) t := by
  obtain ⟨t2, l1, l2⟩ := ev_losesI a b c o
  have ma := mark_ok oa
  have mb := mark_ok ob
  have hw1 := ca.w1
  have hw2 := ca.w2
  have fin : ∀ S : List ByteArray, S.length ≤ 100000 → GoodS S → Ev (fun k => interchangeref6_samples k a c) S → ((∀ v ∈ S, VF a c v → VF b o v) → NoLoss a b c o) → ∃ t : Bool, Ev (fun k => interchangeref6_isLess k a b c o) t ∧ Ev (fun k => flat_loses k a b c o) t := by
    intro S hS hg hs himp
    obtain ⟨t1, r1, r2⟩ := ev_isLess a b c o ca cb S (by omega) hg hs
    have e : t1 = t2 := by
      cases h1 : t1 with
      | false => exact (l2.2 (himp (r2.1 h1))).symm
      | true =>
        cases h2 : t2 with
        | true => rfl
        | false =>
          have := r2.2 fun v hv hvf => vf_turn ca cb ty (l2.1 h2) mb (hg v hv).1 (hg v hv).2 hvf
          rw [h1] at this
          cases this
    exact ⟨t1, r1, by rw [e]; exact l1⟩
  rcases ca.ty with t1 | t2' | t3
  · -- texts
    obtain ⟨S, q1, q2, q3, q4, q5⟩ := ev_samT a c t1 ⟨hw1, hw2⟩
    refine fin S q1 q2 q5 fun himp => ⟨fun z => by omega, fun z => by omega, fun n2 n3 => ?_⟩
    have n2' : o.2.1 ≠ 2 := by rw [ty]; exact n2
    have n3' : o.2.1 ≠ 3 := by rw [ty]; exact n3
    have rep : ∀ n : Nat, 33 ≤ n → n ≤ 126 → (a.1 ≠ 0 → a.2.1 = 0 → a.1 ≠ (n : Int)) → VF b o (B (List.replicate c.2.2.1.toNat (UInt8.ofNat n))) := fun n g1 g2 g3 => by
      refine himp _ (q3 n g1 g2) ((text_vf ca n2 n3 (by rw [List.length_replicate]; omega) (by rw [List.length_replicate]; omega) (rep_plain g1 g2 (by omega))).2 ⟨by rw [List.length_replicate]; omega, fun z1 z2 => ?_⟩)
      have hml := mark_lt (ma z1)
      have : a.1.toNat.toUInt8 ∉ List.replicate c.2.2.1.toNat (UInt8.ofNat n) := fun z => by
        have z3 := List.eq_of_mem_replicate z
        have z4 := congrArg UInt8.toNat z3
        have z5 : a.1.toNat.toUInt8.toNat = a.1.toNat := by
          show (UInt8.ofNat a.1.toNat).toNat = _
          rw [UInt8.toNat_ofNat']
          omega
        rw [z5, UInt8.toNat_ofNat'] at z4
        exact g3 z1 z2 (by omega)
      rw [indexByte_none this]
      decide
    have len : ∀ n : Nat, 33 ≤ n → n ≤ 126 → (a.1 ≠ 0 → a.2.1 = 0 → a.1 ≠ (n : Int)) → c.2.2.1 ≤ o.2.2.1 ∧ (b.1 ≠ 0 → b.2.1 = 0 → Lib.indexByte (List.replicate c.2.2.1.toNat (UInt8.ofNat n)) b.1.toNat.toUInt8 < 0) := fun n g1 g2 g3 => by
      have := (text_vf cb n2' n3' (by rw [List.length_replicate]; omega) (by rw [List.length_replicate]; omega) (rep_plain g1 g2 (by omega))).1 (rep n g1 g2 g3)
      rw [List.length_replicate] at this
      exact ⟨by omega, this.2⟩
    refine ⟨(len 97 (by decide) (by decide) fun z1 _ z3 => ?_).1, ?_⟩
    · have := ma z1
      rw [z3] at this
      exact absurd this (by decide)
    · by_cases hb0 : barI b = 0
      · exact .inl hb0
      by_cases hba : barI b = barI a
      · exact .inr (.inl hba)
      have hb2 : b.2.1 = 0 := by
        by_cases z : b.2.1 = 0
        · exact z
        · have : (b.2.1 != 0) = true := by simpa using z
          unfold barI at hb0
          rw [this] at hb0
          exact absurd rfl hb0
      have hbb : barI b = b.1 := by unfold barI; rw [hb2]; rfl
      rw [hbb] at hb0 hba ⊢
      have hml := mark_lt (mb hb0)
      have hab : a.1 ≠ 0 → a.2.1 = 0 → barI a = a.1 := fun _ z => by unfold barI; rw [z]; rfl
      have eN : ((b.1.toNat : Nat) : Int) = b.1 := Int.toNat_of_nonneg (by omega)
      by_cases h32 : b.1 = 32
      · refine .inr (.inr ⟨h32, ?_⟩)
        rcases Int.lt_or_le 2 c.2.2.1 with hgt | hle
        · exfalso
          have hlen : (97 :: (List.replicate (c.2.2.1.toNat - 2) 32 ++ [97]) : List UInt8).length = c.2.2.1.toNat := by
            rw [List.length_cons, List.length_append, List.length_replicate]
            simp
            omega
          have hva : VF a c (B (97 :: (List.replicate (c.2.2.1.toNat - 2) 32 ++ [97]))) := by
            refine (text_vf ca n2 n3 (by rw [hlen]; omega) (by rw [hlen]; omega) (gap_plain _)).2 ⟨by rw [hlen]; omega, fun z1 z2 => ?_⟩
            have hml2 := mark_lt (ma z1)
            have hmb := mark_byte (ma z1)
            have : a.1.toNat.toUInt8 ∉ (97 :: (List.replicate (c.2.2.1.toNat - 2) 32 ++ [97]) : List UInt8) := fun z => by
              have z5 : a.1.toNat.toUInt8.toNat = a.1.toNat := by
                show (UInt8.ofNat a.1.toNat).toNat = _
                rw [UInt8.toNat_ofNat']
                omega
              have h97 : a.1 ≠ 97 := fun q => by
                have := ma z1
                rw [q] at this
                exact absurd this (by decide)
              have h32' : a.1 ≠ 32 := fun q => hba (by rw [hab z1 z2, q, h32])
              have cases3 : a.1.toNat.toUInt8 = 97 ∨ a.1.toNat.toUInt8 = 32 := by
                rcases List.mem_cons.1 z with z | z
                · exact .inl z
                · rcases List.mem_append.1 z with z | z
                  · exact .inr (List.eq_of_mem_replicate z)
                  · exact .inl (List.mem_singleton.1 z)
              rcases cases3 with q | q
              · have := congrArg UInt8.toNat q
                rw [z5] at this
                have e : (97 : UInt8).toNat = 97 := rfl
                omega
              · have := congrArg UInt8.toNat q
                rw [z5] at this
                have e : (32 : UInt8).toNat = 32 := rfl
                omega
            rw [indexByte_none this]
            decide
          have hvb := himp _ (q4 hgt) hva
          have := ((text_vf cb n2' n3' (by rw [hlen]; omega) (by rw [hlen]; omega) (gap_plain _)).1 hvb).2 hb0 hb2
          rw [h32] at this
          refine idx_mem (l := 97 :: (List.replicate (c.2.2.1.toNat - 2) 32 ++ [97])) (x := (32 : Int).toNat.toUInt8) ?_ this
          refine List.mem_cons_of_mem _ (List.mem_append_left _ (List.mem_replicate.2 ⟨by omega, rfl⟩))
        · exact hle
      · exfalso
        have := (len b.1.toNat (by omega) (by omega) fun z1 z2 z3 => hba (by rw [hab z1 z2, z3, eN])).2 hb0 hb2
        refine idx_mem (List.mem_replicate.2 ⟨by omega, rfl⟩) this
  · -- numbers
    have hp := ca.pl t2'
    obtain ⟨S, q1, q2, q3, q4⟩ := ev_samN a c t2' hp
    refine fin S q1 q2 q4 fun himp => ⟨fun _ s hs hin => ?_, fun z => by omega, fun z => absurd t2' z⟩
    obtain ⟨p, dg, u, hp9, d1, d16, hsp, hu, hok, hnorm, hshape⟩ := shp_sample hs
    obtain ⟨n1, n2⟩ := norm_self (d := (u, (p : Int))) hnorm
    have hle : (p : Int) ≤ c.2.2.2.1 := by
      unfold inS at hin
      by_cases q : s.2.2.1 ≤ c.2.2.2.1
      · omega
      · rw [decide_eq_false q] at hin
        cases hin
    have hmem := q3 p hle dg d1 d16 u hu hok _ n1
    exact (samp_vf cb (by rw [ty]; exact t2') mb hok n2 hshape).1 (himp _ hmem ((samp_vf ca t2' ma hok n2 hshape).2 hin))
  · -- days
    have hs : Ev (fun k => interchangeref6_samples k a c) [B day1] := .step (fun k => interchangeref6_samples_eq k _ _) (.tt (by rw [t3]; rfl) (.pure _))
    refine fin [B day1] (by decide) (fun v hv => by rw [List.mem_singleton.1 hv]; exact ⟨by decide, by decide +kernel⟩) hs fun himp => ⟨fun z => by omega, fun _ z => ?_, fun _ z => absurd t3 z⟩
    exact (day1_vf cb (by rw [ty]; exact t3) mb).1 (himp _ (List.mem_singleton.2 rfl) ((day1_vf ca t3 ma).2 z))
end Go.Proofs.YtpgbbmdfnmjjjaaGreatDoor.Eq
namespace Go.Proofs.YtpgbbmdfnmjjjaaGreatDoor.Eq
open Go Go.Ra
set_option linter.unusedVariables false
theorem ev_f22B (a b : Fmt) (ha : FitF a) (hb : FitF b) (hlen : ∀ o ∈ b.2.2.1, o.2.1.length ≤ 50) : ∀ (m i : Nat) (l : List Los), b.2.2.1.length - i = m → l.length + 100 * m ≤ 100000 →
    ∃ y : List Los × Int, Ev (fun k => interchangeref6_Fits_c34 k a l b.2.2.1 (b.2.2.1.length : Int) (i : Int)) y ∧ Ev (fun k => flat_Fits_c22 k a l b.2.2.1 (b.2.2.1.length : Int) (i : Int)) y ∧ y.1.length ≤ 100000 := by
  intro m
  induction m with
  | zero =>
    intro i l hm hl
    exact ⟨(l, 0), .step (fun k => interchangeref6_Fits_c34_eq k _ _ _ _ _) (.nk (by omega) (.pure _)), .step (fun k => flat_Fits_c22_eq k _ _ _ _ _) (.nk (by omega) (.pure _)), by simp only; omega⟩
  | succ m ih =>
    intro i l hm hl
    have hi : i < b.2.2.1.length := by omega
    have hmem := List.getElem_mem hi
    have hoc := hb.c _ hmem
    have h50 := hlen _ hmem
    have inner : ∀ (p j : Nat) (l : List Los), (b.2.2.1[i]).2.1.length - j = p → l.length + p + 100 * m ≤ 100000 →
        ∃ y : List Los × Int, Ev (fun k => interchangeref6_Fits_c38 k a l b.2.2.1[i] (kOf a.2.2.1 (b.2.2.1[i]).1) b.2.2.1 (b.2.2.1.length : Int) (i : Int) (b.2.2.1[i]).2.1 ((b.2.2.1[i]).2.1.length : Int) (j : Int)) y ∧
          Ev (fun k => flat_Fits_c26 k a l b.2.2.1[i] (kAt a.2.2.1 (b.2.2.1[i]).1).1 (kAt a.2.2.1 (b.2.2.1[i]).1).2 b.2.2.1 (b.2.2.1.length : Int) (i : Int) (b.2.2.1[i]).2.1 ((b.2.2.1[i]).2.1.length : Int) (j : Int)) y ∧ y.1.length ≤ 100000 := by
      intro p
      induction p with
      | zero =>
        intro j l hp hl
        obtain ⟨y, y1, y2, y3⟩ := ih (i + 1) l (by omega) (by omega)
        refine ⟨y, .step (fun k => interchangeref6_Fits_c38_eq k _ _ _ _ _ _ _ _ _ _) (.nk (by omega) ?_), .step (fun k => flat_Fits_c26_eq k _ _ _ _ _ _ _ _ _ _ _) (.nk (by omega) ?_), y3⟩
        · rw [wj hi hb.n]; exact y1
        · rw [wj hi hb.n]; exact y2
      | succ p ihp =>
        intro j l hp hl
        have hj : j < (b.2.2.1[i]).2.1.length := by omega
        by_cases h0 : kOf a.2.2.1 (b.2.2.1[i]).1 < 0
        · obtain ⟨y, y1, y2, y3⟩ := ihp (j + 1) l (by omega) (by omega)
          have e0 : decide (kOf a.2.2.1 (b.2.2.1[i]).1 ≥ 0) = false := decide_eq_false (by omega)
          refine ⟨y, .step (fun k => interchangeref6_Fits_c38_eq k _ _ _ _ _ _ _ _ _ _) (.ck (by omega) (.ck (by omega) (.ck (by omega) ?_))), .step (fun k => flat_Fits_c26_eq k _ _ _ _ _ _ _ _ _ _ _) (.ck (by omega) (.ck (by omega) (.ck (by omega) ?_))), y3⟩
          · rw [e0, wj hj hoc]
            exact .tt rfl (.tt rfl (.bind (x := 0) (.ff rfl (.pure _)) (.ff rfl y1)))
          · rw [kAt_no h0] at y2 ⊢
            rw [wj hj hoc]
            exact .bind (x := 0) (.ff rfl (.pure _)) (.ff rfl y2)
        · obtain ⟨q, hq, hkq, _⟩ := ixI_get (show 0 ≤ ixI (tagP (b.2.2.1[i]).1) a.2.2.1 from Int.not_lt.1 h0)
          have hkq' : kOf a.2.2.1 (b.2.2.1[i]).1 = (q : Int) := hkq
          have hac := ha.c _ (List.getElem_mem hq)
          have e0 : decide (((q : Nat) : Int) ≥ 0) = true := decide_eq_true (by omega)
          rw [hkq', kAt_at hq hkq'] at ihp ⊢
          cases hnd : ((b.2.2.1[i]).2.1[j]).2.2.2.2.2.2.2 with
          | false =>
            obtain ⟨y, y1, y2, y3⟩ := ihp (j + 1) l (by omega) (by omega)
            refine ⟨y, .step (fun k => interchangeref6_Fits_c38_eq k _ _ _ _ _ _ _ _ _ _) (.ck (by omega) (.ck (by omega) (.ck (by omega) ?_))), .step (fun k => flat_Fits_c26_eq k _ _ _ _ _ _ _ _ _ _ _) (.ck (by omega) (.ck (by omega) (.ck (by omega) ?_))), y3⟩
            · rw [e0, getD_at hj, hnd, wj hj hoc]
              exact .tt rfl (.tt rfl (.bind (x := 0) (.ff rfl (.pure _)) (.ff rfl y1)))
            · rw [getD_at hj, hnd, wj hj hoc]
              exact .bind (x := 0) (.ff rfl (.pure _)) (.ff rfl y2)
          | true =>
            by_cases hc : cOf (a.2.2.1[q]).2.1 ((b.2.2.1[i]).2.1[j]).1 < 0
            · obtain ⟨y, y1, y2, y3⟩ := ihp (j + 1) (l ++ [((b.2.2.1[i]).1, (((b.2.2.1[i]).2.1[j]).1, 4))]) (by omega) (by rw [List.length_append]; simp; omega)
              refine ⟨y, .step (fun k => interchangeref6_Fits_c38_eq k _ _ _ _ _ _ _ _ _ _) (.ck (by omega) (.ck (by omega) (.ck (by omega) ?_))), .step (fun k => flat_Fits_c26_eq k _ _ _ _ _ _ _ _ _ _ _) (.ck (by omega) (.ck (by omega) (.ck (by omega) ?_))), y3⟩
              · rw [e0, getD_at hj, hnd, getD_at hq, wj hj hoc]
                exact .tt (by simp) (.tt (by simp; omega) (.bind (.tt rfl (ev_rcolumnOf (a.2.2.1[q]) _ hac)) (.tt (by rw [decide_eq_true hc]; rfl) (.ck (by omega) y1))))
              · rw [getD_at hj, hnd, wj hj hoc]
                exact .bind (.tt rfl (ev_columnAt _ _ hac)) (.tt (by rw [decide_eq_true hc]; rfl) (.ck (by omega) y2))
            · obtain ⟨y, y1, y2, y3⟩ := ihp (j + 1) l (by omega) (by omega)
              refine ⟨y, .step (fun k => interchangeref6_Fits_c38_eq k _ _ _ _ _ _ _ _ _ _) (.ck (by omega) (.ck (by omega) (.ck (by omega) ?_))), .step (fun k => flat_Fits_c26_eq k _ _ _ _ _ _ _ _ _ _ _) (.ck (by omega) (.ck (by omega) (.ck (by omega) ?_))), y3⟩
              · rw [e0, getD_at hj, hnd, getD_at hq, wj hj hoc]
                exact .tt (by simp) (.tt (by simp; omega) (.bind (.tt rfl (ev_rcolumnOf (a.2.2.1[q]) _ hac)) (.ff (by rw [decide_eq_false hc]; rfl) y1)))
              · rw [getD_at hj, hnd, wj hj hoc]
                exact .bind (.tt rfl (ev_columnAt _ _ hac)) (.ff (by rw [decide_eq_false hc]; rfl) y2)
    obtain ⟨y, y1, y2, y3⟩ := inner _ 0 l rfl (by omega)
    refine ⟨y, .step (fun k => interchangeref6_Fits_c34_eq k _ _ _ _ _) (.ck (by omega) (.ck (by omega) (.ck (by omega) ?_))), .step (fun k => flat_Fits_c22_eq k _ _ _ _ _) (.ck (by omega) (.ck (by omega) (.ck (by omega) ?_))), y3⟩
    · rw [getD_at hi]
      exact .bind (ev_rkindOf a _ ha.n) y1
    · rw [getD_at hi]
      exact .bind (ev_kindAt a _ ha.n) y2
theorem ev_f10B (a b : Fmt) (ha : FitF a) (hb : FitF b) (oa : FmtOk a) (ob : FmtOk b) (hb30 : b.2.2.1.length ≤ 30) : ∀ (m i : Nat) (l : List Los), a.2.2.1.length - i = m → l.length + 200 * m ≤ 50000 →
    ∃ y : List Los × Int, Ev (fun k => interchangeref6_Fits_c9 k a b l a.2.2.1 (a.2.2.1.length : Int) (i : Int)) y ∧ Ev (fun k => flat_Fits_c10 k a b l a.2.2.1 (a.2.2.1.length : Int) (i : Int)) y ∧ y.1.length ≤ 100000 := by
  intro m
  induction m with
  | zero =>
    intro i l hm hl
    obtain ⟨y, y1, y2, y3⟩ := ev_f22B a b ha hb ob.len _ 0 l rfl (by omega)
    exact ⟨y, .step (fun k => interchangeref6_Fits_c9_eq k _ _ _ _ _ _) (.nk (by omega) y1), .step (fun k => flat_Fits_c10_eq k _ _ _ _ _ _) (.nk (by omega) y2), y3⟩
  | succ m ih =>
    intro i l hm hl
    have hi : i < a.2.2.1.length := by omega
    have hmem := List.getElem_mem hi
    have hac := ha.c _ hmem
    have h50 := oa.len _ hmem
    by_cases h0 : kOf b.2.2.1 (a.2.2.1[i]).1 < 0
    · obtain ⟨y, y1, y2, y3⟩ := ih (i + 1) (l ++ [((a.2.2.1[i]).1, ((bs []), 1))]) (by omega) (by rw [List.length_append]; simp; omega)
      refine ⟨y, .step (fun k => interchangeref6_Fits_c9_eq k _ _ _ _ _ _) (.ck (by omega) (.ck (by omega) (.ck (by omega) ?_))), .step (fun k => flat_Fits_c10_eq k _ _ _ _ _ _) (.ck (by omega) (.ck (by omega) (.ck (by omega) ?_))), y3⟩
      · rw [getD_at hi, wj hi ha.n]
        exact .bind (ev_rkindOf b _ hb.n) (.ck h0 (.ck (by omega) y1))
      · rw [getD_at hi, wj hi ha.n]
        refine .bind (ev_kindAt b _ hb.n) ?_
        rw [kAt_no h0]
        exact .tt rfl (.ck (by omega) y2)
    · obtain ⟨q, hq, hkq, _⟩ := ixI_get (show 0 ≤ ixI (tagP (a.2.2.1[i]).1) b.2.2.1 from Int.not_lt.1 h0)
      have hkq' : kOf b.2.2.1 (a.2.2.1[i]).1 = (q : Int) := hkq
      have hqm := List.getElem_mem hq
      have hbc := hb.c _ hqm
      have hR : Ev (fun k => interchangeref6_kindOf k b (a.2.2.1[i]).1) (q : Int) := (ev_rkindOf b _ hb.n).to hkq'
      have hA : Ev (fun k => flat_kindAt k b (a.2.2.1[i]).1) (b.2.2.1[q], true) := (ev_kindAt b _ hb.n).to (kAt_at hq hkq')
      have inner : ∀ (p j : Nat) (l : List Los), (a.2.2.1[i]).2.1.length - j = p → l.length + 2 * p + 200 * m ≤ 50000 →
          ∃ y : List Los × Int, Ev (fun k => interchangeref6_Fits_c15 k a b l a.2.2.1[i] (q : Int) a.2.2.1 (a.2.2.1.length : Int) (i : Int) (a.2.2.1[i]).2.1 ((a.2.2.1[i]).2.1.length : Int) (j : Int)) y ∧
            Ev (fun k => flat_Fits_c16 k a b l a.2.2.1[i] b.2.2.1[q] a.2.2.1 (a.2.2.1.length : Int) (i : Int) (a.2.2.1[i]).2.1 ((a.2.2.1[i]).2.1.length : Int) (j : Int)) y ∧ y.1.length ≤ 100000 := by
        intro p
        induction p with
        | zero =>
          intro j l hp hl
          obtain ⟨y, y1, y2, y3⟩ := ih (i + 1) l (by omega) (by omega)
          refine ⟨y, .step (fun k => interchangeref6_Fits_c15_eq k _ _ _ _ _ _ _ _ _ _ _) (.nk (by omega) ?_), .step (fun k => flat_Fits_c16_eq k _ _ _ _ _ _ _ _ _ _ _) (.nk (by omega) ?_), y3⟩
          · rw [wj hi ha.n]; exact y1
          · rw [wj hi ha.n]; exact y2
        | succ p ihp =>
          intro j l hp hl
          have hj : j < (a.2.2.1[i]).2.1.length := by omega
          have hcR := ev_rcolumnOf (b.2.2.1[q]) ((a.2.2.1[i]).2.1[j]).1 hbc
          have hcA := ev_columnAt (b.2.2.1[q]) ((a.2.2.1[i]).2.1[j]).1 hbc
          -- the package's step, for the list that is told
          have pstep : ∀ (ls : List Los) (y : List Los × Int), ls.length ≤ 2 → Ev (fun k => flat_lossesOf k a b (a.2.2.1[i]).1 ((a.2.2.1[i]).2.1[j]) b.2.2.1[q]) ls → Ev (fun k => flat_Fits_c16 k a b (l ++ ls) a.2.2.1[i] b.2.2.1[q] a.2.2.1 (a.2.2.1.length : Int) (i : Int) (a.2.2.1[i]).2.1 ((a.2.2.1[i]).2.1.length : Int) ((j + 1 : Nat) : Int)) y →
              Ev (fun k => flat_Fits_c16 k a b l a.2.2.1[i] b.2.2.1[q] a.2.2.1 (a.2.2.1.length : Int) (i : Int) (a.2.2.1[i]).2.1 ((a.2.2.1[i]).2.1.length : Int) (j : Int)) y := fun ls y g0 g1 g2 => by
            refine .step (fun k => flat_Fits_c16_eq k _ _ _ _ _ _ _ _ _ _ _) (.ck (by omega) (.ck (by omega) (.ck (by omega) ?_)))
            rw [getD_at hj, wj hj hac, col_eta]
            exact .bind g1 (.ck (by omega) g2)
          -- the reference's way on
          have r31 : ∀ (l' : List Los) (y : List Los × Int), Ev (fun k => interchangeref6_Fits_c15 k a b l' a.2.2.1[i] (q : Int) a.2.2.1 (a.2.2.1.length : Int) (i : Int) (a.2.2.1[i]).2.1 ((a.2.2.1[i]).2.1.length : Int) ((j + 1 : Nat) : Int)) y →
              Ev (fun k => interchangeref6_Fits_c31 k a b l' a.2.2.1[i] (q : Int) a.2.2.1 (a.2.2.1.length : Int) (i : Int) (a.2.2.1[i]).2.1 ((a.2.2.1[i]).2.1.length : Int) (j : Int)) y := fun l' y g => by
            refine .step (fun k => interchangeref6_Fits_c31_eq k _ _ _ _ _ _ _ _ _ _ _) ?_
            rw [wj hj hac]
            exact g
          by_cases hc : cOf (b.2.2.1[q]).2.1 ((a.2.2.1[i]).2.1[j]).1 < 0
          · obtain ⟨y, y1, y2, y3⟩ := ihp (j + 1) (l ++ [((a.2.2.1[i]).1, (((a.2.2.1[i]).2.1[j]).1, 2))]) (by omega) (by rw [List.length_append]; simp; omega)
            refine ⟨y, .step (fun k => interchangeref6_Fits_c15_eq k _ _ _ _ _ _ _ _ _ _ _) (.ck (by omega) (.ck (by omega) (.ck (by omega) (.ck (by omega) (.ck (by omega) ?_))))), pstep [((a.2.2.1[i]).1, (((a.2.2.1[i]).2.1[j]).1, 2))] y (Nat.le_succ 1) (.step (fun k => flat_lossesOf_eq k _ _ _ _ _) (.bind hcA (.ck hc (.pure _)))) y2, y3⟩
            rw [getD_at hq, getD_at hj]
            exact .bind hcR (.ck hc (.ck (by omega) (r31 _ y y1)))
          · obtain ⟨z, hz, hcz, _⟩ := ixI_get (show 0 ≤ ixI (colP ((a.2.2.1[i]).2.1[j]).1) (b.2.2.1[q]).2.1 from Int.not_lt.1 hc)
            have hcz' : cOf (b.2.2.1[q]).2.1 ((a.2.2.1[i]).2.1[j]).1 = (z : Int) := hcz
            cases ht : (((b.2.2.1[q]).2.1[z]).2.1 != ((a.2.2.1[i]).2.1[j]).2.1) with
            | true =>
              obtain ⟨y, y1, y2, y3⟩ := ihp (j + 1) (l ++ [((a.2.2.1[i]).1, (((a.2.2.1[i]).2.1[j]).1, 3))]) (by omega) (by rw [List.length_append]; simp; omega)
              refine ⟨y, .step (fun k => interchangeref6_Fits_c15_eq k _ _ _ _ _ _ _ _ _ _ _) (.ck (by omega) (.ck (by omega) (.ck (by omega) (.ck (by omega) (.ck (by omega) ?_))))), pstep [((a.2.2.1[i]).1, (((a.2.2.1[i]).2.1[j]).1, 3))] y (Nat.le_succ 1) (.step (fun k => flat_lossesOf_eq k _ _ _ _ _) (.bind (hcA.to hcz') (.nk (by omega) (.ck (by omega) (.ck (by omega) ?_))))) y2, y3⟩
              · rw [getD_at hq, getD_at hj]
                refine .bind (hcR.to hcz') (.nk (by omega) (.ck (by omega) (.ck (by omega) (.ck (by omega) (.ck (by omega) ?_)))))
                rw [getD_at hz]
                exact .tt ht (.ck (by omega) (r31 _ y y1))
              · rw [getD_at hz]
                exact .tt ht (.pure _)
            | false =>
              have ht' : ((b.2.2.1[q]).2.1[z]).2.1 = ((a.2.2.1[i]).2.1[j]).2.1 := by simpa using ht
              obtain ⟨t, s1, s2⟩ := ev_lessB a b ((a.2.2.1[i]).2.1[j]) ((b.2.2.1[q]).2.1[z]) oa ob (oa.col _ hmem _ (List.getElem_mem hj)) (ob.col _ hqm _ (List.getElem_mem hz)) ht'
              have r28 : ∀ (l' : List Los) (w : Los) (y : List Los × Int), l'.length ≤ 50000 → Ev (fun k => interchangeref6_Fits_c15 k a b (l' ++ cond t [(w.1, (w.2.1, 5))] []) a.2.2.1[i] (q : Int) a.2.2.1 (a.2.2.1.length : Int) (i : Int) (a.2.2.1[i]).2.1 ((a.2.2.1[i]).2.1.length : Int) ((j + 1 : Nat) : Int)) y →
                  Ev (fun k => interchangeref6_Fits_c28 k a b l' a.2.2.1[i] (q : Int) ((a.2.2.1[i]).2.1[j]) w ((b.2.2.1[q]).2.1[z]) a.2.2.1 (a.2.2.1.length : Int) (i : Int) (a.2.2.1[i]).2.1 ((a.2.2.1[i]).2.1.length : Int) (j : Int)) y := fun l' w y g0 g => by
                refine .step (fun k => interchangeref6_Fits_c28_eq k _ _ _ _ _ _ _ _ _ _ _ _ _ _) (.bind s1 ?_)
                cases t with
                | true => exact .tt rfl (.ck (by omega) (r31 _ y g))
                | false =>
                  rw [show l' ++ cond false [(w.1, (w.2.1, 5))] [] = l' from List.append_nil _] at g
                  exact .ff rfl (r31 _ y g)
              cases hn : (cond ((b.2.2.1[q]).2.1[z]).2.2.2.2.2.2.2 (!((a.2.2.1[i]).2.1[j]).2.2.2.2.2.2.2) false) with
              | true =>
                obtain ⟨y, y1, y2, y3⟩ := ihp (j + 1) ((l ++ [((a.2.2.1[i]).1, (((a.2.2.1[i]).2.1[j]).1, 4))]) ++ cond t [((a.2.2.1[i]).1, (((a.2.2.1[i]).2.1[j]).1, 5))] []) (by omega) (by rw [List.length_append, List.length_append]; cases t <;> simp <;> omega)
                refine ⟨y, .step (fun k => interchangeref6_Fits_c15_eq k _ _ _ _ _ _ _ _ _ _ _) (.ck (by omega) (.ck (by omega) (.ck (by omega) (.ck (by omega) (.ck (by omega) ?_))))), pstep (cond t [((a.2.2.1[i]).1, (((a.2.2.1[i]).2.1[j]).1, 4)), ((a.2.2.1[i]).1, (((a.2.2.1[i]).2.1[j]).1, 5))] [((a.2.2.1[i]).1, (((a.2.2.1[i]).2.1[j]).1, 4))]) y (by cases t <;> simp) (.step (fun k => flat_lossesOf_eq k _ _ _ _ _) (.bind (hcA.to hcz') (.nk (by omega) (.ck (by omega) (.ck (by omega) ?_))))) ?_, y3⟩
                · rw [getD_at hq, getD_at hj]
                  refine .bind (hcR.to hcz') (.nk (by omega) (.ck (by omega) (.ck (by omega) (.ck (by omega) (.ck (by omega) ?_)))))
                  rw [getD_at hz]
                  exact .ff ht (.tt hn (.ck (by omega) (r28 _ ((a.2.2.1[i]).1, (((a.2.2.1[i]).2.1[j]).1, 4)) y (by rw [List.length_append]; simp; omega) y1)))
                · rw [getD_at hz, col_eta]
                  exact .ff ht (.tt hn (.bind s2 (.sel rfl (fun _ => .pure _) fun _ => .pure _)))
                · have e : l ++ cond t [((a.2.2.1[i]).1, (((a.2.2.1[i]).2.1[j]).1, 4)), ((a.2.2.1[i]).1, (((a.2.2.1[i]).2.1[j]).1, 5))] [((a.2.2.1[i]).1, (((a.2.2.1[i]).2.1[j]).1, 4))] = (l ++ [((a.2.2.1[i]).1, (((a.2.2.1[i]).2.1[j]).1, 4))]) ++ cond t [((a.2.2.1[i]).1, (((a.2.2.1[i]).2.1[j]).1, 5))] [] := by
                    cases t <;> simp
                  rw [e]
                  exact y2
              | false =>
                obtain ⟨y, y1, y2, y3⟩ := ihp (j + 1) (l ++ cond t [((a.2.2.1[i]).1, (((a.2.2.1[i]).2.1[j]).1, 5))] []) (by omega) (by rw [List.length_append]; cases t <;> simp <;> omega)
                refine ⟨y, .step (fun k => interchangeref6_Fits_c15_eq k _ _ _ _ _ _ _ _ _ _ _) (.ck (by omega) (.ck (by omega) (.ck (by omega) (.ck (by omega) (.ck (by omega) ?_))))), pstep (cond t [((a.2.2.1[i]).1, (((a.2.2.1[i]).2.1[j]).1, 5))] []) y (by cases t <;> simp) (.step (fun k => flat_lossesOf_eq k _ _ _ _ _) (.bind (hcA.to hcz') (.nk (by omega) (.ck (by omega) (.ck (by omega) ?_))))) y2, y3⟩
                · rw [getD_at hq, getD_at hj]
                  refine .bind (hcR.to hcz') (.nk (by omega) (.ck (by omega) (.ck (by omega) (.ck (by omega) (.ck (by omega) ?_)))))
                  rw [getD_at hz]
                  exact .ff ht (.ff hn (r28 _ ((a.2.2.1[i]).1, (((a.2.2.1[i]).2.1[j]).1, 2)) y (by omega) y1))
                · rw [getD_at hz, col_eta]
                  exact .ff ht (.ff hn (.bind s2 (.sel rfl (fun _ => .pure _) fun _ => .pure _)))
      obtain ⟨y, y1, y2, y3⟩ := inner _ 0 l rfl (by omega)
      refine ⟨y, .step (fun k => interchangeref6_Fits_c9_eq k _ _ _ _ _ _) (.ck (by omega) (.ck (by omega) (.ck (by omega) ?_))), .step (fun k => flat_Fits_c10_eq k _ _ _ _ _ _) (.ck (by omega) (.ck (by omega) (.ck (by omega) ?_))), y3⟩
      · rw [getD_at hi]
        exact .bind hR (.nk (by omega) y1)
      · rw [getD_at hi]
        exact .bind hA (.ff rfl y2)
theorem ev_FitsB (a b : Fmt) (ha : FitF a) (hb : FitF b) : ∃ y : List Los × Int, Ev (fun k => interchangeref6_Fits k a b) y ∧ Ev (fun k => flat_Fits k a b) y ∧ y.1.length < 1125899906842624 := by
  have start : ∀ {y : List Los × Int}, Ev (fun k => (flat_CheckFormat k a).bind fun y0 => cond (y0 != 0) (some ([], y0)) (flat_Fits_c2 k a b [a, b] 2 1)) y → Ev (fun k => flat_Fits k a b) y := fun {y} hy =>
    .step (fun k => flat_Fits_eq k _ _) (.step (fun k => flat_Fits_c2_eq k _ _ _ _ _) (.ck (by decide) (.ck (by decide) (.ck (show (0 : Int) < ((2 : Nat) : Int) by decide) hy))))
  cases hf : (fmtF a != 0) with
  | true => exact ⟨([], fmtF a), .step (fun k => interchangeref6_Fits_eq k _ _) (.bind (ev_rCheckFormat a ha) (.tt hf (.pure _))), start (.bind (ev_CheckFormat a ha) (.tt hf (.pure _))), Nat.zero_lt_succ _⟩
  | false =>
    have next : ∀ {y : List Los × Int}, Ev (fun k => (flat_CheckFormat k b).bind fun y0 => cond (y0 != 0) (some ([], y0)) (flat_Fits_c2 k a b [a, b] 2 2)) y → Ev (fun k => flat_Fits k a b) y := fun {y} hy =>
      start (.bind (ev_CheckFormat a ha) (.ff hf (.step (fun k => flat_Fits_c2_eq k _ _ _ _ _) (.ck (by decide) (.ck (by decide) (.ck (show (1 : Int) < ((2 : Nat) : Int) by decide) hy))))))
    cases hg : (fmtF b != 0) with
    | true => exact ⟨([], fmtF b), .step (fun k => interchangeref6_Fits_eq k _ _) (.bind (ev_rCheckFormat a ha) (.ff hf (.bind (ev_rCheckFormat b hb) (.tt hg (.pure _))))), next (.bind (ev_CheckFormat b hb) (.tt hg (.pure _))), Nat.zero_lt_succ _⟩
    | false =>
      have h0 : fmtF a = 0 := by simpa using hf
      have g0 : fmtF b = 0 := by simpa using hg
      have h30 := fmt_30 h0
      obtain ⟨y, y1, y2, y3⟩ := ev_f10B a b ha hb (fmt_ok h0) (fmt_ok g0) (fmt_30 g0) _ 0 [] rfl (by simp; omega)
      have hP : Ev (fun k => flat_Fits k a b) y := next (.bind (ev_CheckFormat b hb) (.ff hg (.step (fun k => flat_Fits_c2_eq k _ _ _ _ _) (.nk (by decide) y2))))
      exact ⟨y, .step (fun k => interchangeref6_Fits_eq k _ _) (.bind (ev_rCheckFormat a ha) (.ff hf (.bind (ev_rCheckFormat b hb) (.ff hg y1)))), hP, by omega⟩
theorem ev_eqLoss (l : List Los) (hn : l.length < 1125899906842624) : Ev (fun k => slices_Equal_Lapi_Loss_api_Loss k l l) true := by
  refine .step (fun k => slices_Equal_Lapi_Loss_api_Loss_eq k _ _) (.ff (by simp) ?_)
  refine ev_up l.length (fun _ => true) (fun k i => slices_Equal_Lapi_Loss_api_Loss_c4 k l l (l.length : Int) i) (fun i hi h => ?_) ?_
  · refine .step (fun k => slices_Equal_Lapi_Loss_api_Loss_c4_eq k _ _ _ _) (.ck (by omega) (.ck (by omega) (.ck (by omega) (.ck (by omega) (.ck (by omega) (.ff (by simp [eqS_self]) ?_))))))
    rw [wj hi hn]
    exact h
  · exact .step (fun k => slices_Equal_Lapi_Loss_api_Loss_c4_eq k _ _ _ _) (.nk (by omega) (.pure _))
theorem ev_law_turns (a b : Fmt) (l : List Row) (ha : FitF a) (hb : FitF b) (hl : FitRs l) : Ev (fun k => interchangelaw6_FlatTurnsMatchSpec k a b l) true := by
  obtain ⟨y, y1, y2, y3⟩ := ev_TurnedB a b l ha hb hl
  obtain ⟨z, z1, z2, z3⟩ := ev_FitsB a b ha hb
  refine .step (fun k => interchangelaw6_FlatTurnsMatchSpec_eq k _ _ _) (.bind y1 (.bind y2 (.bind (x := true) (.tt (by simp) (ev_same _ y3)) (.ff (by simp) (.bind z1 (.bind z2 (.bind (x := true) (.tt (by simp) (ev_eqLoss _ z3)) (.bind (x := true) (.tt (by simp) ev_awakeF) (.to (.pure _) (by simp))))))))))
end Go.Proofs.YtpgbbmdfnmjjjaaGreatDoor.Eq
