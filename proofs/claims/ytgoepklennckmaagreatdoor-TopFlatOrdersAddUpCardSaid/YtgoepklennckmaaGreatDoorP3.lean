/- What the functions of this law compute, part 3. -/
import Derived.Test.YtgoepklennckmaaGreatDoorP2
namespace Go.Proofs.YtgoepklennckmaaGreatDoor.Eq
open Go Go.Ra
set_option linter.unusedVariables false
structure EndsF (a : Fmt) (t : Nat) : Prop where
  lt : t < a.2.2.1.length
  k : kOf a.2.2.1 a.2.2.2.2.1 = (t : Int)
  c : eB a.2.2.2.2.2.1 = false → ∃ j : Nat, j < (a.2.2.1[t]).2.1.length ∧ cOf (a.2.2.1[t]).2.1 a.2.2.2.2.2.1 = (j : Int)
  s : eB a.2.2.2.2.2.2 = false → ∃ j : Nat, j < (a.2.2.1[t]).2.1.length ∧ cOf (a.2.2.1[t]).2.1 a.2.2.2.2.2.2 = (j : Int)
  ne : eB a.2.2.2.2.2.1 = false → eqS a.2.2.2.2.2.1 a.2.2.2.2.2.2 = false
theorem ends_ne {a : Fmt} {t : Nat} (h : EndsF a t) (hC : eB a.2.2.2.2.2.1 = false) {i j : Nat} (hi : cOf (a.2.2.1[t]'h.lt).2.1 a.2.2.2.2.2.1 = (i : Int)) (hj : cOf (a.2.2.1[t]'h.lt).2.1 a.2.2.2.2.2.2 = (j : Int)) : i ≠ j := by
  rintro rfl
  obtain ⟨h1, h2, _⟩ := ixI_at hi
  obtain ⟨_, h3, _⟩ := ixI_at hj
  have e1 := (eqS_iff _ _).1 h2
  have e2 := (eqS_iff _ _).1 h3
  have := h.ne hC
  rw [← e1, ← e2, eqS_self] at this
  cases this
theorem midL_cons (a : Fmt) (r : Row) (l : List Row) : midL a (r :: l) = if midB a r = true then r :: midL a l else midL a l := List.filter_cons
theorem mid_mem {a : Fmt} {l : List Row} {r : Row} (h : r ∈ midL a l) : r ∈ l := (List.mem_filter.1 h).1
theorem mid_len (a : Fmt) (l : List Row) : (midL a l).length ≤ l.length := List.length_filter_le ..
theorem mid_fit {a : Fmt} {l : List Row} (h : FitRs l) : FitRs (midL a l) := ⟨Nat.lt_of_le_of_lt (mid_len a l) h.n, fun r hr => h.r r (mid_mem hr)⟩
theorem ev_aSum2 (a : Fmt) (l : List Row) (ha : FitF a) (hl : FitRs l) (hn : l.length ≤ 3518437208780) (hrows : ∀ r ∈ l, RowSm a r) (hoff : ∀ r ∈ midL a l, offT a a.2.2.2.2.2.2 r = false) : Ev (fun k => flat_sumOf k a (midL a l) (bs []) a.2.2.2.2.2.2) (fwF 9 (sumL ((midL a l).map (valT a a.2.2.2.2.2.2)))) :=
  ev_sumAll a (midL a l) _ ha (mid_fit hl) (Nat.le_trans (mid_len a l) hn) (fun r hr => hrows r (mid_mem hr)) hoff
end Go.Proofs.YtgoepklennckmaaGreatDoor.Eq
namespace Go.Proofs.YtgoepklennckmaaGreatDoor.Eq
open Go Go.Ra
set_option linter.unusedVariables false
def setC (a : Fmt) (kd : Knd) (n : Nat) (tl : Row) : Row := if eB a.2.2.2.2.2.1 = true then tl else (tl.1, tl.2.set (cOf kd.2.1 a.2.2.2.2.2.1).toNat (B (Lib.itoa (n : Int))))
def setS (a : Fmt) (kd : Knd) (d : Int × Int) (tl : Row) : Row := if eB a.2.2.2.2.2.2 = true then tl else (tl.1, tl.2.set (cOf kd.2.1 a.2.2.2.2.2.2).toNat (B (txL d)))
def endY (Y : Int × Int) (rs : List Row) (t : Row) : List Row × Int := if Y.2 ≠ 0 then ([], Y.2) else if (rs.length : Int) + 1 > 2000 then ([], 2) else (rs ++ [t], 0)
theorem setC_1 (a : Fmt) (kd : Knd) (n : Nat) (tl : Row) : (setC a kd n tl).1 = tl.1 ∧ (setC a kd n tl).2.length = tl.2.length := by
  unfold setC
  split
  · exact ⟨rfl, rfl⟩
  · exact ⟨rfl, List.length_set ..⟩
theorem setS_1 (a : Fmt) (kd : Knd) (d : Int × Int) (tl : Row) : (setS a kd d tl).1 = tl.1 ∧ (setS a kd d tl).2.length = tl.2.length := by
  unfold setS
  split
  · exact ⟨rfl, rfl⟩
  · exact ⟨rfl, List.length_set ..⟩
theorem setC_t {a : Fmt} (h : eB a.2.2.2.2.2.1 = true) (kd : Knd) (n : Nat) (tl : Row) : setC a kd n tl = tl := by unfold setC; rw [if_pos h]
theorem setC_f {a : Fmt} (h : eB a.2.2.2.2.2.1 = false) {kd : Knd} {i : Nat} (hi : cOf kd.2.1 a.2.2.2.2.2.1 = (i : Int)) (n : Nat) (tl : Row) : setC a kd n tl = (tl.1, tl.2.set i (B (Lib.itoa (n : Int)))) := by unfold setC; rw [if_neg (by rw [h]; decide), hi]; rfl
theorem setS_t {a : Fmt} (h : eB a.2.2.2.2.2.2 = true) (kd : Knd) (d : Int × Int) (tl : Row) : setS a kd d tl = tl := by unfold setS; rw [if_pos h]
theorem setS_f {a : Fmt} (h : eB a.2.2.2.2.2.2 = false) {kd : Knd} {i : Nat} (hi : cOf kd.2.1 a.2.2.2.2.2.2 = (i : Int)) (d : Int × Int) (tl : Row) : setS a kd d tl = (tl.1, tl.2.set i (B (txL d))) := by unfold setS; rw [if_neg (by rw [h]; decide), hi]; rfl
theorem set_swap {a : Fmt} {t : Nat} (he : EndsF a t) (n : Nat) (d : Int × Int) (tl : Row) : setC a (a.2.2.1[t]'he.lt) n (setS a (a.2.2.1[t]'he.lt) d tl) = setS a (a.2.2.1[t]'he.lt) d (setC a (a.2.2.1[t]'he.lt) n tl) := by
  cases hC : eB a.2.2.2.2.2.1 with
  | true => rw [setC_t hC, setC_t hC]
  | false =>
    cases hS : eB a.2.2.2.2.2.2 with
    | true => rw [setS_t hS, setS_t hS]
    | false =>
      obtain ⟨i, hi, hi2⟩ := he.c hC
      obtain ⟨j, hj, hj2⟩ := he.s hS
      have hne := ends_ne he hC hi2 hj2
      rw [setC_f hC hi2, setS_f hS hj2, setC_f hC hi2, setS_f hS hj2, List.set_comm _ _ (fun z => hne z.symm)]
theorem itoa_short (n : Nat) (h : n ≤ 3518437208780) : (B (Lib.itoa (n : Int))).size ≤ 140737488351232 := by
  have hs : (B (Lib.itoa (n : Int))).size = (Lib.itoa (n : Int)).length := size_B _
  have hl := itoa_len (n := (n : Int)) (k := 13) (by omega) (by decide) (by omega)
  omega
theorem ev_c24 {a : Fmt} {l rs : List Row} {tl : Row} {t : Nat} (ha : FitF a) (he : EndsF a t) (hl : l.length ≤ 3518437208780) (hlen : tl.2.length = (a.2.2.1[t]'he.lt).2.1.length) (hr : rs.length ≤ 2000) (hrf : FitRs rs) (h8 : ∀ r ∈ rs, r.2.length < 8796093022208) {Y : Int × Int} (hY : Ev (fun k => flat_checkRow k a (setC a (a.2.2.1[t]'he.lt) (midL a l).length tl)) Y) :
    Ev (fun k => flat_Closed_c24 k l a (a.2.2.1[t]'he.lt) tl rs) (endY Y rs (setC a (a.2.2.1[t]'he.lt) (midL a l).length tl)) := by
  have hkm := List.getElem_mem he.lt
  have hml := mid_len a l
  have fin : ∀ {x : Row}, Ev (fun k => flat_checkRow k a x) Y → Ev (fun k => (flat_checkRow k a x).bind fun y13 => cond (y13.2 != 0) (some ([], y13.2)) ((flat_cloneRows k rs).bind fun y14 => cond (decide (y14.length + 1 < 3518437208883)) (cond (decide (((y14 ++ [x]).length : Int) > 2000)) (some ([], 2)) (some ((y14 ++ [x]), 0))) none)) (endY Y rs x) := fun {x} hx => by
    refine .bind hx ?_
    unfold endY
    cases hz : (Y.2 != 0) with
    | true => exact .tt rfl (.to (.pure _) (by rw [if_pos (by simpa using hz)]))
    | false =>
      rw [if_neg (by simpa using hz)]
      refine .ff rfl (.bind (ev_cloneR rs hr hrf h8) (.ck (by omega) (.dec (fun z => ?_) fun z => ?_)))
      · rw [if_pos (by rw [List.length_append] at z; simpa using z)]
        exact .pure _
      · rw [if_neg (by rw [List.length_append] at z; simpa using z)]
        exact .pure _
  refine .step (fun k => flat_Closed_c24_eq k _ _ _ _ _) ?_
  unfold setC at hY ⊢
  cases hC : eB a.2.2.2.2.2.1 with
  | true =>
    rw [hC, if_pos rfl] at hY
    rw [if_pos rfl]
    unfold eB at hC
    exact .ff (by rw [hC]; rfl) (fin hY)
  | false =>
    rw [hC, if_neg (by decide)] at hY
    rw [if_neg (by decide)]
    obtain ⟨i, hi, hi2⟩ := he.c hC
    rw [hi2] at hY ⊢
    unfold eB at hC
    refine .tt (by rw [hC]; rfl) (.bind ((ev_columnAt _ _ (ha.c _ hkm)).to hi2) (.bind (ev_inner a l hl) (.bind (ev_Itoa (by omega) (by omega)) (.ck (by omega) (.ck (by omega) (fin hY))))))
theorem ev_c19 {a : Fmt} {l rs : List Row} {tl : Row} {t : Nat} (ha : FitF a) (he : EndsF a t) (hl : l.length ≤ 3518437208780) (hfl : FitRs l) (hrows : ∀ r ∈ l, RowSm a r) (hoff : eB a.2.2.2.2.2.2 = false → ∀ r ∈ midL a l, offT a a.2.2.2.2.2.2 r = false)
    (hlen : tl.2.length = (a.2.2.1[t]'he.lt).2.1.length) (hr : rs.length ≤ 2000) (hrf : FitRs rs) (h8 : ∀ r ∈ rs, r.2.length < 8796093022208) {d : Int × Int} (hfw : eB a.2.2.2.2.2.2 = false → okD d ∧ fwF 9 (sumL ((midL a l).map (valT a a.2.2.2.2.2.2))) = (d, 0))
    {Y : Int × Int} (hY : Ev (fun k => flat_checkRow k a (setC a (a.2.2.1[t]'he.lt) (midL a l).length (setS a (a.2.2.1[t]'he.lt) d tl))) Y) :
    Ev (fun k => flat_Closed_c19 k l a (a.2.2.1[t]'he.lt) tl rs) (endY Y rs (setC a (a.2.2.1[t]'he.lt) (midL a l).length (setS a (a.2.2.1[t]'he.lt) d tl))) := by
  have hkm := List.getElem_mem he.lt
  have hl1 := (setS_1 a (a.2.2.1[t]'he.lt) d tl).2
  have h24 := ev_c24 (l := l) (rs := rs) (tl := setS a (a.2.2.1[t]'he.lt) d tl) ha he hl (by rw [hl1]; exact hlen) hr hrf h8 hY
  refine .step (fun k => flat_Closed_c19_eq k _ _ _ _ _) ?_
  cases hS : eB a.2.2.2.2.2.2 with
  | true =>
    have e : setS a (a.2.2.1[t]'he.lt) d tl = tl := by unfold setS; rw [if_pos hS]
    rw [e] at h24 ⊢
    unfold eB at hS
    exact .ff (by rw [hS]; rfl) h24
  | false =>
    obtain ⟨j, hj, hj2⟩ := he.s hS
    obtain ⟨hd, hw⟩ := hfw hS
    have e : setS a (a.2.2.1[t]'he.lt) d tl = (tl.1, tl.2.set ((j : Nat) : Int).toNat (B (txL d))) := by unfold setS; rw [if_neg (by rw [hS]; decide), hj2]
    rw [e] at h24 ⊢
    have hsum := (ev_aSum2 a l ha hfl hl hrows (hoff hS)).to hw
    unfold eB at hS
    exact .tt (by rw [hS]; rfl) (.bind (ev_inner a l hl) (.bind hsum (.ff rfl (.bind ((ev_columnAt _ _ (ha.c _ hkm)).to hj2) (.bind (ev_told2 hd) (.ck (by omega) (.ck (by omega) h24)))))))
end Go.Proofs.YtgoepklennckmaaGreatDoor.Eq
namespace Go.Proofs.YtgoepklennckmaaGreatDoor.Eq
open Go Go.Ra
set_option linter.unusedVariables false
theorem ev_undF {a : Fmt} (ha : FitF a) (hu : UpF a) {top : ByteArray} : ∀ (f : Nat) (tag : ByteArray) (i : Nat) (hi : i < a.2.2.1.length), kOf a.2.2.1 tag = (i : Int) → i < f →
    Ev (fun k => flat_isUnder_c2 k top a a.2.2.1[i] true) (undB a top f tag) := by
  intro f
  induction f with
  | zero => intro tag i hi hk hf; omega
  | succ f ih =>
    intro tag i hi hk hf
    unfold undB
    rw [kAt_at hi hk]
    cases he : eqS (a.2.2.1[i]).2.2.2 (bs []) with
    | true => exact .step (fun k => flat_isUnder_c2_eq k _ _ _ _) (.ff (by rw [he]; rfl) (.pure _))
    | false =>
      have fstart : ∀ {y : Bool}, Ev (fun k => cond (eqS (a.2.2.1[i]).2.2.2 top) (some true) (flat_isUnder_c7 k top a a.2.2.1[i])) y → Ev (fun k => flat_isUnder_c2 k top a a.2.2.1[i] true) y := fun {y} hy =>
        .step (fun k => flat_isUnder_c2_eq k _ _ _ _) (.tt (by rw [he]; rfl) hy)
      cases hp : eqS (a.2.2.1[i]).2.2.2 top with
      | true => exact fstart (.tt hp (.pure _))
      | false =>
        rcases hu i hi with h | ⟨j, hj, hkj⟩
        · unfold eB at h
          rw [he] at h
          cases h
        · have hj' : j < a.2.2.1.length := by omega
          exact fstart (.ff hp (.step (fun k => flat_isUnder_c7_eq k _ _ _) (.bind ((ev_kindAt a _ ha.n).to (kAt_at hj' hkj)) (ih (a.2.2.1[i]).2.2.2 j hj' hkj (by omega)))))
theorem ev_isUnderF {a : Fmt} (ha : FitF a) (hu : UpF a) {top : ByteArray} {r : Row} (hr : RowVF a r) : Ev (fun k => flat_isUnder k a r.1 top) (undB a top a.2.2.1.length r.1) := by
  obtain ⟨i, hi, hk, _⟩ := hr
  exact .step (fun k => flat_isUnder_eq k _ _ _) (.bind ((ev_kindAt a _ ha.n).to (kAt_at hi hk)) (ev_undF ha hu a.2.2.1.length r.1 i hi hk hi))
theorem ev_overOfF {a : Fmt} (ha : FitF a) (hu : UpF a) {l : List Row} (hl : FitRs l) (hrows : ∀ r ∈ l, RowVF a r) {u : ByteArray} : ∀ m : Nat, m ≤ l.length → Ev (fun k => flat_overOf_c2 k l u a ((m : Int) - 1)) (overN (fun r => eqS r.1 u) (fun r => undB a u a.2.2.1.length r.1) l m)
  | 0, _ => .step (fun k => flat_overOf_c2_eq k _ _ _ _) (.nk (by omega) (.pure _))
  | m + 1, hm => by
    have hq : m < l.length := by omega
    have hn := hl.n
    have e : ((m + 1 : Nat) : Int) - 1 = ((m : Nat) : Int) := by omega
    rw [e]
    unfold overN
    rw [getD_row hq]
    refine .step (fun k => flat_overOf_c2_eq k _ _ _ _) (.ck (by omega) (.ck (by omega) (.ck (by omega) ?_)))
    rw [getD_at hq, wi64_id (by omega) (by omega)]
    cases hp : eqS (l[m]).1 u with
    | true => exact .tt rfl (.to (.pure _) (by rw [if_pos rfl]))
    | false =>
      rw [if_neg (by decide)]
      refine .ff rfl (.ck (by omega) (.ck (by omega) (.bind (ev_isUnderF ha hu (hrows _ (List.getElem_mem hq))) ?_)))
      cases hb : undB a u a.2.2.1.length (l[m]).1 with
      | true => exact .ff rfl (.to (ev_overOfF ha hu hl hrows m (by omega)) (by rw [if_pos rfl]))
      | false => exact .tt rfl (.to (.pure _) (by rw [if_neg (by decide)]))
theorem ev_manyF (kd : Knd) (t : ByteArray) (L : List Row) (hL : L.length < 1125899906842624) : ∀ (m q : Nat) (s : Int), L.length - q = m → q ≤ L.length → ∃ y : Int, Ev (fun k => flat_rowOrder_c16 k t kd s L (L.length : Int) (q : Int)) y := by
  intro m
  induction m with
  | zero =>
    intro q s hm hq
    exact ⟨cond (decide (s > kd.2.2.1)) 2 0, .step (fun k => flat_rowOrder_c16_eq k _ _ _ _ _ _) (.nk (by omega) (.sel rfl (fun _ => .pure _) fun _ => .pure _))⟩
  | succ m ih =>
    intro q s hm hq
    have hq3 : q < L.length := by omega
    have sf : ∀ {s' y}, (eqS (L[q]).1 t = true → s' = wi64 (s + 1)) → (eqS (L[q]).1 t = false → s' = s) → Ev (fun k => flat_rowOrder_c16 k t kd s' L (L.length : Int) ((q + 1 : Nat) : Int)) y → Ev (fun k => flat_rowOrder_c16 k t kd s L (L.length : Int) (q : Int)) y := fun {s' y} h1 h2 hy => by
      refine .step (fun k => flat_rowOrder_c16_eq k _ _ _ _ _ _) (.ck (by omega) (.ck (by omega) (.ck (by omega) ?_)))
      rw [getD_at hq3, wj hq3 hL]
      cases hb : eqS (L[q]).1 t with
      | true => rw [h1 hb] at hy; exact .tt rfl hy
      | false => rw [h2 hb] at hy; exact .ff rfl hy
    cases hb : eqS (L[q]).1 t with
    | true =>
      obtain ⟨y, y3⟩ := ih (q + 1) (wi64 (s + 1)) (by omega) (by omega)
      exact ⟨y, sf (fun _ => rfl) (fun z => by rw [hb] at z; cases z) y3⟩
    | false =>
      obtain ⟨y, y3⟩ := ih (q + 1) s (by omega) (by omega)
      exact ⟨y, sf (fun z => by rw [hb] at z; cases z) (fun _ => rfl) y3⟩
theorem ev_orderF {a : Fmt} (ha : FitF a) (hu : UpF a) {l : List Row} (hl : FitRs l) (hrows : ∀ r ∈ l, RowVF a r) {c : Nat} (hc : c < l.length) : ∃ y : Int, Ev (fun k => flat_rowOrder k a l (c : Int)) y := by
  have hn := hl.n
  have hlen : ∀ m n, ((l.take m).drop n).length < 1125899906842624 := fun m n => by rw [List.length_drop, List.length_take]; omega
  obtain ⟨i, hi, hk, _⟩ := hrows _ (List.getElem_mem hc)
  have hA : Ev (fun k => flat_kindAt k a (l[c]).1) (a.2.2.1[i], true) := (ev_kindAt a _ ha.n).to (kAt_at hi hk)
  have hw1 : wi64 ((c : Int) + 1) = ((c + 1 : Nat) : Int) := wj hc hn
  generalize hH : (cond (!(eqS a.2.2.2.1 (bs []))) (!((eqS (l[c]).1 a.2.2.2.1) == (((c : Nat) : Int) == 0))) false) = H
  generalize hT : (cond (cond (!(eqS a.2.2.2.2.1 (bs []))) (eqS (l[c]).1 a.2.2.2.2.1) false) (((c : Nat) : Int) != (wi64 ((l.length : Int) - 1))) false) = U
  cases H with
  | true => exact ⟨8, .step (fun k => flat_rowOrder_eq k _ _ _) (.ck (by omega) (.ck (by omega) (.tt (by rw [getD_at hc, hH]) (.pure _))))⟩
  | false =>
    cases U with
    | true => exact ⟨8, .step (fun k => flat_rowOrder_eq k _ _ _) (.ck (by omega) (.ck (by omega) (.ff (by rw [getD_at hc, hH]) (.tt (by rw [getD_at hc, hT]) (.pure _)))))⟩
    | false =>
      have fs : ∀ {y : Int}, Ev (fun k => cond (!(eqS (a.2.2.1[i]).2.2.2 (bs []))) ((flat_overOf k a l (c : Int) (a.2.2.1[i]).2.2.2).bind fun y1 => cond (decide (y1 < 0)) (some 8) (cond ((a.2.2.1[i]).2.2.1 == 0) (some 0) (cond (decide (0 ≤ y1)) (cond (decide (y1 ≤ (wi64 ((c : Int) + 1)))) (cond (decide ((wi64 ((c : Int) + 1)) ≤ (l.length : Int))) (flat_rowOrder_c16 k (l[c]).1 a.2.2.1[i] 0 ((l.take (wi64 ((c : Int) + 1)).toNat).drop y1.toNat) (((l.take (wi64 ((c : Int) + 1)).toNat).drop y1.toNat).length : Int) 0) none) none) none))) (cond ((a.2.2.1[i]).2.2.1 == 0) (some 0) (cond (decide (0 ≤ (wi64 ((c : Int) + 1)))) (cond (decide ((wi64 ((c : Int) + 1)) ≤ (l.length : Int))) (flat_rowOrder_c16 k (l[c]).1 a.2.2.1[i] 0 ((l.take (wi64 ((c : Int) + 1)).toNat).drop 0) (((l.take (wi64 ((c : Int) + 1)).toNat).drop 0).length : Int) 0) none) none))) y → Ev (fun k => flat_rowOrder k a l (c : Int)) y := fun {y} hy => by
        refine .step (fun k => flat_rowOrder_eq k _ _ _) (.ck (by omega) (.ck (by omega) (.ff (by rw [getD_at hc, hH]) (.ff (by rw [getD_at hc, hT]) ?_))))
        rw [getD_at hc]
        exact .bind hA hy
      cases he : eqS (a.2.2.1[i]).2.2.2 (bs []) with
      | true =>
        by_cases h0 : (a.2.2.1[i]).2.2.1 = 0
        · exact ⟨0, fs (.ff (by rw [he]; rfl) (.tt (by rw [h0]; rfl) (.pure _)))⟩
        · obtain ⟨y, y3⟩ := ev_manyF a.2.2.1[i] (l[c]).1 ((l.take (wi64 ((c : Int) + 1)).toNat).drop 0) (hlen _ _) _ 0 0 rfl (Nat.zero_le _)
          exact ⟨y, fs (.ff (by rw [he]; rfl) (.ff (by simpa using h0) (.ck (by omega) (.ck (by omega) y3))))⟩
      | false =>
        have ho := ev_overOfF ha hu hl hrows (u := (a.2.2.1[i]).2.2.2) c (by omega)
        have hov : Ev (fun k => flat_overOf k a l (c : Int) (a.2.2.1[i]).2.2.2) (overN (fun r => eqS r.1 (a.2.2.1[i]).2.2.2) (fun r => undB a (a.2.2.1[i]).2.2.2 a.2.2.1.length r.1) l c) := by
          refine .step (fun k => flat_overOf_eq k _ _ _ _) ?_
          rw [wi64_id (by omega) (by omega)]
          exact ho
        have hle := lastN_lt (fun r => eqS r.1 (a.2.2.1[i]).2.2.2) l c
        have hoe := overN_eq (fun r => eqS r.1 (a.2.2.1[i]).2.2.2) (fun r => undB a (a.2.2.1[i]).2.2.2 a.2.2.1.length r.1) l c
        generalize overN (fun r => eqS r.1 (a.2.2.1[i]).2.2.2) (fun r => undB a (a.2.2.1[i]).2.2.2 a.2.2.1.length r.1) l c = o at *
        by_cases hob : o < 0
        · exact ⟨8, fs (.tt (by rw [he]; rfl) (.bind hov (.ck hob (.pure _))))⟩
        · have hoc := (hoe.1 (by omega)).1
          by_cases h0 : (a.2.2.1[i]).2.2.1 = 0
          · exact ⟨0, fs (.tt (by rw [he]; rfl) (.bind hov (.nk hob (.tt (by rw [h0]; rfl) (.pure _)))))⟩
          · obtain ⟨y, y3⟩ := ev_manyF a.2.2.1[i] (l[c]).1 ((l.take (wi64 ((c : Int) + 1)).toNat).drop o.toNat) (hlen _ _) _ 0 0 rfl (Nat.zero_le _)
            exact ⟨y, fs (.tt (by rw [he]; rfl) (.bind hov (.nk hob (.ff (by simpa using h0) (.ck (by omega) (.ck (by omega) (.ck (by omega) y3)))))))⟩
theorem ev_CheckOrderF (a : Fmt) (l : List Row) (ha : FitF a) (hl : FitRs l) (h0 : fmtF a = 0) (hvf : ∀ r ∈ l, RowVF a r) : ∃ y : Int × Int, Ev (fun k => flat_CheckOrder k a l) y := by
  have hn := hl.n
  have hlast : wi64 ((l.length : Int) - 1) = (l.length : Int) - 1 := wi64_id (by omega) (by omega)
  have hok := fmt_ok h0
  have hu := fmt_up h0
  have hf : (fmtF a != 0) = false := by rw [h0]; rfl
  obtain ⟨z, z2, _, z3⟩ := ev_rowsVF a l ha hok hl
  have hz : (z.2 != 0) = false := by rw [z3 hvf]; rfl
  have key : ∀ (m i : Nat), l.length - i = m → i ≤ l.length → ∃ y : Int × Int, Ev (fun k => flat_checkOrder_c5 k l a (l.length : Int) (i : Int)) y := by
    intro m
    induction m with
    | zero =>
      intro i hm hi
      have b1 : ((!((!(eqS a.2.2.2.2.1 (bs []))) && (!((l.length : Int) == 0)))) || (decide (0 ≤ (wi64 ((l.length : Int) - 1))))) = true := bor' fun w => by
        simp only [Bool.and_eq_true, Bool.not_eq_true', beq_eq_false_iff_ne, ne_eq] at w
        rw [hlast]
        exact decide_eq_true (by omega)
      have b2 : ((!((!(eqS a.2.2.2.2.1 (bs []))) && (!((l.length : Int) == 0)))) || (decide ((wi64 ((l.length : Int) - 1)) < (l.length : Int)))) = true := bor' fun w => by
        rw [hlast]
        exact decide_eq_true (by omega)
      exact ⟨cond (cond (!(eqS a.2.2.2.2.1 (bs []))) (cond ((l.length : Int) == 0) true (!(eqS ((l.getD (wi64 ((l.length : Int) - 1)).toNat row0).1) a.2.2.2.2.1))) false) ((l.length : Int), 8) (0, 0), .step (fun k => flat_checkOrder_c5_eq k _ _ _ _) (.nk (by omega) (.tt b1 (.tt b2 (.sel rfl (fun _ => .pure _) fun _ => .pure _))))⟩
    | succ m ih =>
      intro i hm hi
      have hi3 : i < l.length := by omega
      obtain ⟨e, e2⟩ := ev_orderF ha hu hl hvf hi3
      cases he : (e != 0) with
      | true => exact ⟨((i : Int), e), .step (fun k => flat_checkOrder_c5_eq k _ _ _ _) (.ck (by omega) (.bind e2 (.tt he (.pure _))))⟩
      | false =>
        obtain ⟨y, y2⟩ := ih (i + 1) (by omega) (by omega)
        refine ⟨y, .step (fun k => flat_checkOrder_c5_eq k _ _ _ _) (.ck (by omega) (.bind e2 (.ff he ?_)))⟩
        rw [wj hi3 hn]
        exact y2
  obtain ⟨y, y2⟩ := key _ 0 rfl (Nat.zero_le _)
  exact ⟨y, .step (fun k => flat_CheckOrder_eq k _ _) (.bind (ev_CheckFormat a ha) (.ff hf (.ret (.step (fun k => flat_checkOrder_eq k _ _) (.bind z2 (.ff hz y2))) rfl)))⟩
structure ClosF (a : Fmt) (l : List Row) (t : Nat) (tl : Row) (rs : List Row) : Prop where
  f0 : fmtF a = 0
  hT : eB a.2.2.2.2.1 = false
  n : l.length ≤ 2000
  vf : ∀ r ∈ l, RowVF a r
  tag : tl.1 = a.2.2.2.2.1
  len : ∀ (h : t < a.2.2.1.length), tl.2.length = (a.2.2.1[t]).2.1.length
  fit : FitR tl
  rfit : FitRs rs
  rn : rs.length ≤ 2000
  sub : ∀ r ∈ rs, r ∈ l
  mid : midL a rs = midL a l
theorem nil_sizeF : (bs [] : ByteArray).size = 0 := rfl
theorem rep_fitF (n : Nat) (T : ByteArray) (h : n < 1125899906842624) : FitR (T, List.replicate n (bs [])) := ⟨by simp only [List.length_replicate]; exact h, fun c hc => by
  rw [List.eq_of_mem_replicate hc, nil_sizeF]
  exact Nat.zero_le _⟩
theorem mid_tailF {a : Fmt} {r : Row} (hT : eB a.2.2.2.2.1 = false) (h : eqS r.1 a.2.2.2.2.1 = true) : midB a r = false := by
  unfold midB
  unfold eB at hT
  rw [h, hT]
  cases cond (eqS a.2.2.2.1 (bs [])) true (!(eqS r.1 a.2.2.2.1)) <;> rfl
theorem fit_snocF {l : List Row} {r : Row} (hl : FitRs l) (hn : l.length ≤ 2000) (hr : FitR r) : FitRs (l ++ [r]) := ⟨by rw [List.length_append]; simp; omega, fun x hx => by
  rcases List.mem_append.1 hx with hx | hx
  · exact hl.r x hx
  · rw [List.mem_singleton.1 hx]; exact hr⟩
theorem setC_idem (a : Fmt) (kd : Knd) (n : Nat) (tl : Row) : setC a kd n (setC a kd n tl) = setC a kd n tl := by
  unfold setC
  split
  · rfl
  · simp only [List.set_set]
theorem setS_idem (a : Fmt) (kd : Knd) (d : Int × Int) (tl : Row) : setS a kd d (setS a kd d tl) = setS a kd d tl := by
  unfold setS
  split
  · rfl
  · simp only [List.set_set]
theorem set_idem {a : Fmt} {t : Nat} (he : EndsF a t) (n : Nat) (d : Int × Int) (tl : Row) : setC a (a.2.2.1[t]'he.lt) n (setS a (a.2.2.1[t]'he.lt) d (setC a (a.2.2.1[t]'he.lt) n (setS a (a.2.2.1[t]'he.lt) d tl))) = setC a (a.2.2.1[t]'he.lt) n (setS a (a.2.2.1[t]'he.lt) d tl) := by
  rw [← set_swap he, setC_idem, setS_idem]
theorem last_row (rs : List Row) (x : Row) : (rs ++ [x]).getD ((rs.length : Nat) : Int).toNat row0 = x := by
  rw [getD_at (show rs.length < (rs ++ [x]).length by simp)]
  simp
theorem ev_again (a : Fmt) (l : List Row) (ha : FitF a) (hl : FitRs l) {t : Nat} (he : EndsF a t) {tl : Row} {rs : List Row} {d : Int × Int} {Y : Int × Int} (hE : ClosF a l t tl rs) (ho : eB a.2.2.2.2.2.2 = false → ∀ r ∈ midL a l, offT a a.2.2.2.2.2.2 r = false) (hd : eB a.2.2.2.2.2.2 = false → okD d ∧ fwF 9 (sumL ((midL a l).map (valT a a.2.2.2.2.2.2))) = (d, 0))
    {x : Row} (hx : x = setC a (a.2.2.1[t]'he.lt) (midL a l).length (setS a (a.2.2.1[t]'he.lt) d tl)) (hfit : FitR x) (hY : Ev (fun k => flat_checkRow k a x) Y) (hY0 : Y.2 = 0) (hlen : rs.length + 1 ≤ 2000) :
    Ev (fun k => flat_Closed k a (rs ++ [x])) (rs ++ [x], 0) ∧ FitRs (rs ++ [x]) ∧ ∃ y, Ev (fun k => flat_CheckOrder k a (rs ++ [x])) y ∧ (y.2 = 0 → Ev (fun k => flat_CheckTotals k a (rs ++ [x])) (0, 0)) := by
  have hok := fmt_ok hE.f0
  have hf : (fmtF a != 0) = false := by rw [hE.f0]; rfl
  have hT' : eqS a.2.2.2.2.1 (bs []) = false := hE.hT
  have hkm := List.getElem_mem he.lt
  have h50 := hok.len _ hkm
  have hlt := he.lt
  have xl : (rs ++ [x]).length = rs.length + 1 := by simp
  have htag : x.1 = a.2.2.2.2.1 := by
    rw [hx, (setC_1 ..).1, (setS_1 ..).1]
    exact hE.tag
  have xlen : x.2.length = (a.2.2.1[t]'he.lt).2.1.length := by
    rw [hx, (setC_1 ..).2, (setS_1 ..).2]
    exact hE.len he.lt
  have hvx : RowVF a x := by
    obtain ⟨y, y1, y2, _⟩ := ev_rowVF a x ha hok hfit
    exact y2 (by rw [Ev.uniq y1 hY]; exact hY0)
  have hfx : FitRs (rs ++ [x]) := fit_snocF hE.rfit hE.rn hfit
  have hvf : ∀ r ∈ rs ++ [x], RowVF a r := fun r hr => by
    rcases List.mem_append.1 hr with hr | hr
    · exact hE.vf r (hE.sub r hr)
    · rw [List.mem_singleton.1 hr]; exact hvx
  have hsm : ∀ r ∈ rs ++ [x], RowSm a r := fun r hr => (hvf r hr).sm
  have heq : eqS x.1 a.2.2.2.2.1 = true := by rw [htag]; exact eqS_self _
  have hmid : midL a (rs ++ [x]) = midL a l := by
    rw [midL_append, midL_cons, if_neg (by rw [mid_tailF hE.hT heq]; decide), hE.mid]
    simp [midL]
  have hml := mid_len a (rs ++ [x])
  have ho' : eB a.2.2.2.2.2.2 = false → ∀ r ∈ midL a (rs ++ [x]), offT a a.2.2.2.2.2.2 r = false := by rw [hmid]; exact ho
  have hd' : eB a.2.2.2.2.2.2 = false → okD d ∧ fwF 9 (sumL ((midL a (rs ++ [x])).map (valT a a.2.2.2.2.2.2))) = (d, 0) := by rw [hmid]; exact hd
  have h8 : ∀ r ∈ rs, r.2.length < 8796093022208 := fun r hr => by
    obtain ⟨i, hi, _, hlen, _⟩ := hE.vf r (hE.sub r hr)
    have := hok.len _ (List.getElem_mem hi)
    omega
  have hA : Ev (fun k => flat_kindAt k a a.2.2.2.2.1) (a.2.2.1[t]'he.lt, true) := (ev_kindAt a _ ha.n).to (kAt_at he.lt he.k)
  have hw : wi64 (((rs ++ [x]).length : Int) - 1) = ((rs.length : Nat) : Int) := by rw [wi64_id (by omega) (by omega)]; omega
  obtain ⟨sf, sf1, sf2⟩ := ev_sumFault a (midL a (rs ++ [x])) ha (by omega)
  have hsf : sf = false := sf2.2 (by
    cases hS : eB a.2.2.2.2.2.2 with
    | true => exact .inl rfl
    | false => exact .inr (ho' hS))
  obtain ⟨c, c1, _, c3⟩ := ev_rowsVF a (rs ++ [x]) ha hok hfx
  have hc0 : (c.2 != 0) = false := by rw [c3 hvf]; rfl
  have hid := set_idem he (midL a l).length d tl
  rw [← hx] at hid
  refine ⟨?_, hfx, ?_⟩
  · have b1 : ((!(decide (((rs ++ [x]).length : Int) > 0))) || (decide (0 ≤ (wi64 (((rs ++ [x]).length : Int) - 1))))) = true := bor' fun _ => by rw [hw]; exact decide_eq_true (by omega)
    have b2 : ((!(decide (((rs ++ [x]).length : Int) > 0))) || (decide ((wi64 (((rs ++ [x]).length : Int) - 1)) < ((rs ++ [x]).length : Int)))) = true := bor' fun _ => by rw [hw]; exact decide_eq_true (by omega)
    have hL : (cond (decide (((rs ++ [x]).length : Int) > 0)) (eqS (((rs ++ [x]).getD (wi64 (((rs ++ [x]).length : Int) - 1)).toNat row0).1) a.2.2.2.2.1) false) = true := by
      rw [decide_eq_true (show ((rs ++ [x]).length : Int) > 0 by omega), hw, last_row]
      exact heq
    have h19 := ev_c19 (l := rs ++ [x]) (rs := rs) (tl := x) (d := d) (Y := Y) ha he (by omega) hfx hsm ho' xlen hE.rn hE.rfit h8 hd' (by rw [hmid, hid]; exact hY)
    rw [hmid, hid] at h19
    have hend : endY Y rs x = (rs ++ [x], 0) := by
      unfold endY
      rw [if_neg (by rw [hY0]; decide), if_neg (by omega)]
    rw [hend] at h19
    refine .step (fun k => flat_Closed_eq k _ _) (.bind (ev_CheckFormat a ha) (.ff hf (.ff hT' (.nk (by omega) (.bind c1 (.ff hc0 (.bind (ev_inner a _ (by omega)) (.bind sf1 (.ff hsf (.bind hA (.ck (by omega) (.ck (by simp only [Int.toNat_natCast]; omega) (.tt b1 (.tt b2 (.tt hL ?_)))))))))))))))
    rw [hw, last_row]
    refine .ck (by omega) (.ck (by omega) (.bind (ev_cloneT _ (by omega)) (.ck (by omega) (.ck (by omega) ?_))))
    rw [Int.toNat_natCast, ← htag, row_eta, List.take_left']
    · exact h19
    · rfl
  · obtain ⟨y, y2⟩ := ev_CheckOrderF a (rs ++ [x]) ha hfx hE.f0 hvf
    refine ⟨y, y2, fun hy => ?_⟩
    have hcA := fun d => ev_columnAt (a.2.2.1[t]'he.lt) d (ha.c _ hkm)
    have sum : Ev (fun k => cond (eqS a.2.2.2.2.2.2 (bs [])) (some (0, 0)) ((flat_inner k a (rs ++ [x])).bind fun y5 => (flat_sumFault k a y5).bind fun y6 => cond y6 (some (1, 6)) ((flat_inner k a (rs ++ [x])).bind fun y7 => (flat_sumOf k a y7 (bs []) a.2.2.2.2.2.2).bind fun y8 => cond (y8.2 != 0) (some (1, y8.2)) ((flat_columnAt k (a.2.2.1[t]'he.lt) a.2.2.2.2.2.2).bind fun y9 => cond (decide (0 ≤ y9)) (cond (decide (y9 < (x.2.length : Int))) ((amount_Told k y8.1).bind fun y10 => cond (!(eqS (x.2.getD y9.toNat (bs [])) y10)) (some (1, 12)) (some ((0 : Int), (0 : Int)))) none) none)))) (0, 0) := by
      cases hS : eB a.2.2.2.2.2.2 with
      | true =>
        unfold eB at hS
        exact .tt hS (.pure _)
      | false =>
        have hS' : eqS a.2.2.2.2.2.2 (bs []) = false := hS
        obtain ⟨j, hj, hj2⟩ := he.s hS
        obtain ⟨hdk, hdw⟩ := hd' hS
        have hv : x.2.getD ((j : Nat) : Int).toNat (bs []) = B (txL d) := by
          have e : x = (tl.1, ((setC a (a.2.2.1[t]'he.lt) (midL a l).length tl).2).set j (B (txL d))) := by
            rw [hx, set_swap he, setS_f hS hj2]
            exact Prod.ext (setC_1 ..).1 rfl
          rw [e]
          simp only [Int.toNat_natCast]
          have hjl : j < (setC a (a.2.2.1[t]'he.lt) (midL a l).length tl).2.length := by rw [(setC_1 ..).2, hE.len he.lt]; exact hj
          rw [List.getD_eq_getElem?_getD, List.getElem?_set_self hjl]
          rfl
        refine .ff hS' (.bind (ev_inner a _ (by omega)) (.bind sf1 (.ff hsf (.bind (ev_inner a _ (by omega)) (.bind ((ev_aSum2 a _ ha hfx (by omega) hsm (ho' hS)).to hdw) (.ff rfl (.bind ((hcA _).to hj2) (.ck (by omega) (.ck (by omega) (.bind (ev_told2 hdk) (.ff ?_ (.pure _))))))))))))
        rw [hv, eqS_self]
        rfl
    refine .step (fun k => flat_CheckTotals_eq k _ _) (.bind y2 (.ff (by rw [hy]; rfl) (.ff hT' (.bind hA (.ck (by omega) (.ck (by omega) ?_))))))
    rw [hw, last_row]
    cases hC : eB a.2.2.2.2.2.1 with
    | true =>
      have hC' : eqS a.2.2.2.2.2.1 (bs []) = true := hC
      have n1 : (!(eqS a.2.2.2.2.2.1 (bs []))) = false := by rw [hC']; rfl
      exact .bind (.ff n1 (.pure 0)) (.tt (by rw [n1]; rfl) (.tt (by rw [n1]; rfl) (.bind (.ff n1 (.pure [])) (.bind (.ff n1 (.pure _)) (.ff (by rw [n1]; rfl) sum)))))
    | false =>
      have hC' : eqS a.2.2.2.2.2.1 (bs []) = false := hC
      have n1 : (!(eqS a.2.2.2.2.2.1 (bs []))) = true := by rw [hC']; rfl
      obtain ⟨i, hi, hi2⟩ := he.c hC
      have hIt : Ev (fun k => strconv_Itoa k ((midL a (rs ++ [x])).length : Int)) (B (Lib.itoa ((midL a (rs ++ [x])).length : Int))) := ev_Itoa (by omega) (by omega)
      have hv : x.2.getD ((i : Nat) : Int).toNat (bs []) = B (Lib.itoa ((midL a (rs ++ [x])).length : Int)) := by
        have e : x = (tl.1, ((setS a (a.2.2.1[t]'he.lt) d tl).2).set i (B (Lib.itoa ((midL a l).length : Int)))) := by
          rw [hx, setC_f hC hi2]
          exact Prod.ext (setS_1 ..).1 rfl
        rw [hmid, e]
        simp only [Int.toNat_natCast]
        have hil : i < (setS a (a.2.2.1[t]'he.lt) d tl).2.length := by rw [(setS_1 ..).2, hE.len he.lt]; exact hi
        rw [List.getD_eq_getElem?_getD, List.getElem?_set_self hil]
        rfl
      refine .bind (.tt n1 ((hcA _).to hi2)) (.tt (bor' fun _ => by simp) (.tt (bor' fun _ => decide_eq_true (by omega)) (.bind (.tt n1 (ev_inner1 a _ (by omega))) (.bind (.tt n1 hIt) (.ff ?_ sum)))))
      rw [n1, hv, eqS_self]
      rfl
end Go.Proofs.YtgoepklennckmaaGreatDoor.Eq
namespace Go.Proofs.YtgoepklennckmaaGreatDoor.Eq
open Go Go.Ra
set_option linter.unusedVariables false
abbrev nArt : ByteArray := bs [97, 114, 116, 105, 99, 108, 101]
abbrev nQua : ByteArray := bs [113, 117, 97, 110, 116, 105, 116, 121]
abbrev nMany : ByteArray := bs [109, 97, 110, 121]
abbrev cArt (f : Int) : Col := (nArt, (1, (40, (0, (0, (false, (f, false)))))))
abbrev cQua (r : Bool) (f : Int) : Col := (nQua, (2, (20, (3, (0, (r, (f, false)))))))
abbrev cMany (r : Bool) (f : Int) : Col := (nMany, (2, (10, (0, (0, (r, (f, false)))))))
abbrev kL (r : Bool) (f g : Int) : Knd := (bs [76], ([cArt g, cQua r f], (0, bs [])))
abbrev kT (r : Bool) (f : Int) : Knd := (bs [84], ([cMany r f, cQua r f], (0, bs [])))
abbrev fmtO (m : Int) (r : Bool) (f g : Int) : Fmt := (m, (0, ([kL r f g, kT r f], (bs [], (bs [84], (nMany, nQua))))))
def F0 : Fmt := fmtO 0 true 48 32
def FS : Fmt := fmtO 59 false 0 0
theorem fmt_F0 : fmtF F0 = 0 := by decide +kernel
theorem fmt_FS : fmtF FS = 0 := by decide +kernel
theorem fit_F0 : FitF F0 := ⟨by decide, by decide, by decide⟩
theorem fit_FS : FitF FS := ⟨by decide, by decide, by decide⟩
end Go.Proofs.YtgoepklennckmaaGreatDoor.Eq
namespace Go.Proofs.YtgoepklennckmaaGreatDoor.Eq
open Go Go.Ra
set_option linter.unusedVariables false
theorem least_self {d : Int × Int} (h : d.2 ≤ 0 ∨ d.1.tmod 10 ≠ 0) : Ev (fun k => amount_Least k d) d := by
  have hc : (cond (decide (d.2 > 0)) ((d.1.tmod 10) == 0) false) = false := by
    rcases h with h | h
    · rw [decide_eq_false (by omega)]; rfl
    · have : (d.1.tmod 10 == 0) = false := by simpa using h
      rw [this]
      cases decide (d.2 > 0) <;> rfl
  exact .step (fun k => amount_Least_eq k _) (.step (fun k => amount_Least_c1_eq k _ _) (.tt (bor' fun _ => rfl) (.ff hc (.pure _))))
theorem txL_mem {d : Int × Int} {x : UInt8} (hx : x ∈ txL d) : x = 45 ∨ x = 46 ∨ dgB x = true := by
  unfold txL at hx
  rw [List.mem_append, List.mem_append] at hx
  rcases hx with (hx | hx) | hx
  · split at hx
    · exact .inl (List.mem_singleton.1 hx)
    · simp at hx
  · exact .inr (.inr (befL_dg _ _ _ hx))
  · split at hx
    · simp at hx
    · rcases List.mem_cons.1 hx with h | h
      · exact .inr (.inl h)
      · exact .inr (.inr (behL_dg _ _ _ h))
theorem txL_no {d : Int × Int} {c : UInt8} (h1 : c ≠ 45) (h2 : c ≠ 46) (h3 : dgB c = false) : c ∉ txL d := fun hx => by
  rcases txL_mem hx with h | h | h
  · exact h1 h
  · exact h2 h
  · rw [h3] at h; cases h
theorem txL_len {d : Int × Int} (h : okD d) (h0 : 0 ≤ d.1) : (txL d).length ≤ 17 := by
  obtain ⟨h1, h2, h3⟩ := okD_nat h
  have := ptL_le d.1.natAbs d.2.toNat (dec16 h1) h2
  have hb := behL_len d.1.natAbs d.2.toNat
  have hp := ptL_len d.1.natAbs d.2.toNat
  unfold txL
  rw [if_neg (by omega), List.nil_append, List.length_append]
  have e : (befL d.1.natAbs d.2.toNat).length + d.2.toNat ≤ 16 := by
    unfold befL
    rw [List.length_take]
    omega
  split
  · simp only [List.length_nil]; omega
  · rw [List.length_cons, hb]; omega
theorem txL_nat (n : Nat) : txL ((n : Int), 0) = Lib.decDigits n := by
  have h1 : 1 ≤ (Lib.decDigits n).length := by
    obtain ⟨hdg, _⟩ := dec_dig n
    unfold digB at hdg
    cases h : Lib.decDigits n with
    | nil => rw [h] at hdg; simp at hdg
    | cons => simp
  have e : ptL n 0 = Lib.decDigits n := by
    unfold ptL
    rw [show 0 + 1 - (Lib.decDigits n).length = 0 by omega]
    rfl
  unfold txL befL
  simp only [Int.natAbs_natCast]
  rw [if_neg (by omega), if_pos trivial, List.nil_append, List.append_nil, show (0 : Int).toNat = 0 from rfl, e, Nat.sub_zero, List.take_length]
theorem vf_num {a : Fmt} {b : Col} {d : Int × Int} (hb : ColOk a.1 b) (h2 : b.2.1 = 2) (hn : NumV b d) (hm : a.1 = 0 → ((Lib.itoa (sc d b.2.2.2.1)).length : Int) ≤ b.2.2.1) (hs : a.1 ≠ 0 → a.1 = 59 ∧ ((txL d).length : Int) ≤ b.2.2.1) : VF a b (B (txL d)) := by
  have hne : eqS (B (txL d)) (bs []) = false := B_ne (tx_ne hn.ok)
  have hv : (B (txL d)).size ≤ 140737488351232 := by rw [size_B]; exact txL_small hn.ok
  refine ⟨fun h => (by rw [hne] at h; cases h), fun _ => isV_num hn h2, fun _ w hw => ?_, fun _ h1 _ => ?_⟩
  · obtain ⟨w', w1, _, _, w4, w5⟩ := ev_wrF a b hb (B (txL d)) hv hne (isV_num hn h2)
    have e := Ev.uniq hw w1
    subst e
    by_cases h : a.1 = 0
    · have := w5 h2 h
      rw [L_B, rtx_back hn.ok] at this
      rw [this, size_B]
      exact hm h
    · rw [w4 h2 h, size_B]
      exact (hs h).2
  · rw [L_B, (hs h1).1, indexByte_none (txL_no (by decide) (by decide) (by decide))]
    decide
theorem vf_text {a : Fmt} {b : Col} {v : ByteArray} (hb : ColOk a.1 b) (h1 : b.2.1 = 1) (hne : eqS v (bs []) = false) (hv : plB (L v) = true) (hl : (v.size : Int) ≤ b.2.2.1) (hs : a.1 ≠ 0 → a.1 = 59 ∧ (59 : UInt8) ∉ L v) : VF a b v := by
  have hw2 := hb.w2
  refine ⟨fun h => (by rw [hne] at h; cases h), fun _ => ⟨fun q => by omega, fun q => by omega, fun _ _ => hv⟩, fun _ w hw => ?_, fun _ h _ => ?_⟩
  · obtain ⟨w', w1, _, w3, _⟩ := ev_wrF a b hb v (by omega) hne ⟨fun q => by omega, fun q => by omega, fun _ _ => hv⟩
    have e := Ev.uniq hw w1
    subst e
    rw [w3 (by omega) (by omega)]
    exact hl
  · rw [(hs h).1]
    have := indexByte_none (hs h).2
    rw [show ((59 : Int).toNat.toUInt8) = 59 from rfl, this]
    decide
structure ArtOk (v : ByteArray) : Prop where
  ne : eqS v (bs []) = false
  len : v.size ≤ 40
  pl : plB (L v) = true
  no : (59 : UInt8) ∉ L v
structure QuaOk (d : Int × Int) : Prop where
  ok : okD d
  least : Ev (fun k => amount_Least k d) d
  nn : 0 ≤ d.1
  pl : d.2 ≤ 3
  big : sc d 3 ≤ 1000000000000000
abbrev rowL (v : ByteArray) (d : Int × Int) : Row := (bs [76], [v, B (txL d)])
abbrev rowT (n : Nat) (d : Int × Int) : Row := (bs [84], [B (Lib.itoa (n : Int)), B (txL d)])
theorem ok_F0 : FmtOk F0 := fmt_ok fmt_F0
theorem ok_FS : FmtOk FS := fmt_ok fmt_FS
theorem col_A0 : ColOk F0.1 (cArt 32) := ok_F0.col (kL true 48 32) (by simp [F0]) _ (by simp)
theorem col_Q0 : ColOk F0.1 (cQua true 48) := ok_F0.col (kL true 48 32) (by simp [F0]) _ (by simp)
theorem col_M0 : ColOk F0.1 (cMany true 48) := ok_F0.col (kT true 48) (by simp [F0]) _ (by simp)
theorem col_AS : ColOk FS.1 (cArt 0) := ok_FS.col (kL false 0 0) (by simp [FS]) _ (by simp)
theorem col_QS : ColOk FS.1 (cQua false 0) := ok_FS.col (kL false 0 0) (by simp [FS]) _ (by simp)
theorem col_MS : ColOk FS.1 (cMany false 0) := ok_FS.col (kT false 0) (by simp [FS]) _ (by simp)
theorem QuaOk.num {d : Int × Int} (h : QuaOk d) (r : Bool) (f : Int) : NumV (cQua r f) d := ⟨h.ok, h.least, h.nn, h.pl, h.big⟩
theorem num_many (n : Nat) (hn : n ≤ 2000) (r : Bool) (f : Int) : NumV (cMany r f) ((n : Int), 0) := by
  refine ⟨⟨by simp only; omega, by simp only; omega, by simp, by simp⟩, least_self (.inl (by simp)), by simp, by simp, ?_⟩
  unfold sc
  simp
  omega
theorem qua_len {d : Int × Int} (h : QuaOk d) : ((Lib.itoa (sc d 3)).length : Int) ≤ 20 := by
  have h0 : 0 ≤ sc d 3 := Int.mul_nonneg h.nn (Int.pow_nonneg (by omega))
  have := itoa_len (k := 16) h0 (by decide) (by have := h.big; omega)
  omega
theorem many_len {n : Nat} (hn : n ≤ 2000) : ((Lib.itoa (sc ((n : Int), 0) 0)).length : Int) ≤ 10 := by
  have e : sc ((n : Int), 0) 0 = (n : Int) := by unfold sc; simp
  rw [e]
  have := itoa_len (k := 10) (show (0 : Int) ≤ (n : Int) by omega) (by decide) (by omega)
  omega
theorem itoa_tx (n : Nat) : B (Lib.itoa (n : Int)) = B (txL ((n : Int), 0)) := by rw [txL_nat, itoa_nat]
theorem vfQ0 {d : Int × Int} (h : QuaOk d) : VF F0 (cQua true 48) (B (txL d)) := vf_num col_Q0 rfl (h.num _ _) (fun _ => qua_len h) (fun z => absurd rfl z)
theorem vfQS {d : Int × Int} (h : QuaOk d) : VF FS (cQua false 0) (B (txL d)) := vf_num col_QS rfl (h.num _ _) (fun z => absurd z (by decide)) (fun _ => ⟨rfl, by have := txL_len h.ok h.nn; simp only; omega⟩)
theorem vfM0 {n : Nat} (h : n ≤ 2000) : VF F0 (cMany true 48) (B (Lib.itoa (n : Int))) := by
  rw [itoa_tx]
  exact vf_num col_M0 rfl (num_many n h _ _) (fun _ => many_len h) (fun z => absurd rfl z)
theorem vfMS {n : Nat} (h : n ≤ 2000) : VF FS (cMany false 0) (B (Lib.itoa (n : Int))) := by
  rw [itoa_tx]
  refine vf_num col_MS rfl (num_many n h _ _) (fun z => absurd z (by decide)) (fun _ => ⟨rfl, ?_⟩)
  rw [txL_nat, ← itoa_nat]
  have := itoa_len (k := 10) (show (0 : Int) ≤ (n : Int) by omega) (by decide) (by omega)
  simp only
  omega
theorem vfA0 {v : ByteArray} (h : ArtOk v) : VF F0 (cArt 32) v := vf_text col_A0 rfl h.ne h.pl (by have := h.len; simp only; omega) (fun z => absurd rfl z)
theorem vfAS {v : ByteArray} (h : ArtOk v) : VF FS (cArt 0) v := vf_text col_AS rfl h.ne h.pl (by have := h.len; simp only; omega) (fun z => ⟨rfl, h.no⟩)
theorem two {P : Nat → Prop} (h0 : P 0) (h1 : P 1) : ∀ j, j < 2 → P j
  | 0, _ => h0
  | 1, _ => h1
  | j + 2, h => absurd h (by omega)
theorem kL0 : kOf F0.2.2.1 (bs [76]) = ((0 : Nat) : Int) := by decide +kernel
theorem kT0 : kOf F0.2.2.1 (bs [84]) = ((1 : Nat) : Int) := by decide +kernel
theorem kLS : kOf FS.2.2.1 (bs [76]) = ((0 : Nat) : Int) := by decide +kernel
theorem kTS : kOf FS.2.2.1 (bs [84]) = ((1 : Nat) : Int) := by decide +kernel
theorem rvL0 {v : ByteArray} {d : Int × Int} (hv : ArtOk v) (hd : QuaOk d) : RowVF F0 (rowL v d) := ⟨0, by decide, kL0, rfl, fun j hj hj' => match j, hj, hj' with
  | 0, _, _ => vfA0 hv
  | 1, _, _ => vfQ0 hd
  | j + 2, h, _ => absurd h (by simp)⟩
theorem rvT0 {n : Nat} {d : Int × Int} (hn : n ≤ 2000) (hd : QuaOk d) : RowVF F0 (rowT n d) := ⟨1, by decide, kT0, rfl, fun j hj hj' => match j, hj, hj' with
  | 0, _, _ => vfM0 hn
  | 1, _, _ => vfQ0 hd
  | j + 2, h, _ => absurd h (by simp)⟩
theorem rvLS {v : ByteArray} {d : Int × Int} (hv : ArtOk v) (hd : QuaOk d) : RowVF FS (rowL v d) := ⟨0, by decide, kLS, rfl, fun j hj hj' => match j, hj, hj' with
  | 0, _, _ => vfAS hv
  | 1, _, _ => vfQS hd
  | j + 2, h, _ => absurd h (by simp)⟩
theorem rvTS {n : Nat} {d : Int × Int} (hn : n ≤ 2000) (hd : QuaOk d) : RowVF FS (rowT n d) := ⟨1, by decide, kTS, rfl, fun j hj hj' => match j, hj, hj' with
  | 0, _, _ => vfMS hn
  | 1, _, _ => vfQS hd
  | j + 2, h, _ => absurd h (by simp)⟩
end Go.Proofs.YtgoepklennckmaaGreatDoor.Eq
namespace Go.Proofs.YtgoepklennckmaaGreatDoor.Eq
open Go Go.Ra
set_option linter.unusedVariables false
theorem art_small {v : ByteArray} (h : ArtOk v) : v.size ≤ 140737488351232 := by have := h.len; omega
theorem qua_small {d : Int × Int} (h : QuaOk d) : (B (txL d)).size ≤ 140737488351232 := by rw [size_B]; exact txL_small h.ok
theorem fitL {v : ByteArray} {d : Int × Int} (hv : ArtOk v) (hd : QuaOk d) : FitR (rowL v d) := ⟨by simp, fun c hc => by
  simp only [List.mem_cons, List.not_mem_nil, or_false] at hc
  rcases hc with rfl | rfl
  · exact art_small hv
  · exact qua_small hd⟩
theorem fitT {n : Nat} {d : Int × Int} (hn : n ≤ 2000) (hd : QuaOk d) : FitR (rowT n d) := ⟨by simp, fun c hc => by
  simp only [List.mem_cons, List.not_mem_nil, or_false] at hc
  rcases hc with rfl | rfl
  · exact itoa_short n (by omega)
  · exact qua_small hd⟩
theorem fld_A {v : ByteArray} (h : ArtOk v) : FieldOk F0 (cArt 32) v (L v ++ List.replicate (40 - v.size) 32) :=
  ev_fieldText F0 (cArt 32) v rfl col_A0 rfl rfl rfl h.ne h.pl (by have := h.len; simp only; omega)
theorem fld_Q {d : Int × Int} (h : QuaOk d) : ∃ w, FieldOk F0 (cQua true 48) (B (txL d)) w :=
  ⟨_, ev_fieldNum F0 (cQua true 48) d rfl col_Q0 rfl rfl rfl (h.num _ _) (qua_len h)⟩
theorem fld_M {n : Nat} (h : n ≤ 2000) : ∃ w, FieldOk F0 (cMany true 48) (B (Lib.itoa (n : Int))) w := by
  rw [itoa_tx]
  exact ⟨_, ev_fieldNum F0 (cMany true 48) ((n : Int), 0) rfl col_M0 rfl rfl rfl (num_many n h _ _) (many_len h)⟩
theorem flds2 {a : Fmt} {b c : Col} {v x : ByteArray} {w y : List UInt8} (h1 : FieldOk a b v w) (h2 : FieldOk a c x y) (hb : 1 ≤ b.2.2.1 ∧ b.2.2.1 ≤ 100) (hc : 1 ≤ c.2.2.1 ∧ c.2.2.1 ≤ 100) : FldsOk a [b, c] [v, x] [w, y] :=
  ⟨by simp, rfl, rfl, fun z hz => by
    simp only [List.mem_cons, List.not_mem_nil, or_false] at hz
    rcases hz with rfl | rfl
    · exact hb
    · exact hc, fun i hi hv hw => match i, hi, hv, hw with
    | 0, _, _, _ => h1
    | 1, _, _, _ => h2
    | j + 2, h, _, _ => absurd h (by simp)⟩
theorem chk_of {r : Row} (hf : FitR r) (h : RowVF F0 r) : ∃ y : Int × Int, Ev (fun k => flat_checkRow k F0 r) y ∧ y.2 = 0 := by
  obtain ⟨y, y1, _, y3⟩ := ev_rowVF F0 r fit_F0 ok_F0 hf
  exact ⟨y, y1, y3 h⟩
theorem line2 {r : Row} {i : Nat} {b c : Col} {v x : ByteArray} {w y : List UInt8} (hi : i < F0.2.2.1.length) (hk : kOf F0.2.2.1 r.1 = (i : Int)) (hs : r.1.size = 1) (h10 : (10 : UInt8) ∉ L r.1) (hcs : (F0.2.2.1[i]).2.1 = [b, c]) (hvs : r.2 = [v, x])
    (h1 : FieldOk F0 b v w) (h2 : FieldOk F0 c x y) (hb : 1 ≤ b.2.2.1 ∧ b.2.2.1 ≤ 100) (hc : 1 ≤ c.2.2.1 ∧ c.2.2.1 ≤ 100) (hf : FitR r) (hv : RowVF F0 r) : ∃ l, LineOk F0 r l := by
  have hfl : FldsOk F0 (F0.2.2.1[i]).2.1 r.2 [w, y] := by
    rw [hcs, hvs]
    exact flds2 h1 h2 hb hc
  have l1 := h1.len
  have l2 := h2.len
  have e : ([w, y] : List (List UInt8)).flatten = w ++ y := by simp
  have hwl : (w ++ y).length ≤ 200 := by rw [List.length_append]; omega
  have hw := ev_lineOf0 F0 r i fit_F0 rfl hi hk [w, y] hfl (by omega)
  have hr := ev_readLine0 F0 r i fit_F0 rfl hi hk [w, y] hfl (by omega) (by rw [hs]; rfl) (chk_of hf hv) (by rw [e]; omega)
  rw [e] at hw hr
  refine ⟨_, chk_of hf hv, hw, hr, fun q => ?_, ?_⟩
  · rcases List.mem_append.1 q with q | q
    · exact h10 q
    · rcases List.mem_append.1 q with q | q
      · exact h1.no10 q
      · exact h2.no10 q
  · rw [List.length_append, ← size_L, hs]; omega
theorem line_L {v : ByteArray} {d : Int × Int} (hv : ArtOk v) (hd : QuaOk d) : ∃ l, LineOk F0 (rowL v d) l := by
  obtain ⟨w, hw⟩ := fld_Q hd
  exact line2 (i := 0) (by decide) kL0 rfl (show (10 : UInt8) ∉ L (bs [76]) by decide) rfl rfl (fld_A hv) hw (by decide) (by decide) (fitL hv hd) (rvL0 hv hd)
theorem line_T {n : Nat} {d : Int × Int} (hn : n ≤ 2000) (hd : QuaOk d) : ∃ l, LineOk F0 (rowT n d) l := by
  obtain ⟨w, hw⟩ := fld_Q hd
  obtain ⟨x, hx⟩ := fld_M hn
  exact line2 (i := 1) (by decide) kT0 rfl (show (10 : UInt8) ∉ L (bs [84]) by decide) rfl rfl hx hw (by decide) (by decide) (fitT hn hd) (rvT0 hn hd)
open Classical in
noncomputable def lnO (r : Row) : List UInt8 := if h : ∃ w, LineOk F0 r w then Classical.choose h else []
theorem lnO_ok {r : Row} (h : ∃ w, LineOk F0 r w) : LineOk F0 r (lnO r) := by
  unfold lnO
  rw [dif_pos h]
  exact Classical.choose_spec h
theorem fileL_len (f : Row → List UInt8) : ∀ l : List Row, (∀ r ∈ l, (f r).length ≤ 900) → (fileL f l).length ≤ 901 * l.length
  | [], _ => by simp [fileL]
  | r :: l, h => by
    rw [fileL_cons, List.length_append, List.length_cons, List.length_cons]
    have h1 := h r (by simp)
    have h2 := fileL_len f l (fun x hx => h x (by simp [hx]))
    omega
theorem ev_file (l : List Row) (hn : l.length ≤ 550) (hl : ∀ r ∈ l, ∃ w, LineOk F0 r w) : ∃ t : ByteArray, Ev (fun k => flat_Write k F0 l) (t, (0, (0, 0))) ∧ Ev (fun k => flat_Read k F0 t) (l, (0, (0, 0))) := by
  have hf := (ev_CheckFormat F0 fit_F0).to fmt_F0
  have hlen := fileL_len lnO l fun r hr => (lnO_ok (hl r hr)).len
  exact ⟨_, ev_Write0 F0 lnO l hf (by omega) (fun r hr => lnO_ok (hl r hr)) (by omega), ev_Read0 F0 lnO l hf (by omega) (fun r hr => lnO_ok (hl r hr)) (by omega)⟩
end Go.Proofs.YtgoepklennckmaaGreatDoor.Eq
namespace Go.Proofs.YtgoepklennckmaaGreatDoor.Eq
open Go Go.Ra
set_option linter.unusedVariables false
structure OrdF (a : Fmt) : Prop where
  f0 : fmtF a = 0
  fit : FitF a
  lt : 1 < a.2.2.1.length
  kL : kOf a.2.2.1 (bs [76]) = ((0 : Nat) : Int)
  kT : kOf a.2.2.1 (bs [84]) = ((1 : Nat) : Int)
  hd : a.2.2.2.1 = bs []
  tl : a.2.2.2.2.1 = bs [84]
  ct : a.2.2.2.2.2.1 = nMany
  sm : a.2.2.2.2.2.2 = nQua
  lL : (a.2.2.1[0]).2.1.length = 2
  lT : (a.2.2.1[1]).2.1.length = 2
  cT : cOf (a.2.2.1[1]).2.1 nMany = ((0 : Nat) : Int)
  cS : cOf (a.2.2.1[1]).2.1 nQua = ((1 : Nat) : Int)
  cL : cOf (a.2.2.1[0]).2.1 nQua = ((1 : Nat) : Int)
  nL : (((a.2.2.1[0]).2.1.getD 1 col0).2.1 != 2) = false
  tags : (a.2.2.1[0]).2.2.1 = 0 ∧ (a.2.2.1[0]).2.2.2 = bs [] ∧ (a.2.2.1[1]).2.2.1 = 0 ∧ (a.2.2.1[1]).2.2.2 = bs []
theorem ord_F0 : OrdF F0 := ⟨fmt_F0, fit_F0, by decide, kL0, kT0, rfl, rfl, rfl, rfl, rfl, rfl, by decide +kernel, by decide +kernel, by decide +kernel, rfl, ⟨rfl, rfl, rfl, rfl⟩⟩
theorem ord_FS : OrdF FS := ⟨fmt_FS, fit_FS, by decide, kLS, kTS, rfl, rfl, rfl, rfl, rfl, rfl, by decide +kernel, by decide +kernel, by decide +kernel, rfl, ⟨rfl, rfl, rfl, rfl⟩⟩
theorem OrdF.ends {a : Fmt} (h : OrdF a) : EndsF a 1 := by
  refine ⟨h.lt, by rw [h.tl]; exact h.kT, fun _ => ⟨0, by rw [h.lT]; decide, by rw [h.ct]; exact h.cT⟩, fun _ => ⟨1, by rw [h.lT]; decide, by rw [h.sm]; exact h.cS⟩, fun _ => ?_⟩
  rw [h.ct, h.sm]
  decide +kernel
theorem OrdF.eT {a : Fmt} (h : OrdF a) : eB a.2.2.2.2.1 = false := by rw [h.tl]; decide +kernel
theorem OrdF.eC {a : Fmt} (h : OrdF a) : eB a.2.2.2.2.2.1 = false := by rw [h.ct]; decide +kernel
theorem OrdF.eS {a : Fmt} (h : OrdF a) : eB a.2.2.2.2.2.2 = false := by rw [h.sm]; decide +kernel
theorem OrdF.kaL {a : Fmt} (h : OrdF a) : kAt a.2.2.1 (bs [76]) = (a.2.2.1[0]'(by have := h.lt; omega), true) := kAt_at (by have := h.lt; omega) h.kL
theorem OrdF.kaT {a : Fmt} (h : OrdF a) : kAt a.2.2.1 (bs [84]) = (a.2.2.1[1]'h.lt, true) := kAt_at h.lt h.kT
theorem OrdF.mid {a : Fmt} (h : OrdF a) {r : Row} (hr : r.1 = bs [76]) : midB a r = true := by
  unfold midB
  rw [hr, h.hd, h.tl]
  decide +kernel
theorem OrdF.midl {a : Fmt} (h : OrdF a) {l : List Row} (hl : ∀ r ∈ l, r.1 = bs [76]) : midL a l = l := List.filter_eq_self.2 fun r hr => h.mid (hl r hr)
theorem OrdF.off {a : Fmt} (h : OrdF a) {r : Row} (hr : r.1 = bs [76]) : offT a nQua r = false := by
  unfold offT
  rw [hr, h.kaL, h.cL]
  exact h.nL
theorem OrdF.val {a : Fmt} (h : OrdF a) {r : Row} (hr : r.1 = bs [76]) : valT a nQua r = r.2.getD 1 (bs []) := by
  unfold valT valN
  rw [hr, h.kaL, h.cL, if_pos (by omega)]
  rfl
theorem OrdF.tail {a : Fmt} (h : OrdF a) (n : Nat) (d : Int × Int) : setC a (a.2.2.1[1]'h.lt) n (setS a (a.2.2.1[1]'h.lt) d (a.2.2.2.2.1, List.replicate (((a.2.2.1[1]'h.lt).2.1.length : Nat) : Int).toNat (bs []))) = rowT n d := by
  rw [setS_f h.eS (i := 1) (by rw [h.sm]; exact h.cS), setC_f h.eC (i := 0) (by rw [h.ct]; exact h.cT), h.lT, h.tl]
  rfl
theorem OrdF.row {a : Fmt} (h : OrdF a) {l : List Row} (hl : ∀ r ∈ l, r.1 = bs [76]) {c : Nat} {x : Row} (hx : x.1 = bs [84]) (hc : c < (l ++ [x]).length) (hn : l.length ≤ 2000) : Ev (fun k => flat_rowOrder k a (l ++ [x]) (c : Int)) 0 := by
  have hlen : (l ++ [x]).length = l.length + 1 := by simp
  have h1 : eqS a.2.2.2.1 (bs []) = true := by rw [h.hd]; exact eqS_self _
  have h2 : eqS a.2.2.2.2.1 (bs []) = false := h.eT
  have hw : wi64 (((l ++ [x]).length : Int) - 1) = (l.length : Int) := by rw [wi64_id (by omega) (by omega)]; omega
  obtain ⟨t1, t2, t3, t4⟩ := h.tags
  refine .step (fun k => flat_rowOrder_eq k _ _ _) (.ck (by omega) (.ck (by omega) ?_))
  rw [getD_at hc, hw]
  refine .ff (by rw [h1]; rfl) ?_
  by_cases hcl : c < l.length
  · have e : (l ++ [x])[c] = l[c] := List.getElem_append_left hcl
    have et : ((l ++ [x])[c]).1 = bs [76] := by rw [e]; exact hl _ (List.getElem_mem hcl)
    have hA : Ev (fun k => flat_kindAt k a ((l ++ [x])[c]).1) (a.2.2.1[0]'(by have := h.lt; omega), true) := by
      rw [et]
      exact (ev_kindAt a _ h.fit.n).to h.kaL
    refine .ff ?_ (.bind hA (.ff ?_ (.tt ?_ (.pure _))))
    · rw [et, h.tl, show eqS (bs [76]) (bs [84]) = false from by decide +kernel]
      cases (!(eqS (bs [84]) (bs []))) <;> rfl
    · rw [t2, eqS_self]; rfl
    · rw [t1]; rfl
  · have hce : c = l.length := by omega
    subst hce
    have e : (l ++ [x])[l.length] = x := by simp
    have et : ((l ++ [x])[l.length]).1 = bs [84] := by rw [e]; exact hx
    have hA : Ev (fun k => flat_kindAt k a ((l ++ [x])[l.length]).1) (a.2.2.1[1]'h.lt, true) := by
      rw [et]
      exact (ev_kindAt a _ h.fit.n).to h.kaT
    refine .ff ?_ (.bind hA (.ff ?_ (.tt ?_ (.pure _))))
    · rw [show ((l.length : Int) != (l.length : Int)) = false from by simp]
      cases (cond (!(eqS a.2.2.2.2.1 (bs []))) (eqS ((l ++ [x])[l.length]).1 a.2.2.2.2.1) false) <;> rfl
    · rw [t4, eqS_self]; rfl
    · rw [t3]; rfl
theorem OrdF.order {a : Fmt} (h : OrdF a) {l : List Row} (hl : ∀ r ∈ l, r.1 = bs [76]) {x : Row} (hx : x.1 = bs [84]) (hn : l.length ≤ 2000) (hf : FitRs (l ++ [x])) (hv : ∀ r ∈ l ++ [x], RowVF a r) : Ev (fun k => flat_CheckOrder k a (l ++ [x])) (0, 0) := by
  have hok := fmt_ok h.f0
  have hlen : (l ++ [x]).length = l.length + 1 := by simp
  have hw : wi64 (((l ++ [x]).length : Int) - 1) = ((l.length : Nat) : Int) := by rw [wi64_id (by omega) (by omega)]; omega
  obtain ⟨c, c1, _, c3⟩ := ev_rowsVF a (l ++ [x]) h.fit hok hf
  have h2 : eqS a.2.2.2.2.1 (bs []) = false := h.eT
  have key := ev_up (l ++ [x]).length (fun _ => ((0 : Int), (0 : Int))) (fun k i => flat_checkOrder_c5 k (l ++ [x]) a ((l ++ [x]).length : Int) i)
    (fun i hi ih => .step (fun k => flat_checkOrder_c5_eq k _ _ _ _) (.ck (by omega) (.bind (h.row hl hx hi hn) (.ff rfl (by
      rw [show wi64 ((i : Int) + 1) = ((i + 1 : Nat) : Int) by rw [wi64_id (by omega) (by omega)]; omega]
      exact ih)))))
    (.step (fun k => flat_checkOrder_c5_eq k _ _ _ _) (.nk (by omega) (.tt (bor' fun _ => by rw [hw]; exact decide_eq_true (by omega)) (.tt (bor' fun _ => by rw [hw]; exact decide_eq_true (by omega)) (.ff (by
      rw [hw, last_row, hx, h.tl, eqS_self, show (((l ++ [x]).length : Int) == 0) = false by simp; omega]
      cases (!(eqS (bs [84]) (bs []))) <;> rfl) (.pure _))))))
  exact .step (fun k => flat_CheckOrder_eq k _ _) (.bind ((ev_CheckFormat a h.fit).to h.f0) (.ff rfl (.ret (.step (fun k => flat_checkOrder_eq k _ _) (.bind c1 (.ff (by rw [c3 hv]; rfl) key))) rfl)))
theorem OrdF.closed {a : Fmt} (h : OrdF a) {l : List Row} (hl : ∀ r ∈ l, r.1 = bs [76]) (hpos : 0 < l.length) (hn : l.length ≤ 1000) (hf : FitRs l) (hv : ∀ r ∈ l, RowVF a r) {d : Int × Int} (hd : okD d) (hs : fwF 9 (sumL (l.map fun r => r.2.getD 1 (bs []))) = (d, 0)) (hvx : RowVF a (rowT l.length d)) (hfx : FitR (rowT l.length d)) :
    Ev (fun k => flat_Closed k a l) (l ++ [rowT l.length d], 0) ∧ Ev (fun k => flat_CheckTotals k a (l ++ [rowT l.length d])) (0, 0) := by
  have hok := fmt_ok h.f0
  have he := h.ends
  have hT' : eqS a.2.2.2.2.1 (bs []) = false := h.eT
  have hmid : midL a l = l := h.midl hl
  have hmap : (midL a l).map (valT a a.2.2.2.2.2.2) = l.map fun r => r.2.getD 1 (bs []) := by
    rw [hmid, h.sm]
    exact List.map_congr_left fun r hr => h.val (hl r hr)
  have ho : eB a.2.2.2.2.2.2 = false → ∀ r ∈ midL a l, offT a a.2.2.2.2.2.2 r = false := fun _ r hr => by
    rw [h.sm]
    rw [hmid] at hr
    exact h.off (hl r hr)
  have hdd : eB a.2.2.2.2.2.2 = false → okD d ∧ fwF 9 (sumL ((midL a l).map (valT a a.2.2.2.2.2.2))) = (d, 0) := fun _ => ⟨hd, by rw [hmap]; exact hs⟩
  have hx : rowT l.length d = setC a (a.2.2.1[1]'he.lt) (midL a l).length (setS a (a.2.2.1[1]'he.lt) d (a.2.2.2.2.1, List.replicate (((a.2.2.1[1]'he.lt).2.1.length : Nat) : Int).toNat (bs []))) := by
    rw [hmid]
    exact (h.tail _ _).symm
  obtain ⟨Y, Y1, _, Y3⟩ := ev_rowVF a (rowT l.length d) h.fit hok hfx
  have hY0 := Y3 hvx
  have hE : ClosF a l 1 (a.2.2.2.2.1, List.replicate (((a.2.2.1[1]'he.lt).2.1.length : Nat) : Int).toNat (bs [])) l := ⟨h.f0, h.eT, by omega, hv, rfl, fun _ => by simp only [List.length_replicate, Int.toNat_natCast], rep_fitF _ _ (by rw [h.lT]; decide), hf, by omega, fun r hr => hr, rfl⟩
  obtain ⟨_, hfl, y, hy, hyt⟩ := ev_again a l h.fit hf he hE ho hdd hx hfx Y1 hY0 (by omega)
  have hvl : ∀ r ∈ l ++ [rowT l.length d], RowVF a r := fun r hr => by
    rcases List.mem_append.1 hr with hr | hr
    · exact hv r hr
    · rw [List.mem_singleton.1 hr]; exact hvx
  have hy0 := Ev.uniq hy (h.order hl (x := rowT l.length d) rfl (by omega) hfl hvl)
  refine ⟨?_, hyt (by rw [hy0])⟩
  have hlast : wi64 ((l.length : Int) - 1) = (l.length : Int) - 1 := wi64_id (by omega) (by omega)
  have hA : Ev (fun k => flat_kindAt k a a.2.2.2.2.1) (a.2.2.1[1]'he.lt, true) := (ev_kindAt a _ h.fit.n).to (kAt_at he.lt he.k)
  have b1 : ((!(decide ((l.length : Int) > 0))) || (decide (0 ≤ (wi64 ((l.length : Int) - 1))))) = true := bor' fun w => by
    rw [hlast]
    exact decide_eq_true (by omega)
  have b2 : ((!(decide ((l.length : Int) > 0))) || (decide ((wi64 ((l.length : Int) - 1)) < (l.length : Int)))) = true := bor' fun w => by
    rw [hlast]
    exact decide_eq_true (by omega)
  obtain ⟨sf, sf1, sf2⟩ := ev_sumFault a (midL a l) h.fit (by have := mid_len a l; omega)
  have hsf : sf = false := sf2.2 (.inr (ho h.eS))
  obtain ⟨c, c1, _, c3⟩ := ev_rowsVF a l h.fit hok hf
  have hL : (cond (decide ((l.length : Int) > 0)) (eqS ((l.getD (wi64 ((l.length : Int) - 1)).toNat row0).1) a.2.2.2.2.1) false) = false := by
    have hp : l.length - 1 < l.length := by omega
    have hw : wi64 ((l.length : Int) - 1) = ((l.length - 1 : Nat) : Int) := by rw [hlast]; omega
    rw [hw, getD_at hp, hl _ (List.getElem_mem hp), h.tl, show eqS (bs [76]) (bs [84]) = false from by decide +kernel]
    cases decide ((l.length : Int) > 0) <;> rfl
  have h19 := ev_c19 (l := l) (rs := l) (tl := (a.2.2.2.2.1, List.replicate (((a.2.2.1[1]'he.lt).2.1.length : Nat) : Int).toNat (bs []))) (d := d) (Y := Y) h.fit he (by omega) hf (fun r hr => (hv r hr).sm) ho (hE.len he.lt) (by omega) hf (fun r hr => by
    obtain ⟨i, hi, _, hlen, _⟩ := hv r hr
    have := hok.len _ (List.getElem_mem hi)
    omega) hdd (by rw [← hx]; exact Y1)
  rw [← hx] at h19
  have hend : endY Y l (rowT l.length d) = (l ++ [rowT l.length d], 0) := by
    unfold endY
    rw [if_neg (by rw [hY0]; decide), if_neg (by omega)]
  rw [hend] at h19
  exact .step (fun k => flat_Closed_eq k _ _) (.bind ((ev_CheckFormat a h.fit).to h.f0) (.ff rfl (.ff hT' (.nk (by omega) (.bind c1 (.ff (by rw [c3 hv]; rfl) (.bind (ev_inner a l (by omega)) (.bind sf1 (.ff hsf (.bind hA (.ck (by omega) (.ck (by rw [h.lT]; decide) (.tt b1 (.tt b2 (.ff hL h19)))))))))))))))
end Go.Proofs.YtgoepklennckmaaGreatDoor.Eq
namespace Go.Proofs.YtgoepklennckmaaGreatDoor.Eq
open Go Go.Ra
set_option linter.unusedVariables false
structure LeastOf (q d : Int × Int) : Prop where
  norm : Ev (fun k => interchangeref1_Normal k q) d
  ok : okD d
  least : Ev (fun k => amount_Least k d) d
  nn : 0 ≤ d.1
  pl : d.2 ≤ q.2
  val : ∀ p : Int, q.2 ≤ p → sc d p = sc q p
theorem least_of : ∀ (n : Nat) (q s : Int × Int), okD q → 0 ≤ q.1 → q.2.toNat = n → ∃ d, Ev (fun k => interchangeref1_Normal_c1 k q s) d ∧ okD d ∧ Ev (fun k => amount_Least k d) d ∧ 0 ≤ d.1 ∧ d.2 ≤ q.2 ∧ ∀ p : Int, q.2 ≤ p → sc d p = sc q p := by
  intro n
  induction n with
  | zero =>
    intro d s h h0 hn
    have h2 := h.2.2.1
    exact ⟨d, .step (fun k => interchangeref1_Normal_c1_eq k _ _) (.tt (bor' fun _ => rfl) (.ff (by rw [decide_eq_false (by omega)]; rfl) (.pure _))), h, least_self (.inl (by omega)), h0, by omega, fun _ _ => rfl⟩
  | succ n ih =>
    intro d s h h0 hn
    have h' := h
    unfold okD at h'
    cases hc : (cond (decide (d.2 > 0)) ((d.1.tmod 10) == 0) false) with
    | false =>
      refine ⟨d, .step (fun k => interchangeref1_Normal_c1_eq k _ _) (.tt (bor' fun _ => rfl) (.ff hc (.pure _))), h, least_self (.inr fun z => ?_), h0, by omega, fun _ _ => rfl⟩
      rw [decide_eq_true (by omega), z] at hc
      cases hc
    | true =>
      have hm : d.1.tmod 10 = 0 := by
        rw [decide_eq_true (by omega)] at hc
        simpa using hc
      have hdv : d.1.tdiv 10 * 10 = d.1 := Int.tdiv_mul_cancel_of_tmod_eq_zero hm
      have e1 : wi64 (d.1.tdiv 10) = d.1.tdiv 10 := wi64_id (by omega) (by omega)
      have e2 : wi64 (d.2 - 1) = d.2 - 1 := wi64_id (by omega) (by omega)
      obtain ⟨y, y1, y2, y3, y4, y5, y6⟩ := ih (d.1.tdiv 10, d.2 - 1) s (by unfold okD; simp only; omega) (by simp only; omega) (by simp only; omega)
      refine ⟨y, .step (fun k => interchangeref1_Normal_c1_eq k _ _) (.tt (bor' fun _ => rfl) (.tt hc ?_)), y2, y3, y4, by simp only at y5; omega, fun p hp => ?_⟩
      · rw [e1, e2]; exact y1
      · rw [y6 p (by simp only; omega)]
        unfold sc
        simp only
        rw [show (p - (d.2 - 1)).toNat = (p - d.2).toNat + 1 by omega, Int.pow_succ, Int.mul_comm (10 ^ (p - d.2).toNat), ← Int.mul_assoc, hdv]
theorem least_ex {q : Int × Int} (h : okD q) (h0 : 0 ≤ q.1) : ∃ d, LeastOf q d := by
  obtain ⟨d, h1, h2, h3, h4, h5, h6⟩ := least_of _ q (0, 0) h h0 rfl
  exact ⟨d, .step (fun k => interchangeref1_Normal_eq k _) h1, h2, h3, h4, h5, h6⟩
theorem fw_up (T : Int) (h0 : 0 ≤ T) : ∀ j : Nat, fwF (3 + j) (T * 10 ^ j) = fwF 3 T
  | 0 => by simp
  | j + 1 => by
    have e : T * 10 ^ (j + 1) = (T * 10 ^ j) * 10 := by rw [Int.pow_succ, Int.mul_assoc]
    have hnn : 0 ≤ T * 10 ^ j := Int.mul_nonneg h0 (Int.pow_nonneg (by omega))
    rw [e]
    show fwF ((3 + j) + 1) _ = _
    unfold fwF
    rw [if_pos (by omega), if_neg (by omega), show ((((T * 10 ^ j * 10).natAbs / 10 : Nat)) : Int) = T * 10 ^ j by omega]
    exact fw_up T h0 j
theorem fw_low : ∀ (n : Nat) (S : Int), n ≤ 3 → 0 ≤ S → S * 10 ^ (3 - n) ≤ 1000000000000000 → ∃ d, fwF n S = (d, 0) ∧ QuaOk d ∧ sc d 3 = S * 10 ^ (3 - n)
  | 0, S, _, h0, hb => by
    have hb' : S * 1000 ≤ 1000000000000000 := hb
    refine ⟨(S, 0), ?_, ⟨⟨by simp only; omega, by simp only; omega, by simp, by simp⟩, least_self (.inl (by simp)), h0, by simp, ?_⟩, ?_⟩
    · unfold fwF mk
      rw [if_pos (by omega)]
    · unfold sc
      exact hb'
    · unfold sc
      rfl
  | n + 1, S, hn, h0, hb => by
    have e : (10 : Int) ^ (3 - n) = 10 * 10 ^ (3 - (n + 1)) := by
      rw [show 3 - n = (3 - (n + 1)) + 1 by omega, Int.pow_succ, Int.mul_comm]
    have hp1 : (1 : Int) ≤ 10 ^ (3 - (n + 1)) := by
      have : (0 : Int) < 10 ^ (3 - (n + 1)) := Int.pow_pos (by omega)
      omega
    have hS : S ≤ S * 10 ^ (3 - (n + 1)) := by
      have := Int.mul_le_mul_of_nonneg_left hp1 h0
      omega
    unfold fwF
    by_cases hm : S.natAbs % 10 = 0
    · rw [if_pos hm, if_neg (by omega)]
      have hq : ((S.natAbs / 10 : Nat) : Int) * 10 = S := by omega
      have hv : ((S.natAbs / 10 : Nat) : Int) * 10 ^ (3 - n) = S * 10 ^ (3 - (n + 1)) := by rw [e, ← Int.mul_assoc, hq]
      obtain ⟨d, d1, d2, d3⟩ := fw_low n ((S.natAbs / 10 : Nat) : Int) (by omega) (by omega) (by rw [hv]; exact hb)
      exact ⟨d, d1, d2, by rw [d3, hv]⟩
    · rw [if_neg hm]
      have hsc : sc (S, ((n + 1 : Nat) : Int)) 3 = S * 10 ^ (3 - (n + 1)) := by
        unfold sc
        simp only
        rw [show ((3 : Int) - ((n + 1 : Nat) : Int)).toNat = 3 - (n + 1) by omega]
      refine ⟨(S, ((n + 1 : Nat) : Int)), ?_, ⟨⟨by simp only; omega, by simp only; omega, by simp only; omega, by simp only; omega⟩, least_self (.inr fun z => ?_), h0, by simp only; omega, by rw [hsc]; exact hb⟩, hsc⟩
      · unfold mk
        rw [if_pos (by omega)]
      · have := Int.natAbs_tmod S 10
        simp only at z
        rw [z] at this
        exact hm this.symm
theorem fw_sum {T : Int} (h0 : 0 ≤ T) (hb : T ≤ 1000000000000000) : ∃ d, fwF 9 (T * 1000000) = (d, 0) ∧ QuaOk d ∧ sc d 3 = T := by
  have h := fw_up T h0 6
  obtain ⟨d, d1, d2, d3⟩ := fw_low 3 T (Nat.le_refl _) h0 (by simpa using hb)
  exact ⟨d, h.trans d1, d2, by simpa using d3⟩
end Go.Proofs.YtgoepklennckmaaGreatDoor.Eq
namespace Go.Proofs.YtgoepklennckmaaGreatDoor.Eq
open Go Go.Ra
set_option linter.unusedVariables false
structure Fit3 (a b : Fmt) : Prop where
  k : ∀ kd ∈ a.2.2.1, 0 ≤ kOf b.2.2.1 kd.1
  c : ∀ kd ∈ a.2.2.1, ∀ c ∈ kd.2.1, ∃ j : Nat, ∃ hj : j < (kAt b.2.2.1 kd.1).1.2.1.length, cOf (kAt b.2.2.1 kd.1).1.2.1 c.1 = (j : Int) ∧ ((kAt b.2.2.1 kd.1).1.2.1[j]).2.1 = c.2.1
theorem wj3 {j n : Nat} (hj : j < n) (hn : n < 1125899906842624) : wi64 ((j : Int) + 1) = ((j + 1 : Nat) : Int) := by rw [wi64_id (by omega) (by omega)]; omega
theorem ev_noType3 {a b : Fmt} (ha : FitF a) (hb : FitF b) (hf : Fit3 a b) : Ev (fun k => flat_typeFault k a b) false := by
  refine .step (fun k => flat_typeFault_eq k _ _) ?_
  refine ev_up a.2.2.1.length (fun _ => false) (fun k i => flat_typeFault_c2 k b a.2.2.1 (a.2.2.1.length : Int) i) (fun i hi h => ?_) ?_
  · have hmem := List.getElem_mem hi
    have hcl := ha.c _ hmem
    have hkc := kAt_len b.2.2.1 (a.2.2.1[i]).1 hb.c
    refine .step (fun k => flat_typeFault_c2_eq k _ _ _ _) (.ck (by omega) (.ck (by omega) (.ck (by omega) ?_)))
    rw [getD_at hi]
    refine .bind (ev_kindAt b _ hb.n) ?_
    refine ev_up (a.2.2.1[i]).2.1.length (fun _ => false) (fun k j => flat_typeFault_c6 k b (kAt b.2.2.1 (a.2.2.1[i]).1).1 a.2.2.1 (a.2.2.1.length : Int) (i : Int) (a.2.2.1[i]).2.1 ((a.2.2.1[i]).2.1.length : Int) j) (fun j hj hy => ?_) ?_
    · obtain ⟨j', hj2, hjc, hty⟩ := hf.c _ hmem _ (List.getElem_mem hj)
      have hC : Ev (fun k => flat_columnAt k (kAt b.2.2.1 (a.2.2.1[i]).1).1 ((a.2.2.1[i]).2.1[j]).1) (j' : Int) := (ev_columnAt _ _ hkc).to hjc
      refine .step (fun k => flat_typeFault_c6_eq k _ _ _ _ _ _ _ _) (.ck (by omega) (.ck (by omega) (.ck (by omega) ?_)))
      rw [getD_at hj, wj3 hj hcl]
      refine .bind hC (.tt (bor' fun z => z) (.tt (bor' fun _ => by simp; omega) (.ff ?_ hy)))
      rw [getD_at hj2, hty]
      cases decide ((j' : Int) ≥ 0) <;> simp
    · refine .step (fun k => flat_typeFault_c6_eq k _ _ _ _ _ _ _ _) (.nk (by omega) ?_)
      rw [wj3 hi ha.n]
      exact h
  · exact .step (fun k => flat_typeFault_c2_eq k _ _ _ _) (.nk (by omega) (.pure _))
theorem ev_turnAll3 {a b : Fmt} (ha : FitF a) (hb : FitF b) (ob : FmtOk b) (hf : Fit3 a b) (l : List Row) (hn : l.length ≤ 2000) (hrows : ∀ r ∈ l, RowVF a r) {y : Int × Int} (hy : Ev (fun k => flat_checkRows k b (l.map (turnG a b))) y) (hy0 : y.2 = 0) :
    Ev (fun k => flat_Turned_c16 k a b [] 0 l (l.length : Int) 0) (l.map (turnG a b), (0, 0)) := by
  have key : ∀ (m q : Nat), l.length - q = m → q ≤ l.length → Ev (fun k => flat_Turned_c16 k a b ((l.take q).map (turnG a b)) 0 l (l.length : Int) (q : Int)) (l.map (turnG a b), (0, 0)) := by
    intro m
    induction m with
    | zero =>
      intro q hm hq
      refine .step (fun k => flat_Turned_c16_eq k _ _ _ _ _ _ _) (.nk (by omega) ?_)
      rw [List.take_of_length_le (by omega)]
      exact .bind hy (.ff (by rw [hy0]; rfl) (.pure _))
    | succ m ih =>
      intro q hm hq
      have hq3 : q < l.length := by omega
      obtain ⟨i, hi, hk, hlen, _⟩ := hrows _ (List.getElem_mem hq3)
      have hmem := List.getElem_mem hi
      have etag : (a.2.2.1[i]).1 = (l[q]).1 := (eqS_iff _ _).1 (ixI_at hk).2.1
      have hkb : 0 ≤ kOf b.2.2.1 (l[q]).1 := by rw [← etag]; exact hf.k _ hmem
      obtain ⟨p, hp, hkp, _⟩ := ixI_get hkb
      have hkp' : kOf b.2.2.1 (l[q]).1 = (p : Int) := hkp
      have hA : Ev (fun k => flat_kindAt k a (l[q]).1) (a.2.2.1[i], true) := (ev_kindAt a _ ha.n).to (kAt_at hi hk)
      have hB : Ev (fun k => flat_kindAt k b (l[q]).1) (b.2.2.1[p], true) := (ev_kindAt b _ hb.n).to (kAt_at hp hkp')
      have hT : Ev (fun k => flat_turned k a.2.2.1[i] b.2.2.1[p] l[q]) (turnG a b l[q], 0) := by
        have := ev_turned2 (ha.c _ hmem) (ob.len _ (List.getElem_mem hp)) l[q] hlen (fun c hc => by
          obtain ⟨j', _, hjc, _⟩ := hf.c _ hmem c hc
          rw [etag, kAt_at hp hkp'] at hjc
          have hjc' : cOf (b.2.2.1[p]).2.1 c.1 = (j' : Int) := hjc
          omega)
        unfold turnG
        rw [kAt_at hi hk, kAt_at hp hkp']
        exact this
      refine .step (fun k => flat_Turned_c16_eq k _ _ _ _ _ _ _) (.ck (by omega) (.ck (by omega) (.ck (by omega) ?_)))
      rw [getD_at hq3, wj3 hq3 (by omega), row_eta]
      refine .bind hA (.bind hB (.ff rfl (.bind hT (.ck (by simp only [List.length_map, List.length_take]; omega) ?_))))
      have e : (l.take q).map (turnG a b) ++ [turnG a b l[q]] = (l.take (q + 1)).map (turnG a b) := by
        rw [← List.take_append_getElem hq3, List.map_append]
        rfl
      have := ih (q + 1) (by omega) (by omega)
      rw [← e] at this
      exact this
  have := key _ 0 rfl (Nat.zero_le _)
  exact this
theorem fit3_O : Fit3 F0 FS := by
  refine ⟨fun kd h => ?_, fun kd h c hc => ?_⟩
  · have h' : kd = kL true 48 32 ∨ kd = kT true 48 := by simpa [F0] using h
    rcases h' with rfl | rfl
    · show 0 ≤ kOf FS.2.2.1 (bs [76])
      rw [kLS]; decide
    · show 0 ≤ kOf FS.2.2.1 (bs [84])
      rw [kTS]; decide
  · have h' : kd = kL true 48 32 ∨ kd = kT true 48 := by simpa [F0] using h
    rcases h' with rfl | rfl
    · have e : kAt FS.2.2.1 (kL true 48 32).1 = (kL false 0 0, true) := ord_FS.kaL
      have hc' : c = cArt 32 ∨ c = cQua true 48 := by simpa using hc
      rw [e]
      rcases hc' with rfl | rfl
      · exact ⟨0, by decide, by decide +kernel, rfl⟩
      · exact ⟨1, by decide, by decide +kernel, rfl⟩
    · have e : kAt FS.2.2.1 (kT true 48).1 = (kT false 0, true) := ord_FS.kaT
      have hc' : c = cMany true 48 ∨ c = cQua true 48 := by simpa using hc
      rw [e]
      rcases hc' with rfl | rfl
      · exact ⟨0, by decide, by decide +kernel, rfl⟩
      · exact ⟨1, by decide, by decide +kernel, rfl⟩
theorem cA0 : cOf (kL true 48 32).2.1 nArt = ((0 : Nat) : Int) := by decide +kernel
theorem cQ0 : cOf (kL true 48 32).2.1 nQua = ((1 : Nat) : Int) := by decide +kernel
theorem cM0 : cOf (kT true 48).2.1 nMany = ((0 : Nat) : Int) := by decide +kernel
theorem cR0 : cOf (kT true 48).2.1 nQua = ((1 : Nat) : Int) := by decide +kernel
theorem turn_L (v : ByteArray) (d : Int × Int) : turnG F0 FS (rowL v d) = rowL v d := by
  have e0 : kAt F0.2.2.1 (rowL v d).1 = (kL true 48 32, true) := ord_F0.kaL
  have e1 : kAt FS.2.2.1 (rowL v d).1 = (kL false 0 0, true) := ord_FS.kaL
  unfold turnG turnR
  rw [e0, e1]
  show (bs [76], [valN (kL true 48 32) (rowL v d) nArt, valN (kL true 48 32) (rowL v d) nQua]) = _
  unfold valN
  rw [cA0, cQ0, if_pos (by decide), if_pos (by decide)]
  rfl
theorem turn_T (n : Nat) (d : Int × Int) : turnG F0 FS (rowT n d) = rowT n d := by
  have e0 : kAt F0.2.2.1 (rowT n d).1 = (kT true 48, true) := ord_F0.kaT
  have e1 : kAt FS.2.2.1 (rowT n d).1 = (kT false 0, true) := ord_FS.kaT
  unfold turnG turnR
  rw [e0, e1]
  show (bs [84], [valN (kT true 48) (rowT n d) nMany, valN (kT true 48) (rowT n d) nQua]) = _
  unfold valN
  rw [cM0, cR0, if_pos (by decide), if_pos (by decide)]
  rfl
theorem ev_turnO (l : List Row) (hn : l.length ≤ 2000) (hfl : FitRs l) (h0 : ∀ r ∈ l, RowVF F0 r) (hS : ∀ r ∈ l, RowVF FS r) (hT : ∀ r ∈ l, turnG F0 FS r = r) : Ev (fun k => flat_Turned k F0 FS l) (l, (0, 0)) := by
  have hm : l.map (turnG F0 FS) = l := by
    conv => rhs; rw [← List.map_id l]
    exact List.map_congr_left fun r hr => hT r hr
  obtain ⟨y, y1, _, y3⟩ := ev_rowsVF FS l fit_FS ok_FS hfl
  obtain ⟨z, z1, _, z3⟩ := ev_rowsVF F0 l fit_F0 ok_F0 hfl
  have h16 := ev_turnAll3 fit_F0 fit_FS ok_FS fit3_O l hn h0 (y := y) (by rw [hm]; exact y1) (y3 hS)
  rw [hm] at h16
  have hR : Ev (fun k => flat_rowsFault k F0 l) 0 := .step (fun k => flat_rowsFault_eq k _ _) (.bind ((ev_CheckFormat F0 fit_F0).to fmt_F0) (.ff rfl (.nk (by omega) (.bind z1 (.to (.pure _) (z3 h0))))))
  have c0 : Ev (fun k => flat_CheckFormat k F0) 0 := (ev_CheckFormat F0 fit_F0).to fmt_F0
  have c1 : Ev (fun k => flat_CheckFormat k FS) 0 := (ev_CheckFormat FS fit_FS).to fmt_FS
  refine .step (fun k => flat_Turned_eq k _ _ _) (.step (fun k => flat_Turned_c2_eq k _ _ _ _ _ _) (.ck (by decide) (.ck (by decide) (.ck (by decide) (.bind (x := 0) ?_ (.ff rfl ?_))))))
  · exact c0
  · refine .step (fun k => flat_Turned_c2_eq k _ _ _ _ _ _) (.ck (by decide) (.ck (by decide) (.ck (by decide) (.bind (x := 0) ?_ (.ff rfl ?_)))))
    · exact c1
    · exact .step (fun k => flat_Turned_c2_eq k _ _ _ _ _ _) (.nk (by decide) (.bind hR (.ff rfl (.bind (ev_noType3 fit_F0 fit_FS fit3_O) (.ff rfl h16)))))
end Go.Proofs.YtgoepklennckmaaGreatDoor.Eq
namespace Go.Proofs.YtgoepklennckmaaGreatDoor.Eq
open Go Go.Ra
set_option linter.unusedVariables false
theorem okB_pr (b : UInt8) (h : okB b = true) : prB b = true ∧ b ≠ 32 ∧ b ≠ 59 := by
  have hm : b ∈ nmSet := List.contains_iff_mem.1 h
  have hall : ∀ c ∈ nmSet, prB c = true ∧ c ≠ 32 ∧ c ≠ 59 := by decide +kernel
  exact hall b hm
theorem art_name {s : ByteArray} (h : nameB s = true) : ArtOk s := by
  unfold nameB at h
  simp only [Bool.and_eq_true, decide_eq_true_eq] at h
  obtain ⟨⟨⟨⟨h1, h2⟩, _⟩, _⟩, h5⟩ := h
  have hall : ∀ b ∈ L s, okB b = true := List.all_eq_true.1 h5
  have hsz := size_L s
  refine ⟨eqS_ne fun z => ?_, h2, ?_, fun hm => (okB_pr _ (hall _ hm)).2.2 rfl⟩
  · rw [z] at h1
    exact absurd h1 (by decide)
  · rw [plB_eq _ (by omega), Bool.and_eq_true]
    exact ⟨List.all_eq_true.2 fun b hb => (okB_pr b (hall b hb)).1, decide_eq_true (trim_no fun b hb => (okB_pr b (hall b hb)).2.1)⟩
structure QtyOk (q : Int × Int) : Prop where
  ok : okD q
  nn : 0 ≤ q.1
  pl : q.2 ≤ 3
  big : sc q 3 ≤ 1000000000000
theorem LeastOf.qua {q d : Int × Int} (h : LeastOf q d) (hq : QtyOk q) : QuaOk d := ⟨h.ok, h.least, h.nn, by have := h.pl; have := hq.pl; omega, by rw [h.val 3 hq.pl]; have := hq.big; omega⟩
theorem sumV_le : ∀ l : List (Int × Int), (∀ q ∈ l, QtyOk q) → 0 ≤ sumV 3 l ∧ sumV 3 l ≤ l.length * 1000000000000
  | [], _ => by simp [sumV]
  | q :: l, h => by
    have h1 := h q (by simp)
    have h2 := sumV_le l fun x hx => h x (by simp [hx])
    have h3 : 0 ≤ sc q 3 := Int.mul_nonneg h1.nn (Int.pow_nonneg (by omega))
    have h4 := h1.big
    unfold sumV
    rw [List.length_cons]
    omega
theorem pl_three : ∀ l : List (Int × Int), (∀ q ∈ l, q.2 ≤ 3) → pl l ≤ 3
  | [], _ => by simp [pl]
  | q :: l, h => by
    have h1 := h q (by simp)
    have h2 := pl_three l fun x hx => h x (by simp [hx])
    unfold pl
    omega
theorem sum_exact {l : List (Int × Int)} (hn : l.length ≤ 500) (h : ∀ q ∈ l, QtyOk q) : ∃ e : Int × Int, okD e ∧ Ev (fun k => amount_Sum k l) (e, 0) ∧ sc e 9 = sumV 3 l * 1000000 := by
  have hp := pl_three l fun q hq => (h q hq).pl
  have hp0 := pl_nonneg l
  obtain ⟨b1, b2⟩ := sumV_le l h
  have hmem : ∀ d ∈ l, d.2 ≤ pl l := fun d hd => pl_mem hd
  have e3 := sumV_scale (q := pl l) (p := 3) hp hmem
  have hpp : (1 : Int) ≤ 10 ^ (3 - pl l).toNat := by
    have : (0 : Int) < 10 ^ (3 - pl l).toNat := Int.pow_pos (by omega)
    omega
  have hv0 : 0 ≤ sumV (pl l) l := by
    have gen : ∀ m : List (Int × Int), (∀ q ∈ m, QtyOk q) → 0 ≤ sumV (pl l) m := by
      intro m
      induction m with
      | nil => intro _; simp [sumV]
      | cons q m ih =>
        intro hm
        have := ih fun x hx => hm x (by simp [hx])
        have h3 : 0 ≤ sc q (pl l) := Int.mul_nonneg (hm q (by simp)).nn (Int.pow_nonneg (by omega))
        unfold sumV
        omega
    exact gen l h
  have hv : sumV (pl l) l ≤ 500000000000000 := by
    have := Int.mul_le_mul_of_nonneg_left hpp hv0
    omega
  have hok : okD (sumV (pl l) l, pl l) := ⟨by simp only; omega, by simp only; omega, hp0, by simp only; omega⟩
  refine ⟨(sumV (pl l) l, pl l), hok, (ev_Sum l).to ?_, ?_⟩
  · unfold sumR mk
    rw [if_neg (by omega), if_pos fun d hd => (h d hd).ok, if_pos (by omega)]
  · have e9 := sumV_scale (q := pl l) (p := 9) (by omega) hmem
    have e39 := sumV_scale (q := 3) (p := 9) (by decide) (l := l) fun q hq => (h q hq).pl
    unfold sc
    simp only
    rw [e9, ← e39]
    rfl
theorem sumL_eq : ∀ (l ds : List (Int × Int)), l.length = ds.length → (∀ i (h1 : i < l.length) (h2 : i < ds.length), QtyOk l[i] ∧ LeastOf l[i] ds[i]) → sumL (ds.map fun d => B (txL d)) = sumV 3 l * 1000000
  | [], [], _, _ => by simp [sumL, sumV]
  | q :: l, d :: ds, hlen, h => by
    have h0 := h 0 (by simp) (by simp)
    have ih := sumL_eq l ds (by simpa using hlen) fun i h1 h2 => h (i + 1) (by simpa using h1) (by simpa using h2)
    have hq : QtyOk q := h0.1
    have hd : LeastOf q d := h0.2
    rw [List.map_cons, sumL_cons, ih, B_ne (tx_ne hd.ok), if_neg (by decide), L_B, rtx_back hd.ok]
    have e : sc d 9 = sc q 3 * 1000000 := by
      rw [hd.val 9 (by have := hq.pl; omega), ← sc_scale (q := 3) (p := 9) hq.pl (by decide)]
      rfl
    show sc d 9 + _ = (sc q 3 + sumV 3 l) * 1000000
    rw [e]
    omega
  | [], _ :: _, h, _ => by simp at h
  | _ :: _, [], h, _ => by simp at h
end Go.Proofs.YtgoepklennckmaaGreatDoor.Eq
namespace Go.Proofs.YtgoepklennckmaaGreatDoor.Eq
open Go Go.Ra
set_option linter.unusedVariables false
theorem e76 : eqS (bs [76]) (bs []) = false := by decide +kernel
theorem e7684 : eqS (bs [76]) (bs [84]) = false := by decide +kernel
theorem e8476 : eqS (bs [84]) (bs [76]) = false := by decide +kernel
structure RowsL (l : List Row) : Prop where
  n : l.length ≤ 1000
  tag : ∀ r ∈ l, r.1 = bs [76]
  two : ∀ r ∈ l, r.2.length = 2
  num : ∀ r ∈ l, ∃ d : Int × Int, okD d ∧ r.2.getD 1 (bs []) = B (txL d)
theorem ev_sumO {a : Fmt} (h : OrdF a) {l : List Row} (hl : RowsL l) {x : Row} (hx : x.1 = bs [84]) : Ev (fun k => flat_sumOf k a (l ++ [x]) (bs [76]) nQua) (fwF 9 (sumL (l.map fun r => r.2.getD 1 (bs [])))) := by
  have hn := hl.n
  have hlen : (l ++ [x]).length = l.length + 1 := by simp
  have h0 : 0 < a.2.2.1.length := by have := h.lt; omega
  have key : ∀ (m q : Nat) (S : Int), l.length - q = m → q ≤ l.length → S.natAbs ≤ q * 10 ^ 35 → S + sumL ((l.drop q).map fun r => r.2.getD 1 (bs [])) = sumL (l.map fun r => r.2.getD 1 (bs [])) →
      Ev (fun k => flat_sumOf_c3 k (bs [76]) nQua a (0, 0) (W S) (l ++ [x]) ((l ++ [x]).length : Int) (q : Int)) (fwF 9 (sumL (l.map fun r => r.2.getD 1 (bs [])))) := by
    intro m
    induction m with
    | zero =>
      intro q S hq hq2 hb hS
      have e : q = l.length := by omega
      subst e
      rw [List.drop_of_length_le (Nat.le_refl _)] at hS
      have e : S = sumL (l.map fun r => r.2.getD 1 (bs [])) := by simpa [sumL] using hS
      rw [← e]
      have hSm : Sm S := .of (Nat.le_trans hb (Nat.le_trans (Nat.mul_le_mul_right _ (show l.length ≤ 2000 by omega)) (by decide)))
      have hA : Ev (fun k => flat_kindAt k a x.1) (a.2.2.1[1]'h.lt, true) := by
        rw [hx]
        exact (ev_kindAt a _ h.fit.n).to h.kaT
      have hC : Ev (fun k => flat_columnAt k (a.2.2.1[1]'h.lt) nQua) ((1 : Nat) : Int) := (ev_columnAt _ nQua (h.fit.c _ (List.getElem_mem h.lt))).to h.cS
      refine .step (fun k => flat_sumOf_c3_eq k _ _ _ _ _ _ _ _) (.ck (by omega) (.ck (by omega) (.ck (by omega) ?_)))
      rw [last_row]
      refine .bind hA (.bind hC ?_)
      rw [hx, e76, e8476]
      refine .tt rfl (.tt rfl (.tt rfl ?_))
      rw [wj3 (show l.length < (l ++ [x]).length by omega) (by omega)]
      exact .step (fun k => flat_sumOf_c3_eq k _ _ _ _ _ _ _ _) (.nk (by omega) (.ret (.step (fun k => amount_Fewest_eq k _ _) (.bind (ev_Of 10 (by decide) (by decide)) (ev_fewest (0, 0) 9 S (by decide) hSm))) rfl))
    | succ m ih =>
      intro q S hq hq2 hb hS
      have hq3 : q < l.length := by omega
      have hq4 : q < (l ++ [x]).length := by omega
      have hmem := List.getElem_mem hq3
      have et := hl.tag _ hmem
      have e2 := hl.two _ hmem
      obtain ⟨d, hd, hv⟩ := hl.num _ hmem
      have hA : Ev (fun k => flat_kindAt k a (l[q]).1) (a.2.2.1[0]'h0, true) := by
        rw [et]
        exact (ev_kindAt a _ h.fit.n).to h.kaL
      have hC : Ev (fun k => flat_columnAt k (a.2.2.1[0]'h0) nQua) ((1 : Nat) : Int) := (ev_columnAt _ nQua (h.fit.c _ (List.getElem_mem h0))).to h.cL
      refine .step (fun k => flat_sumOf_c3_eq k _ _ _ _ _ _ _ _) (.ck (by omega) (.ck (by omega) (.ck (by omega) ?_)))
      rw [getD_at hq4, wj3 hq4 (by omega), show (l ++ [x])[q] = l[q] from List.getElem_append_left hq3]
      refine .bind hA (.bind hC ?_)
      have hv' : (l[q]).2.getD ((1 : Nat) : Int).toNat (bs []) = B (txL d) := hv
      rw [hv', et, e76, eqS_self, decide_eq_false (by decide : ¬ ((1 : Nat) : Int) < 0), e2]
      rw [dropR hq3, List.map_cons, sumL_cons, hv, B_ne (tx_ne hd), if_neg (by decide), L_B, rtx_back hd] at hS
      have hsc := sc_abs (p := 9) hd (by decide)
      have hS1 : Sm S := .of (Nat.le_trans hb (Nat.le_trans (Nat.mul_le_mul_right _ (show q ≤ 2000 by omega)) (by decide)))
      have hS2 : Sm (sc d 9) := .of (Nat.le_trans hsc (Nat.pow_le_pow_right (by decide) (by decide)))
      have hr : Ev (fun k => amount_ReadText k (B (txL d))) (d, 0) := ev_readBack hd
      refine .tt rfl (.tt rfl (.ff (by rw [B_ne (tx_ne hd)]; rfl) (.ck (by decide) (.ck (by decide) (.bind hr (.bind (ev_Value _ hd) (.bind (ev_Plus S _ hS1 hS2) (ih (q + 1) _ (by omega) (by omega) ?_ (by omega)))))))))
      show (S + sc d 9).natAbs ≤ (q + 1) * 10 ^ 35
      rw [Nat.succ_mul]
      omega
  refine .step (fun k => flat_sumOf_eq k _ _ _ _) (.bind (ev_Of 0 (by decide) (by decide)) ?_)
  exact key _ 0 0 rfl (Nat.zero_le _) (by simp) (by rw [List.drop_zero, Int.zero_add])
theorem ev_colAtO {a : Fmt} (h : OrdF a) {l : List Row} (hn : l.length ≤ 2000) (hf : FitRs l) (hv : ∀ r ∈ l, RowVF a r) {c d : ByteArray} {i j : Nat} (hi : i < a.2.2.1.length) (hk : kOf a.2.2.1 c = (i : Int)) (hj : j < (a.2.2.1[i]).2.1.length) (hc : cOf (a.2.2.1[i]).2.1 d = (j : Int)) :
    Ev (fun k => flat_columnOf k a l c d) ((j : Int), ((a.2.2.1[i]).2.1[j], 0)) := by
  obtain ⟨z, z1, _, z3⟩ := ev_rowsVF a l h.fit (fmt_ok h.f0) hf
  have hR : Ev (fun k => flat_rowsFault k a l) 0 := .step (fun k => flat_rowsFault_eq k _ _) (.bind ((ev_CheckFormat a h.fit).to h.f0) (.ff rfl (.nk (by omega) (.bind z1 (.to (.pure _) (z3 hv))))))
  have hA : Ev (fun k => flat_kindAt k a c) (a.2.2.1[i], true) := (ev_kindAt a c h.fit.n).to (kAt_at hi hk)
  have hC : Ev (fun k => flat_columnAt k (a.2.2.1[i]) d) (j : Int) := (ev_columnAt _ d (h.fit.c _ (List.getElem_mem hi))).to hc
  refine .step (fun k => flat_columnOf_eq k _ _ _ _) (.bind hR (.ff rfl (.bind hA (.ff rfl (.bind hC (.nk (by omega) (.ck (by omega) (.ck (show (j : Int) < ((a.2.2.1[i]).2.1.length : Int) by omega) ?_))))))))
  rw [getD_at hj]
  exact .pure _
theorem ev_SumOfO {l : List Row} (hl : RowsL l) {x : Row} (hx : x.1 = bs [84]) (hf : FitRs (l ++ [x])) (hv : ∀ r ∈ l ++ [x], RowVF FS r) : Ev (fun k => flat_SumOf k FS (l ++ [x]) (bs [76]) nQua) (fwF 9 (sumL (l.map fun r => r.2.getD 1 (bs [])))) :=
  .step (fun k => flat_SumOf_eq k _ _ _ _) (.bind (ev_colAtO ord_FS (by have := hl.n; simp; omega) hf hv (i := 0) (j := 1) (by decide) kLS (by decide) ord_FS.cL) (.ff rfl (.ff rfl (.ret (ev_sumO ord_FS hl hx) rfl))))
theorem ev_ColumnO {l : List Row} (hl : RowsL l) {x : Row} (hx : x.1 = bs [84]) (hx2 : x.2.length = 2) (hf : FitRs (l ++ [x])) (hv : ∀ r ∈ l ++ [x], RowVF FS r) : Ev (fun k => flat_Column k FS (l ++ [x]) (bs [84]) nMany) ([x.2.getD 0 (bs [])], 0) := by
  have hn := hl.n
  have hlen : (l ++ [x]).length = l.length + 1 := by simp
  refine .step (fun k => flat_Column_eq k _ _ _ _) (.bind (ev_colAtO ord_FS (by omega) hf hv (i := 1) (j := 0) (by decide) kTS (by decide) ord_FS.cT) (.ff rfl ?_))
  have key : ∀ (m q : Nat), l.length - q = m → q ≤ l.length → Ev (fun k => flat_Column_c6 k (bs [84]) ((0 : Nat) : Int) [] (l ++ [x]) ((l ++ [x]).length : Int) (q : Int)) ([x.2.getD 0 (bs [])], 0) := by
    intro m
    induction m with
    | zero =>
      intro q hq hq2
      have e : q = l.length := by omega
      subst e
      refine .step (fun k => flat_Column_c6_eq k _ _ _ _ _ _) (.ck (by omega) (.ck (by omega) (.ck (by omega) ?_)))
      rw [last_row, hx, wj3 (show l.length < (l ++ [x]).length by omega) (by omega)]
      refine .tt (eqS_self _) (.ck (by decide) (.ck (by rw [hx2]; decide) (.ck (by decide) ?_)))
      exact .step (fun k => flat_Column_c6_eq k _ _ _ _ _ _) (.nk (by omega) (.pure _))
    | succ m ih =>
      intro q hq hq2
      have hq3 : q < l.length := by omega
      have hq4 : q < (l ++ [x]).length := by omega
      refine .step (fun k => flat_Column_c6_eq k _ _ _ _ _ _) (.ck (by omega) (.ck (by omega) (.ck (by omega) ?_)))
      rw [getD_at hq4, wj3 hq4 (by omega), show (l ++ [x])[q] = l[q] from List.getElem_append_left hq3, hl.tag _ (List.getElem_mem hq3)]
      exact .ff e7684 (ih (q + 1) (by omega) (by omega))
  exact key _ 0 rfl (Nat.zero_le _)
abbrev OLin : Type := Int × ByteArray × (Int × Int) × ByteArray × (Int × Int) × Int
abbrev OOrd : Type := ByteArray × ByteArray × ByteArray × Int × Int × List OLin
theorem p10_le {n : Nat} (h : n ≤ 9) : (10 : Int) ^ n ≤ 1000000000 ∧ (0 : Int) < 10 ^ n := by
  have h1 : (10 : Nat) ^ n ≤ 10 ^ 9 := Nat.pow_le_pow_right (by decide) h
  have e : ((10 : Nat) ^ n : Nat) = ((10 : Int) ^ n) := by simp
  refine ⟨?_, Int.pow_pos (by omega)⟩
  rw [← e]
  omega
theorem ev_opower (n : Nat) (hn : n ≤ 9) : Ev (fun k => order_power k (n : Int)) (10 ^ n) := by
  refine .step (fun k => order_power_eq k _) ?_
  have key : ∀ m i : Nat, n - i = m → i ≤ n → Ev (fun k => order_power_c3 k (10 ^ i) (n : Int) (i : Int)) (10 ^ n) := by
    intro m
    induction m with
    | zero =>
      intro i hm hi
      have e : i = n := by omega
      subst e
      exact .step (fun k => order_power_c3_eq k _ _ _) (.nk (by omega) (.pure _))
    | succ m ih =>
      intro i hm hi
      obtain ⟨hb, hp⟩ := p10_le (show i + 1 ≤ 9 by omega)
      have e : wi64 ((10 : Int) ^ i * 10) = 10 ^ (i + 1) := by rw [← Int.pow_succ, wi64_id (by omega) (by omega)]
      refine .step (fun k => order_power_c3_eq k _ _ _) (.ck (by omega) ?_)
      rw [e, wj3 (show i < n by omega) (by omega)]
      exact ih (i + 1) (by omega) (by omega)
  exact key _ 0 rfl (Nat.zero_le _)
theorem ev_owithin (d : Int × Int) (b : Int) (hb : b ≤ 9) (hd : okD d) : ∃ t : Bool, Ev (fun k => order_within k d b 1000000000) t ∧ (t = true → d.2 ≤ b ∧ 0 ≤ d.1 ∧ d.1 ≤ 1000000000 * 10 ^ d.2.toNat) := by
  have hd' := hd
  unfold okD at hd'
  cases hc : (cond (decide (d.2 ≤ b)) (decide (d.1 ≥ 0)) false) with
  | false =>
    refine ⟨false, .step (fun k => order_within_eq k _ _ _) (.bind (x := 0) (.ff hc (.pure _)) (.to (.pure _) ?_)), fun h => by cases h⟩
    rw [hc]; rfl
  | true =>
    obtain ⟨n, hn⟩ : ∃ n : Nat, d.2 = (n : Int) := ⟨d.2.toNat, by omega⟩
    have hp := ev_opower n (by omega)
    rw [← hn] at hp
    have hcc : d.2 ≤ b ∧ 0 ≤ d.1 := by
      rw [Bool.cond_eq_ite] at hc
      split at hc
      · rename_i h1
        exact ⟨of_decide_eq_true h1, of_decide_eq_true hc⟩
      · cases hc
    obtain ⟨hb9, hp0⟩ := p10_le (show n ≤ 9 by omega)
    have e : wi64 (1000000000 * (10 : Int) ^ n) = 1000000000 * 10 ^ n := wi64_id (by omega) (by omega)
    refine ⟨decide (d.1 ≤ 1000000000 * 10 ^ n), .step (fun k => order_within_eq k _ _ _) (.bind (.tt hc hp) (.to (.pure _) ?_)), fun h => ⟨hcc.1, hcc.2, ?_⟩⟩
    · rw [hc, e]; rfl
    · have := of_decide_eq_true h
      rw [hn]
      exact this
theorem ev_qtyFault (d : Int × Int) : ∃ y : Int, Ev (fun k => order_QuantityFault k d false) y ∧ (y = 0 → QtyOk d) := by
  by_cases h : okD d
  · obtain ⟨t, t1, t2⟩ := ev_owithin d 3 (by decide) h
    have hck : Ev (fun k => amount_CheckDecimal k d) 0 := (ev_CheckDecimal d).to (if_pos h)
    cases hz : (cond (!t) true (cond (d.1 == 0) (!false) false)) with
    | true => exact ⟨1, .step (fun k => order_QuantityFault_eq k _ _) (.bind hck (.ff rfl (.bind t1 (.tt hz (.pure _))))), fun z => absurd z (by decide)⟩
    | false =>
      have ht : t = true := by
        cases t with
        | true => rfl
        | false => cases hz
      obtain ⟨h1, h2, h3⟩ := t2 ht
      refine ⟨0, .step (fun k => order_QuantityFault_eq k _ _) (.bind hck (.ff rfl (.bind t1 (.ff hz (.pure _))))), fun _ => ⟨h, h2, h1, ?_⟩⟩
      have hd' := h
      unfold okD at hd'
      unfold sc
      have := Int.mul_le_mul_of_nonneg_right h3 (show (0 : Int) ≤ 10 ^ (3 - d.2).toNat from Int.pow_nonneg (by omega))
      rw [Int.mul_assoc, ← Int.pow_add, show d.2.toNat + (3 - d.2).toNat = 3 by omega] at this
      exact this
  · have hck : Ev (fun k => amount_CheckDecimal k d) 1 := (ev_CheckDecimal d).to (if_neg h)
    exact ⟨1, .step (fun k => order_QuantityFault_eq k _ _) (.bind hck (.tt rfl (.pure _))), fun z => absurd z (by decide)⟩
theorem ev_priceFault (d : Int × Int) : ∃ y : Int, Ev (fun k => order_PriceFault k d) y := by
  by_cases h : okD d
  · obtain ⟨t, t1, _⟩ := ev_owithin d 4 (by decide) h
    have hck : Ev (fun k => amount_CheckDecimal k d) 0 := (ev_CheckDecimal d).to (if_pos h)
    exact ⟨_, .step (fun k => order_PriceFault_eq k _) (.bind hck (.ff rfl (.bind t1 (.sel rfl (fun _ => .pure _) fun _ => .pure _))))⟩
  · have hck : Ev (fun k => amount_CheckDecimal k d) 1 := (ev_CheckDecimal d).to (if_neg h)
    exact ⟨1, .step (fun k => order_PriceFault_eq k _) (.bind hck (.tt rfl (.pure _)))⟩
def LnOk (x : OLin) : Prop := nameB x.2.1 = true ∧ QtyOk x.2.2.1
end Go.Proofs.YtgoepklennckmaaGreatDoor.Eq
namespace Go.Proofs.YtgoepklennckmaaGreatDoor.Eq
open Go Go.Ra
set_option linter.unusedVariables false
theorem ex_step {α : Type} {f g : Nat → Option α} {P : α → Prop} (h : ∀ k, f (k + 1) = g k) (hg : ∃ y, Ev g y ∧ P y) : ∃ y, Ev f y ∧ P y := by
  obtain ⟨y, y1, y2⟩ := hg
  exact ⟨y, .step h y1, y2⟩
theorem ex_bind {α β : Type} {f : Nat → Option α} {g : Nat → α → Option β} {x : α} {P : β → Prop} (h : Ev f x) (hg : ∃ y, Ev (fun k => g k x) y ∧ P y) : ∃ y, Ev (fun k => (f k).bind (g k)) y ∧ P y := by
  obtain ⟨y, y1, y2⟩ := hg
  exact ⟨y, .bind h y1, y2⟩
theorem ex_cond {α : Type} {c : Bool} {a b : Nat → Option α} {P : α → Prop} (h1 : c = true → ∃ y, Ev a y ∧ P y) (h2 : c = false → ∃ y, Ev b y ∧ P y) : ∃ y, Ev (fun k => _root_.cond c (a k) (b k)) y ∧ P y := by
  cases c with
  | true => exact h1 rfl
  | false => exact h2 rfl
theorem ex_ck {α : Type} {p : Prop} [Decidable p] {a b : Nat → Option α} {P : α → Prop} (h : p) (h1 : ∃ y, Ev a y ∧ P y) : ∃ y, Ev (fun k => _root_.cond (decide p) (a k) (b k)) y ∧ P y := by
  obtain ⟨y, y1, y2⟩ := h1
  exact ⟨y, .ck h y1, y2⟩
theorem ex_tt {α : Type} {c : Bool} {a b : Nat → Option α} {P : α → Prop} (h : c = true) (h1 : ∃ y, Ev a y ∧ P y) : ∃ y, Ev (fun k => _root_.cond c (a k) (b k)) y ∧ P y := by
  obtain ⟨y, y1, y2⟩ := h1
  exact ⟨y, .tt h y1, y2⟩
theorem ex_pure {α : Type} {x : α} {P : α → Prop} (h : P x) : ∃ y, Ev (fun _ => some x) y ∧ P y := ⟨x, .pure _, h⟩
theorem ev_lineFault (o : OOrd) (i : Nat) (hi : i < o.2.2.2.2.2.length) (hn : o.2.2.2.2.2.length ≤ 500) : ∃ y : Int, Ev (fun k => order_lineFault k o (i : Int)) y ∧ (y = 0 → LnOk (o.2.2.2.2.2[i])) := by
  have hw : wi64 ((i : Int) - 1) = (i : Int) - 1 := wi64_id (by omega) (by omega)
  refine ex_step (fun k => order_lineFault_eq k _ _) (ex_ck (by omega) (ex_ck (by omega) ?_))
  rw [getD_at hi]
  refine ex_bind (ev_Outside _ _ _) (ex_cond (fun _ => ex_pure fun z => absurd z (by decide)) fun _ => ex_tt (bor' fun w => ?_) (ex_tt (bor' fun w => ?_) (ex_cond (fun _ => ex_pure fun z => absurd z (by decide)) fun _ => ex_bind (ev_IsName _) (ex_cond (fun _ => ex_pure fun z => absurd z (by decide)) fun hname => ?_))))
  · rw [hw]; exact decide_eq_true (by have := of_decide_eq_true w; omega)
  · rw [hw]; exact decide_eq_true (by omega)
  · obtain ⟨q, q1, q2⟩ := ev_qtyFault (o.2.2.2.2.2[i]).2.2.1
    obtain ⟨p, p1⟩ := ev_priceFault (o.2.2.2.2.2[i]).2.2.2.2.1
    refine ex_bind q1 (ex_cond (fun hq => ex_pure fun z => absurd z (by simpa using hq)) fun hq => ?_)
    have hok : LnOk (o.2.2.2.2.2[i]) := ⟨by simpa using hname, q2 (by simpa using hq)⟩
    exact ex_bind (ev_IsName _) (ex_cond (fun _ => ex_pure fun z => absurd z (by decide)) fun _ => ex_bind p1 (ex_cond (fun hp => ex_pure fun z => absurd z (by simpa using hp)) fun _ => ex_bind (ev_Outside _ _ _) (ex_cond (fun _ => ex_pure fun z => absurd z (by decide)) fun _ => ex_pure fun _ => hok)))
theorem ev_IsDay (a : Int) : ∃ t : Bool, Ev (fun k => kit_IsDay k a) t := ⟨_, .step (fun k => kit_IsDay_eq k _) (.bind (ev_Outside _ _ _) (.pure _))⟩
theorem ev_ordCheck (o : OOrd) : ∃ y : Int, Ev (fun k => order_CheckOrder k o) y ∧ (y = 0 → 0 < o.2.2.2.2.2.length ∧ o.2.2.2.2.2.length ≤ 500 ∧ ∀ x ∈ o.2.2.2.2.2, LnOk x) := by
  obtain ⟨t, ht⟩ := ev_IsDay o.2.2.2.1
  have gd : ∀ {c : Bool} {f : Nat → Option Bool} {x : Bool}, Ev f x → ∃ y, Ev (fun k => _root_.cond c (f k) (some false)) y := fun {c} {f} {x} h => by
    cases c with
    | true => exact ⟨x, h⟩
    | false => exact ⟨false, .pure _⟩
  obtain ⟨u, hu⟩ := gd (c := !(!(nameB o.1))) (ev_IsName o.2.1)
  obtain ⟨v, hv⟩ := gd (c := !(cond (!(nameB o.1)) true (!u))) (ev_IsName o.2.2.1)
  obtain ⟨w, hw⟩ := gd (c := !(!t)) (ev_Outside o.2.2.2.2.1 0 1000)
  refine ex_step (fun k => order_CheckOrder_eq k _) (ex_bind (ev_IsName _) (ex_bind hu (ex_bind hv (ex_cond (fun _ => ex_pure fun z => absurd z (by decide)) fun _ => ex_cond (fun _ => ex_pure fun z => absurd z (by decide)) fun _ => ex_bind ht (ex_bind hw (ex_cond (fun _ => ex_pure fun z => absurd z (by decide)) fun _ => ex_cond (fun _ => ex_pure fun z => absurd z (by decide)) fun h0 => ex_cond (fun _ => ex_pure fun z => absurd z (by decide)) fun h5 => ?_))))))
  have hpos : 0 < o.2.2.2.2.2.length := by simp only [beq_eq_false_iff_ne, ne_eq] at h0; omega
  have hlen : o.2.2.2.2.2.length ≤ 500 := by have := of_decide_eq_false h5; omega
  have key : ∀ (m i : Nat), o.2.2.2.2.2.length - i = m → i ≤ o.2.2.2.2.2.length → (∀ j (hj : j < i) (hj' : j < o.2.2.2.2.2.length), LnOk (o.2.2.2.2.2[j])) → ∃ y : Int, Ev (fun k => order_CheckOrder_c12 k o (o.2.2.2.2.2.length : Int) (i : Int)) y ∧ (y = 0 → 0 < o.2.2.2.2.2.length ∧ o.2.2.2.2.2.length ≤ 500 ∧ ∀ x ∈ o.2.2.2.2.2, LnOk x) := by
    intro m
    induction m with
    | zero =>
      intro i hm hi hj
      refine ⟨0, .step (fun k => order_CheckOrder_c12_eq k _ _ _) (.nk (by omega) (.pure _)), fun _ => ⟨hpos, hlen, fun x hx => ?_⟩⟩
      obtain ⟨j, hj', rfl⟩ := List.getElem_of_mem hx
      exact hj j (by omega) hj'
    | succ m ih =>
      intro i hm hi hj
      have hi3 : i < o.2.2.2.2.2.length := by omega
      obtain ⟨y, y1, y2⟩ := ev_lineFault o i hi3 hlen
      refine ex_step (fun k => order_CheckOrder_c12_eq k _ _ _) (ex_ck (by omega) (ex_bind y1 (ex_cond (fun hy => ex_pure fun z => absurd z (by simpa using hy)) fun hy => ?_)))
      rw [wj3 hi3 (by omega)]
      refine ih (i + 1) (by omega) (by omega) fun j hj1 hj2 => ?_
      by_cases e : j = i
      · subst e
        exact y2 (by simpa using hy)
      · exact hj j (by omega) hj2
  exact key _ 0 rfl (Nat.zero_le _) fun j hj _ => absurd hj (by omega)
theorem ev_aliveT : Ev (fun k => interchangetop_alive k) true := by
  have h : Ev (fun k => amount_ReadText k (bs [50, 46, 53])) ((25, 1), 0) := by
    have := ev_readBack (d := (25, 1)) (by decide)
    have e : B (txL (25, 1)) = bs [50, 46, 53] := by decide +kernel
    rw [e] at this
    exact this
  exact .step (fun k => interchangetop_alive_eq k) (.bind h (.pure _))
theorem ev_fmt0 : Ev (fun k => interchangetop_flatFormat k 0) F0 := .step (fun k => interchangetop_flatFormat_eq k _) (.tt rfl (.to (.pure _) rfl))
theorem ev_fmtS : Ev (fun k => interchangetop_flatFormat k 59) FS := .step (fun k => interchangetop_flatFormat_eq k _) (.ff rfl (.to (.pure _) rfl))
open Classical in
noncomputable def loQ (q : Int × Int) : Int × Int := if h : ∃ d, LeastOf q d then Classical.choose h else q
theorem loQ_of {q : Int × Int} (h : QtyOk q) : LeastOf q (loQ q) := by
  have hx : ∃ d, LeastOf q d := least_ex h.ok h.nn
  unfold loQ
  rw [dif_pos hx]
  exact Classical.choose_spec hx
noncomputable def rowO (x : OLin) : Row := rowL x.2.1 (loQ x.2.2.1)
theorem mem_rows {L : List OLin} {r : Row} (h : r ∈ L.map rowO) : ∃ x ∈ L, r = rowL x.2.1 (loQ x.2.2.1) := by
  obtain ⟨x, hx, e⟩ := List.mem_map.1 h
  exact ⟨x, hx, e.symm⟩
theorem ev_law_top (o : OOrd) : Ev (fun k => interchangetop_TopFlatOrdersAddUp k o) true := by
  obtain ⟨y, y1, y2⟩ := ev_ordCheck o
  refine .step (fun k => interchangetop_TopFlatOrdersAddUp_eq k _) (.bind y1 ?_)
  cases hy : (y != 0) with
  | true => exact .tt rfl (.ret ev_aliveT rfl)
  | false =>
    refine .ff rfl ?_
    obtain ⟨hpos, hlen, hL⟩ := y2 (by simpa using hy)
    have hrl : (o.2.2.2.2.2.map rowO).length = o.2.2.2.2.2.length := List.length_map ..
    have art : ∀ x ∈ o.2.2.2.2.2, ArtOk x.2.1 := fun x hx => art_name (hL x hx).1
    have qua : ∀ x ∈ o.2.2.2.2.2, QuaOk (loQ x.2.2.1) := fun x hx => (loQ_of (hL x hx).2).qua (hL x hx).2
    have hqs : ∀ q ∈ o.2.2.2.2.2.map (fun x => x.2.2.1), QtyOk q := fun q hq => by
      obtain ⟨x, hx, rfl⟩ := List.mem_map.1 hq
      exact (hL x hx).2
    have hqn : (o.2.2.2.2.2.map (fun x => x.2.2.1)).length ≤ 500 := by rw [List.length_map]; exact hlen
    -- the end of the loop
    have fin : Ev (fun k => interchangetop_TopFlatOrdersAddUp_c6 k o (o.2.2.2.2.2.map rowO) (o.2.2.2.2.2.map (fun x => x.2.2.1)) o.2.2.2.2.2 (o.2.2.2.2.2.length : Int) ((o.2.2.2.2.2.length : Nat) : Int)) true := by
      obtain ⟨b1, b2⟩ := sumV_le _ hqs
      obtain ⟨d, d1, d2, d3⟩ := fw_sum b1 (show sumV 3 (o.2.2.2.2.2.map fun x => x.2.2.1) ≤ 1000000000000000 by rw [List.length_map] at b2; omega)
      obtain ⟨e, e1, e2, e3⟩ := sum_exact hqn hqs
      have hsum : sumL ((o.2.2.2.2.2.map rowO).map fun r => r.2.getD 1 (bs [])) = sumV 3 (o.2.2.2.2.2.map fun x => x.2.2.1) * 1000000 := by
        have := sumL_eq (o.2.2.2.2.2.map fun x => x.2.2.1) (o.2.2.2.2.2.map fun x => loQ x.2.2.1) (by simp) fun i h1 h2 => by
          simp only [List.getElem_map]
          rw [List.length_map] at h1
          have hq := (hL _ (List.getElem_mem h1)).2
          exact ⟨hq, loQ_of hq⟩
        rw [← this, List.map_map, List.map_map]
        rfl
      have hR : RowsL (o.2.2.2.2.2.map rowO) := ⟨by omega, fun r hr => by obtain ⟨x, _, rfl⟩ := mem_rows hr; rfl, fun r hr => by obtain ⟨x, _, rfl⟩ := mem_rows hr; rfl, fun r hr => by
        obtain ⟨x, hx, rfl⟩ := mem_rows hr
        exact ⟨_, (qua x hx).ok, rfl⟩⟩
      have hf : FitRs (o.2.2.2.2.2.map rowO) := ⟨by omega, fun r hr => by
        obtain ⟨x, hx, rfl⟩ := mem_rows hr
        exact fitL (art x hx) (qua x hx)⟩
      have hv0 : ∀ r ∈ o.2.2.2.2.2.map rowO, RowVF F0 r := fun r hr => by
        obtain ⟨x, hx, rfl⟩ := mem_rows hr
        exact rvL0 (art x hx) (qua x hx)
      have hvS : ∀ r ∈ o.2.2.2.2.2.map rowO, RowVF FS r := fun r hr => by
        obtain ⟨x, hx, rfl⟩ := mem_rows hr
        exact rvLS (art x hx) (qua x hx)
      have hfx : FitR (rowT (o.2.2.2.2.2.map rowO).length d) := fitT (by omega) d2
      have hfw : fwF 9 (sumL ((o.2.2.2.2.2.map rowO).map fun r => r.2.getD 1 (bs []))) = (d, 0) := by rw [hsum]; exact d1
      have c0 := ord_F0.closed hR.tag (by omega) (by omega) hf hv0 d2.ok hfw (rvT0 (by omega) d2) hfx
      have cS := ord_FS.closed hR.tag (by omega) (by omega) hf hvS d2.ok hfw (rvTS (by omega) d2) hfx
      have hmem : ∀ {P : Row → Prop}, (∀ r ∈ o.2.2.2.2.2.map rowO, P r) → P (rowT (o.2.2.2.2.2.map rowO).length d) → ∀ r ∈ o.2.2.2.2.2.map rowO ++ [rowT (o.2.2.2.2.2.map rowO).length d], P r := fun h1 h2 r hr => by
        rcases List.mem_append.1 hr with hr | hr
        · exact h1 r hr
        · rw [List.mem_singleton.1 hr]; exact h2
      have hlx : (o.2.2.2.2.2.map rowO ++ [rowT (o.2.2.2.2.2.map rowO).length d]).length = (o.2.2.2.2.2.map rowO).length + 1 := by simp
      have hfl : FitRs (o.2.2.2.2.2.map rowO ++ [rowT (o.2.2.2.2.2.map rowO).length d]) := ⟨by omega, hmem hf.r hfx⟩
      have hvlS := hmem hvS (rvTS (by omega) d2)
      obtain ⟨t, t1, t2⟩ := ev_file _ (by omega) (hmem (fun r hr => by
        obtain ⟨x, hx, rfl⟩ := mem_rows hr
        exact line_L (art x hx) (qua x hx)) (line_T (by omega) d2))
      have hturn := ev_turnO _ (by omega) hfl (hmem hv0 (rvT0 (by omega) d2)) hvlS (hmem (fun r hr => by
        obtain ⟨x, hx, rfl⟩ := mem_rows hr
        exact turn_L _ _) (turn_T _ _))
      have hS := (ev_SumOfO hR (x := rowT (o.2.2.2.2.2.map rowO).length d) rfl hfl hvlS).to hfw
      have hC := ev_ColumnO hR (x := rowT (o.2.2.2.2.2.map rowO).length d) rfl rfl hfl hvlS
      have hcmp : Ev (fun k => amount_Compare k d e) (0, 0) := (ev_aCompare d e).to (by
        unfold cmpR
        rw [if_pos ⟨d2.ok, e1⟩, e3, ← sc_scale (q := 3) (p := 9) d2.pl (by decide), d3]
        have : sumV 3 (o.2.2.2.2.2.map fun x => x.2.2.1) * 10 ^ ((9 : Int) - 3).toNat - sumV 3 (o.2.2.2.2.2.map fun x => x.2.2.1) * 1000000 = 0 := by
          rw [show (10 : Int) ^ ((9 : Int) - 3).toNat = 1000000 from rfl]; omega
        rw [this]
        rfl)
      have hI : Ev (fun k => strconv_Itoa k (o.2.2.2.2.2.length : Int)) (B (Lib.itoa (o.2.2.2.2.2.length : Int))) := ev_Itoa (by omega) (by omega)
      have hE : Ev (fun k => slices_Equal_Lstring_string k [(rowT (o.2.2.2.2.2.map rowO).length d).2.getD 0 (bs [])] [B (Lib.itoa (o.2.2.2.2.2.length : Int))]) true := by
        have h := ev_eqTexts [B (Lib.itoa (o.2.2.2.2.2.length : Int))] (by simp)
        rw [← hrl] at h ⊢
        exact h
      refine .step (fun k => interchangetop_TopFlatOrdersAddUp_c6_eq k _ _ _ _ _ _) (.nk (by omega) (.bind ev_fmt0 (.bind c0.1 (.ff rfl (.bind ev_fmt0 (.bind t1 (.ff rfl (.bind ev_fmt0 (.bind t2 (.ff rfl (.bind ev_fmt0 (.bind ev_fmtS (.bind hturn (.bind (.tt rfl ev_aliveT) (.ff rfl (.bind ev_fmtS (.bind cS.2 (.ff rfl (.bind ev_fmtS (.bind hS (.bind e2 (.ff rfl (.bind hcmp (.bind ev_fmtS (.bind hC (.bind (.tt rfl hI) (.bind (.tt rfl hE) (.pure _))))))))))))))))))))))))))))
    have key : ∀ (m i : Nat), o.2.2.2.2.2.length - i = m → i ≤ o.2.2.2.2.2.length → Ev (fun k => interchangetop_TopFlatOrdersAddUp_c6 k o ((o.2.2.2.2.2.take i).map rowO) ((o.2.2.2.2.2.take i).map (fun x => x.2.2.1)) o.2.2.2.2.2 (o.2.2.2.2.2.length : Int) (i : Int)) true := by
      intro m
      induction m with
      | zero =>
        intro i hm hi
        have e : i = o.2.2.2.2.2.length := by omega
        subst e
        rw [List.take_length]
        exact fin
      | succ m ih =>
        intro i hm hi
        have hi3 : i < o.2.2.2.2.2.length := by omega
        have hx := List.getElem_mem hi3
        have hlo := loQ_of (hL _ hx).2
        have hT : Ev (fun k => amount_Text k (loQ (o.2.2.2.2.2[i]).2.2.1)) (B (txL (loQ (o.2.2.2.2.2[i]).2.2.1)), 0) := (ev_aText _).to (if_pos hlo.ok)
        have z := ih (i + 1) (by omega) (by omega)
        rw [← List.take_append_getElem hi3, List.map_append, List.map_append] at z
        refine .step (fun k => interchangetop_TopFlatOrdersAddUp_c6_eq k _ _ _ _ _ _) (.ck (by omega) (.ck (by omega) (.ck (by omega) ?_)))
        rw [getD_at hi3, wj3 hi3 (by omega)]
        refine .bind hlo.norm (.bind hT (.ff rfl (.ck ?_ (.ck ?_ z))))
        · rw [List.length_map, List.length_take]; omega
        · rw [List.length_map, List.length_take]; omega
    have := key _ 0 rfl (Nat.zero_le _)
    rw [List.take_zero] at this
    exact this
end Go.Proofs.YtgoepklennckmaaGreatDoor.Eq
