import Derived.Test.YtoiahmmockgcbaaRaSortB
/- Merging in place, whole. -/
namespace Go.Proofs.Ytoiahmmockgcbaa.Eq
open Go Go.Ra
set_option linter.unusedVariables false

section
variable {le : Sh → Sh → Bool} {Dm : Sh → Prop} (hle : TP le) (hc : CmpOk le Dm)

/-- What merging in place comes to. -/
def Mgd (le : Sh → Sh → Bool) (l : List Sh) (a m b : Nat) (r : List Sh) : Prop :=
  r.length = l.length ∧ (∀ p, p < a ∨ b ≤ p → r[p]? = l[p]?) ∧ seg r a b = mrg le (seg l a m) (seg l m b)

theorem mgd_self_l (l : List Sh) {a b : Nat} : Mgd le l a a b l := ⟨rfl, fun _ _ => rfl, by rw [seg_self, mrg_nil_left]⟩
theorem mgd_self_r (l : List Sh) {a b : Nat} : Mgd le l a b b l := ⟨rfl, fun _ _ => rfl, by rw [seg_self, mrg_nil_right]⟩

/-- Both ends of the middle, exchanged or not. -/
def Tnd (l : List Sh) (s m e d : Nat) (r : List Sh) : Prop :=
  r.length = l.length ∧ (∀ p, p < s ∨ e ≤ p → r[p]? = l[p]?) ∧ seg r s d = seg l m e ∧ seg r d e = seg l s m

include hc in
theorem ev_sm_c33 (l : List Sh) (hu2 : l.length < 562949953421312) (hd : ∀ x ∈ l, Dm x) (a m b d lo hi : Nat) (ham : a < m) (hmb : m < b) (hb : b ≤ l.length) (hlo : a ≤ lo) (hhi : hi ≤ m) (h1 : d + m ≤ lo + b) (h2 : m ≤ d + m - hi) (hdm : hi ≤ d) (hdb : d ≤ b) :
    ∀ (n i j : Nat), j - i = n → lo ≤ i → i ≤ j → j ≤ hi → (lo < i → le (l.getD (i - 1) sh0) (l.getD (d + m - 1 - (i - 1)) sh0) = true) → (j < hi → le (l.getD j sh0) (l.getD (d + m - 1 - j) sh0) = false) →
    ∃ e, lo ≤ e ∧ e ≤ hi ∧ (lo < e → le (l.getD (e - 1) sh0) (l.getD (d + m - 1 - (e - 1)) sh0) = true) ∧ (e < hi → le (l.getD e sh0) (l.getD (d + m - 1 - e) sh0) = false) ∧
      ∀ y, Ev (fun k => slices_symMergeCmpFunc_1_c33 k l (a : Int) (m : Int) (b : Int) () (d : Int) ((d + m : Nat) : Int) (e : Int) (e : Int) ((d + m - 1 : Nat) : Int)) y → Ev (fun k => slices_symMergeCmpFunc_1_c33 k l (a : Int) (m : Int) (b : Int) () (d : Int) ((d + m : Nat) : Int) (i : Int) (j : Int) ((d + m - 1 : Nat) : Int)) y := by
  have hu : l.length < 1125899906842624 := by omega
  intro n
  induction n using Nat.strongRecOn with
  | ind n ih =>
    intro i j hn hli hij hjh hL hH
    by_cases hlt : i < j
    · have hh : (i + j) / 2 < l.length := by omega
      have hh2 : d + m - 1 - (i + j) / 2 < l.length := by omega
      obtain ⟨v, v1, v2⟩ := hc (l.getD (d + m - 1 - (i + j) / 2) sh0) (l.getD ((i + j) / 2) sh0) (dm_at hd hh2) (dm_at hd hh)
      have pre : ∀ y, (¬ v < 0 → Ev (fun k => slices_symMergeCmpFunc_1_c33 k l (a : Int) (m : Int) (b : Int) () (d : Int) ((d + m : Nat) : Int) (((i + j) / 2 + 1 : Nat) : Int) (j : Int) ((d + m - 1 : Nat) : Int)) y) →
          (v < 0 → Ev (fun k => slices_symMergeCmpFunc_1_c33 k l (a : Int) (m : Int) (b : Int) () (d : Int) ((d + m : Nat) : Int) (i : Int) (((i + j) / 2 : Nat) : Int) ((d + m - 1 : Nat) : Int)) y) →
          Ev (fun k => slices_symMergeCmpFunc_1_c33 k l (a : Int) (m : Int) (b : Int) () (d : Int) ((d + m : Nat) : Int) (i : Int) (j : Int) ((d + m - 1 : Nat) : Int)) y := by
        intro y h1 h2
        refine .step (fun k => slices_symMergeCmpFunc_1_c33_eq k _ _ _ _ _ _ _ _ _ _) (.ck (by omega) ?_)
        simp only [swm (i := i) (j := j) (by omega) (by omega), sws (i := d + m - 1) (j := (i + j) / 2) (by omega) (by omega), Int.toNat_natCast, sh_eta]
        refine .ck (by omega) (.ck (by omega) (.ck (by omega) (.ck (by omega) (.bind v1 (.cond (fun h => ?_) (fun h => h2 (by simpa using h)))))))
        rw [swi (by omega)]
        exact h1 (by simpa using h)
      by_cases hv : v < 0
      · have hf : le (l.getD ((i + j) / 2) sh0) (l.getD (d + m - 1 - (i + j) / 2) sh0) = false := by simpa [hv] using v2
        obtain ⟨e, g1, g2, g3, g4, g5⟩ := ih ((i + j) / 2 - i) (by omega) i ((i + j) / 2) rfl hli (by omega) (by omega) hL (fun _ => hf)
        exact ⟨e, g1, g2, g3, g4, fun y hy => pre y (fun z => absurd hv z) (fun _ => g5 y hy)⟩
      · have hf : le (l.getD ((i + j) / 2) sh0) (l.getD (d + m - 1 - (i + j) / 2) sh0) = true := by simpa [hv] using v2
        obtain ⟨e, g1, g2, g3, g4, g5⟩ := ih (j - ((i + j) / 2 + 1)) (by omega) ((i + j) / 2 + 1) j rfl (by omega) (by omega) hjh (fun _ => hf) hH
        exact ⟨e, g1, g2, g3, g4, fun y hy => pre y (fun _ => g5 y hy) (fun z => absurd z hv)⟩
    · have hij' : i = j := by omega
      subst hij'
      exact ⟨i, hli, hjh, hL, hH, fun y hy => hy⟩

theorem tnd_ev (l : List Sh) (hu : l.length < 1125899906842624) {s m e d : Nat} (h1 : s ≤ m) (h2 : m ≤ e) (he : e ≤ l.length) (hd : s + e = d + m) :
    ∃ r, Tnd l s m e d r ∧ ((s < m ∧ m < e) → Ev (fun k => slices_rotateCmpFunc_1 k l (s : Int) (m : Int) (e : Int) ()) r) ∧ (¬ (s < m ∧ m < e) → r = l) := by
  by_cases h : s < m ∧ m < e
  · obtain ⟨r, q1, q2, q3, q4, q5⟩ := ev_rotate l s m e hu h.1 h.2 he
    have hd' : s + (e - m) = d := by omega
    rw [hd'] at q3 q4
    exact ⟨r, ⟨q2, q5, q3, q4⟩, fun _ => q1, fun z => absurd h z⟩
  · refine ⟨l, ⟨rfl, fun _ _ => rfl, ?_, ?_⟩, fun z => absurd z h, fun _ => rfl⟩
    · by_cases hs : s = m
      · have : d = e := by omega
        rw [hs, this]
      · have h3 : m = e := by omega
        have h4 : d = s := by omega
        rw [h3, h4, seg_self, seg_self]
    · by_cases hs : s = m
      · have : d = e := by omega
        rw [hs, this, seg_self, seg_self]
      · have h3 : m = e := by omega
        have h4 : d = s := by omega
        rw [h3, h4]

theorem cb {p q : Prop} [Decidable p] [Decidable q] (h : p ∧ q) : cond (decide p) (decide q) false = true := by simp [h.1, h.2]
theorem cbn {p q : Prop} [Decidable p] [Decidable q] (h : ¬ (p ∧ q)) : cond (decide p) (decide q) false = false := by
  by_cases hp : p
  · have hq : ¬ q := fun z => h ⟨hp, z⟩
    simp [hp, hq]
  · simp [hp]

include hle hc in
set_option maxHeartbeats 2000000 in
theorem ev_symMerge : ∀ (n : Nat) (l : List Sh) (a m b : Nat), b - a = n → a < m → m < b → b ≤ l.length → l.length < 562949953421312 → (∀ x ∈ l, Dm x) → Srt le (seg l a m) → Srt le (seg l m b) →
    ∃ r, Ev (fun k => slices_symMergeCmpFunc_1 k l (a : Int) (m : Int) (b : Int) ()) r ∧ Mgd le l a m b r := by
  intro n
  induction n using Nat.strongRecOn with
  | ind n ih =>
    intro l a m b hn ham hmb hb hu2 hd hs1 hs2
    have hu : l.length < 1125899906842624 := by omega
    by_cases c1 : m = a + 1
    · -- one on the left
      subst c1
      obtain ⟨e, g1, g2, g3, g4, g5⟩ := ev_sm_c3 hle hc l hu hd a (a + 1) b (by omega) hb hs2 _ (a + 1) b rfl (by omega) (by omega) (by omega) (fun q z1 z2 => by omega) (fun q z1 z2 => by omega)
      obtain ⟨r, q1, q2, q3⟩ := ev_sm_c9 l.length hu e (by omega) (by omega) _ a l rfl (by omega) rfl
      refine ⟨r, .step (fun k => slices_symMergeCmpFunc_1_eq k _ _ _ _ _) (.tt ?_ (g5 r q1)), q2, fun p hp => ?_, ?_⟩
      · rw [sws (by omega) (by omega)]
        simp
      · rw [q3, if_neg (by omega), if_neg (by omega)]
      · have ha : l[a]? = some (l.getD a sh0) := sh_get (by omega)
        rw [seg_one ha, seg_split (l := l) (a := a + 1) (m := e) (b := b) g1 g2]
        have hsp := mrg_split le ([] : List Sh).length.succ [] [l.getD a sh0] (seg l (a + 1) e) (seg l e b)
        have key := mrg_split le _ [] [l.getD a sh0] (seg l (a + 1) e) (seg l e b) rfl (by simp) (fun y hy x hx => by
          obtain ⟨q, z1, z2, z3⟩ := seg_mem hy
          rw [sh_get (by omega)] at z3
          injection z3 with z3
          have hx' : x = l.getD a sh0 := by simpa using hx
          rw [hx', ← z3]
          exact g3 q z1 z2)
        rw [List.nil_append, mrg_nil_left] at key
        rw [key]
        have key2 := mrg_split le _ [l.getD a sh0] [] [] (seg l e b) rfl (fun x hx y hy => by
          obtain ⟨q, z1, z2, z3⟩ := seg_mem hy
          rw [sh_get (by omega)] at z3
          injection z3 with z3
          have hx' : x = l.getD a sh0 := by simpa using hx
          rw [hx', ← z3]
          exact g4 q z1 z2) (by simp)
        rw [List.append_nil, List.nil_append, mrg_nil_left, mrg_nil_right] at key2
        rw [key2, seg_split (l := r) (a := a) (m := e - 1) (b := b) (by omega) (by omega), seg_split (l := r) (a := e - 1) (m := e) (b := b) (by omega) (by omega)]
        have e1 : seg r a (e - 1) = seg l (a + 1) e := by
          apply List.ext_getElem?
          intro q
          rw [seg_get, seg_get]
          by_cases h : q < e - 1 - a
          · rw [if_pos h, if_pos (by omega), q3, if_pos (by omega)]
            congr 1
            omega
          · rw [if_neg h, if_neg (by omega)]
        have e2 : seg r (e - 1) e = [l.getD a sh0] := by
          have he : e = e - 1 + 1 := by omega
          have hr : r[e - 1]? = some (l.getD a sh0) := by
            rw [q3, if_neg (by omega), if_pos rfl]
            exact ha
          have := seg_one hr
          rw [← he] at this
          exact this
        have e3 : seg r e b = seg l e b := seg_congr fun p z1 z2 => by rw [q3, if_neg (by omega), if_neg (by omega)]
        rw [e1, e2, e3]
    · by_cases c2 : b = m + 1
      · subst c2
        obtain ⟨e, g1, g2, g3, g4, g5⟩ := ev_sm_c15 hle hc l hu hd a m (by omega) hs1 _ a m rfl (by omega) (by omega) (by omega) (fun q z1 z2 => by omega) (fun q z1 z2 => by omega)
        obtain ⟨r, q1, q2, q3⟩ := ev_sm_c21 l.length hu e _ m l rfl (by omega) (by omega) rfl
        refine ⟨r, .step (fun k => slices_symMergeCmpFunc_1_eq k _ _ _ _ _) (.ff ?_ (.tt ?_ (g5 r q1))), q2, fun p hp => ?_, ?_⟩
        · rw [sws (by omega) (by omega)]
          simp
          omega
        · rw [sws (by omega) (by omega)]
          simp
        · rw [q3, if_neg (by omega), if_neg (by omega)]
        · have ha : l[m]? = some (l.getD m sh0) := sh_get (by omega)
          rw [seg_one ha, seg_split (l := l) (a := a) (m := e) (b := m) g1 g2]
          have key := mrg_split le _ (seg l a e) (seg l e m) [] [l.getD m sh0] rfl (fun x hx y hy => by
            obtain ⟨q, z1, z2, z3⟩ := seg_mem hx
            rw [sh_get (by omega)] at z3
            injection z3 with z3
            have hy' : y = l.getD m sh0 := by simpa using hy
            rw [hy', ← z3]
            exact g3 q z1 z2) (by simp)
          rw [List.nil_append, mrg_nil_right] at key
          rw [key]
          have key2 := mrg_split le _ [] (seg l e m) [l.getD m sh0] [] rfl (by simp) (fun y hy x hx => by
            obtain ⟨q, z1, z2, z3⟩ := seg_mem hx
            rw [sh_get (by omega)] at z3
            injection z3 with z3
            have hy' : y = l.getD m sh0 := by simpa using hy
            rw [hy', ← z3]
            exact g4 q z1 z2)
          rw [List.append_nil, List.nil_append, mrg_nil_left, mrg_nil_right] at key2
          rw [key2, seg_split (l := r) (a := a) (m := e) (b := m + 1) (by omega) (by omega), seg_split (l := r) (a := e) (m := e + 1) (b := m + 1) (by omega) (by omega)]
          have e1 : seg r a e = seg l a e := seg_congr fun p z1 z2 => by rw [q3, if_neg (by omega), if_neg (by omega)]
          have e2 : seg r e (e + 1) = [l.getD m sh0] := seg_one (by rw [q3, if_pos rfl]; exact ha)
          have e3 : seg r (e + 1) (m + 1) = seg l e m := by
            apply List.ext_getElem?
            intro q
            rw [seg_get, seg_get]
            by_cases h : q < m - e
            · rw [if_pos (by omega), if_pos h, q3, if_neg (by omega), if_pos (by omega)]
              congr 1
              omega
            · rw [if_neg (by omega), if_neg h]
          rw [e1, e2, e3]
      · -- both longer
        obtain ⟨d, hdd⟩ : ∃ d, d = (a + b) / 2 := ⟨_, rfl⟩
        have hrange : ∃ lo hi : Nat, a ≤ lo ∧ lo ≤ hi ∧ hi ≤ m ∧ hi ≤ d ∧ d + m ≤ lo + b ∧ (lo = a ∨ lo + b = d + m) ∧ (hi = d ∨ hi = m) ∧ ((m > d → hi = d ∧ lo + b = d + m) ∧ (¬ m > d → hi = m ∧ lo = a)) := by
          by_cases h : m > d
          · exact ⟨d + m - b, d, by omega, by omega, by omega, by omega, by omega, .inr (by omega), .inl rfl, fun _ => ⟨rfl, by omega⟩, fun z => absurd h z⟩
          · exact ⟨a, m, by omega, by omega, by omega, by omega, by omega, .inl rfl, .inr rfl, fun z => absurd z h, fun _ => ⟨rfl, rfl⟩⟩
        obtain ⟨lo, hi, r1, r2, r3, r4, r5, r6, r7, r8, r9⟩ := hrange
        obtain ⟨s, g1, g2, g3, g4, g5⟩ := ev_sm_c33 hc l hu2 hd a m b d lo hi ham hmb hb r1 r3 r5 (by omega) r4 (by omega) _ lo hi rfl (by omega) r2 (by omega) (fun z => by omega) (fun z => by omega)
        obtain ⟨e, he⟩ : ∃ e, e = d + m - s := ⟨_, rfl⟩
        have hsm : s ≤ m := by omega
        have hme : m ≤ e := by omega
        have heb : e ≤ b := by omega
        have hsd : s ≤ d := by omega
        have hde : d ≤ e := by omega
        obtain ⟨t, ⟨t1, t2, t3, t4⟩, t5, t6⟩ := tnd_ev l hu (s := s) (m := m) (e := e) (d := d) hsm hme (by omega) (by omega)
        -- the two parts
        have hL1 : seg t a s = seg l a s := seg_congr fun p z1 z2 => t2 p (.inl z2)
        have hR2 : seg t e b = seg l e b := seg_congr fun p z1 z2 => t2 p (.inr z1)
        have hsplitL : seg l a m = seg l a s ++ seg l s m := seg_split (by omega) hsm
        have hsplitR : seg l m b = seg l m e ++ seg l e b := seg_split hme heb
        have sL1 : Srt le (seg t a s) := by rw [hL1]; exact hs1.sub (by omega) hsm
        have sR1 : Srt le (seg t s d) := by rw [t3]; exact hs2.sub (by omega) heb
        have sL2 : Srt le (seg t d e) := by rw [t4]; exact hs1.sub (by omega) (by omega)
        have sR2 : Srt le (seg t e b) := by rw [hR2]; exact hs2.sub hme (by omega)
        have hdt : ∀ x ∈ t, Dm x := by
          intro x hx
          obtain ⟨p, hp⟩ := List.mem_iff_getElem?.1 hx
          by_cases hpo : p < s ∨ e ≤ p
          · rw [t2 p hpo] at hp
            exact hd x (List.mem_of_getElem? hp)
          · by_cases hpd : p < d
            · have : x ∈ seg t s d := seg_of (by omega) hpd hp
              rw [t3] at this
              obtain ⟨q, _, _, hq⟩ := seg_mem this
              exact hd x (List.mem_of_getElem? hq)
            · have : x ∈ seg t d e := seg_of (by omega) (by omega) hp
              rw [t4] at this
              obtain ⟨q, _, _, hq⟩ := seg_mem this
              exact hd x (List.mem_of_getElem? hq)
        -- the first part merged
        have first : ∃ r, Mgd le t a s d r ∧ ((a < s ∧ s < d) → Ev (fun k => slices_symMergeCmpFunc_1 k t (a : Int) (s : Int) (d : Int) ()) r) ∧ (¬ (a < s ∧ s < d) → r = t) := by
          by_cases h : a < s ∧ s < d
          · obtain ⟨r, q1, q2⟩ := ih (d - a) (by omega) t a s d rfl h.1 h.2 (by omega) (by omega) hdt sL1 sR1
            exact ⟨r, q2, fun _ => q1, fun z => absurd h z⟩
          · refine ⟨t, ?_, fun z => absurd z h, fun _ => rfl⟩
            by_cases h2 : a = s
            · rw [h2]; exact mgd_self_l t
            · have h3 : s = d := by omega
              rw [h3]; exact mgd_self_r t
        obtain ⟨x, ⟨x1, x2, x3⟩, x4, x5⟩ := first
        have hdx : ∀ z ∈ x, Dm z := dm_of hdt x2 x3
        have hxL2 : seg x d e = seg t d e := seg_congr fun p z1 z2 => x2 p (.inr z1)
        have hxR2 : seg x e b = seg t e b := seg_congr fun p z1 z2 => x2 p (.inr (by omega))
        have second : ∃ r, Mgd le x d e b r ∧ ((d < e ∧ e < b) → Ev (fun k => slices_symMergeCmpFunc_1 k x (d : Int) (e : Int) (b : Int) ()) r) ∧ (¬ (d < e ∧ e < b) → r = x) := by
          by_cases h : d < e ∧ e < b
          · obtain ⟨r, q1, q2⟩ := ih (b - d) (by omega) x d e b rfl h.1 h.2 (by omega) (by omega) hdx (by rw [hxL2]; exact sL2) (by rw [hxR2]; exact sR2)
            exact ⟨r, q2, fun _ => q1, fun z => absurd h z⟩
          · refine ⟨x, ?_, fun z => absurd z h, fun _ => rfl⟩
            by_cases h2 : d = e
            · rw [h2]; exact mgd_self_l x
            · have h3 : e = b := by omega
              rw [h3]; exact mgd_self_r x
        obtain ⟨y, ⟨y1, y2, y3⟩, y4, y5⟩ := second
        refine ⟨y, ?_, by omega, fun p hp => ?_, ?_⟩
        · -- the run
          have hU : Ev (fun k => cond (cond (decide ((d : Int) < (e : Int))) (decide ((e : Int) < (b : Int))) false) ((slices_symMergeCmpFunc_1 k x (d : Int) (e : Int) (b : Int) ()).bind fun z => some z) (some x)) y := by
            by_cases h : d < e ∧ e < b
            · exact .tt (cb (by omega)) (.ret (y4 h) rfl)
            · exact .ff (cbn (by omega)) (y5 h ▸ .pure _)
          have hT : Ev (fun k => cond (cond (decide ((a : Int) < (s : Int))) (decide ((s : Int) < (d : Int))) false) ((slices_symMergeCmpFunc_1 k t (a : Int) (s : Int) (d : Int) ()).bind fun x => cond (cond (decide ((d : Int) < (e : Int))) (decide ((e : Int) < (b : Int))) false) ((slices_symMergeCmpFunc_1 k x (d : Int) (e : Int) (b : Int) ()).bind fun z => some z) (some x))
              (cond (cond (decide ((d : Int) < (e : Int))) (decide ((e : Int) < (b : Int))) false) ((slices_symMergeCmpFunc_1 k t (d : Int) (e : Int) (b : Int) ()).bind fun z => some z) (some t))) y := by
            by_cases h : a < s ∧ s < d
            · exact .tt (cb (by omega)) (.bind (x4 h) hU)
            · refine .ff (cbn (by omega)) ?_
              rw [← x5 h]
              exact hU
          have hfin : Ev (fun k => slices_symMergeCmpFunc_1_c33 k l (a : Int) (m : Int) (b : Int) () (d : Int) ((d + m : Nat) : Int) (s : Int) (s : Int) ((d + m - 1 : Nat) : Int)) y := by
            refine .step (fun k => slices_symMergeCmpFunc_1_c33_eq k _ _ _ _ _ _ _ _ _ _) (.nk (by omega) ?_)
            rw [sws (i := d + m) (j := s) (by omega) (by omega), ← he]
            by_cases h : s < m ∧ m < e
            · exact .tt (cb (by omega)) (.bind (t5 h) hT)
            · refine .ff (cbn (by omega)) ?_
              rw [← t6 h]
              exact hT
          have hloop := g5 y hfin
          refine .step (fun k => slices_symMergeCmpFunc_1_eq k _ _ _ _ _) (.ff ?_ (.ff ?_ ?_))
          · rw [sws (by omega) (by omega)]
            simp
            omega
          · rw [sws (by omega) (by omega)]
            simp
            omega
          · rw [swm (i := a) (j := b) (by omega) (by omega), ← hdd, swa (i := d) (j := m) (by omega) (by omega)]
            have hc32 : ∀ i j : Nat, i = lo → j = hi → Ev (fun k => slices_symMergeCmpFunc_1_c32 k l (a : Int) (m : Int) (b : Int) () (d : Int) ((d + m : Nat) : Int) (i : Int) (j : Int)) y := by
              intro i j hi' hj'
              refine .step (fun k => slices_symMergeCmpFunc_1_c32_eq k _ _ _ _ _ _ _ _ _) ?_
              rw [sw1 (by omega) (by omega), hi', hj']
              exact hloop
            by_cases h : m > d
            · refine .ck (by omega) ?_
              rw [sws (i := d + m) (j := b) (by omega) (by omega)]
              exact hc32 _ _ (by omega) (by omega)
            · exact .nk (by omega) (hc32 _ _ (by omega) (by omega))
        · rw [y2 p (by omega), x2 p (by omega), t2 p (by omega)]
        · have hy1 : seg y a d = seg x a d := seg_congr fun p z1 z2 => y2 p (.inl z2)
          rw [seg_split (l := y) (a := a) (m := d) (b := b) (by omega) (by omega), hy1, x3, y3, hxL2, hxR2, hL1, t3, t4, hR2, hsplitL, hsplitR]
          refine (mrg_split le _ _ _ _ _ rfl (fun p hp q hq => ?_) (fun q hq p hp => ?_)).symm
          · obtain ⟨i, i1, i2, i3⟩ := seg_mem hp
            obtain ⟨j, j1, j2, j3⟩ := seg_mem hq
            have h3 : le (l.getD (s - 1) sh0) (l.getD e sh0) = true := by
              have := g3 (by omega)
              have he' : d + m - 1 - (s - 1) = e := by omega
              rwa [he'] at this
            have hi1 : le p (l.getD (s - 1) sh0) = true := by
              by_cases hi' : i = s - 1
              · rw [hi', sh_get (by omega)] at i3
                injection i3 with i3
                rw [← i3]
                exact le_refl' hle _
              · exact hs1.seg (p := i) (q := s - 1) i1 (by omega) (by omega) i3 (sh_get (by omega))
            have hj1 : le (l.getD e sh0) q = true := by
              by_cases hj' : j = e
              · rw [hj', sh_get (by omega)] at j3
                injection j3 with j3
                rw [← j3]
                exact le_refl' hle _
              · exact hs2.seg (p := e) (q := j) (by omega) (by omega) j2 (sh_get (by omega)) j3
            exact hle.trans _ _ _ (hle.trans _ _ _ hi1 h3) hj1
          · obtain ⟨i, i1, i2, i3⟩ := seg_mem hp
            obtain ⟨j, j1, j2, j3⟩ := seg_mem hq
            have h4 : le (l.getD s sh0) (l.getD (e - 1) sh0) = false := by
              have := g4 (by omega)
              have he' : d + m - 1 - s = e - 1 := by omega
              rwa [he'] at this
            cases hpq : le p q with
            | false => rfl
            | true =>
              have hi1 : le (l.getD s sh0) p = true := by
                by_cases hi' : i = s
                · rw [hi', sh_get (by omega)] at i3
                  injection i3 with i3
                  rw [← i3]
                  exact le_refl' hle _
                · exact hs1.seg (p := s) (q := i) (by omega) (by omega) i2 (sh_get (by omega)) i3
              have hj1 : le q (l.getD (e - 1) sh0) = true := by
                by_cases hj' : j = e - 1
                · rw [hj', sh_get (by omega)] at j3
                  injection j3 with j3
                  rw [← j3]
                  exact le_refl' hle _
                · exact hs2.seg (p := j) (q := e - 1) (by omega) (by omega) (by omega) j3 (sh_get (by omega))
              have := hle.trans _ _ _ (hle.trans _ _ _ hi1 hpq) hj1
              rw [h4] at this
              exact absurd this (by simp)
end
end Go.Proofs.Ytoiahmmockgcbaa.Eq
