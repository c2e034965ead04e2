/- The interpreter is right, first part: each single operation does in the model what the interpreter says. -/
import Derived.Test.YtgoepklennckmaaGreatDoorK1
import Derived.Laws.AppendOwn
import Derived.Laws.OwnMore
import Derived.Maps.AppendAt
import Derived.Deep.OwnRows
import Derived.Tactics
import Derived.Laws.Cells
import Derived.Laws.Rows
import Derived.Laws.CopyRow
import Derived.Laws.IdiomStrings
import Derived.Laws.Shifts
import Derived.Laws.Concat
import Derived.WideLaws
import Derived.Laws.Slices
import Derived.Laws.BytesString
import Derived.Laws.BytesArg
import Derived.Lib.ConvBytes
import Derived.Below
import Derived.Great.BuildSlice
import Derived.Lib.AppendStr
import Derived.Laws.Runes
import Derived.Laws.StructEq
import Derived.Lib.SliceRun
import Derived.WalkSpells

namespace Go.Ra

theorem castT_rfl {a : EK} (h : a = a) (x : a.T) : castT h x = x := rfl

def RC (w : World) (T : Nat → Prop) : (e : EK) → e.T → List Value → Prop
  | .unit, _, cs => cs = []
  | .int k, x, cs => cs = [.int k x]
  | .bool, x, cs => cs = [.bool x]
  | .str, x, cs => cs = [.string x]
  | .err, x, cs => (x = true ∧ cs = [.nilIface]) ∨ (x = false ∧ ∃ t u, cs = [.iface t u])
  | .pair a b, x, cs => ∃ c1 c2, cs = c1 ++ c2 ∧ RC w T a x.1 c1 ∧ RC w T b x.2 c2
  | .sl e, l, cs => ∃ a cap, cs = [.slice a l.length cap] ∧ l.length ≤ cap ∧ (0 < l.length → ∃ ad, a = some ad ∧ T ad.block ∧
      ∀ j x, l[j]? = some x → ∃ c, RC w T e x c ∧ ∀ i u, c[i]? = some u → w.cell? (ad.add (j * e.n + i)) = some u)

theorem RC.len {w : World} {T : Nat → Prop} : ∀ {e : EK} {x : e.T} {cs : List Value}, RC w T e x cs → cs.length = e.n
  | .unit, _, _, h => by simp only [RC] at h; simp [h, EK.n]
  | .int _, _, _, h => by simp only [RC] at h; simp [h, EK.n]
  | .bool, _, _, h => by simp only [RC] at h; simp [h, EK.n]
  | .str, _, _, h => by simp only [RC] at h; simp [h, EK.n]
  | .err, _, _, h => by
    simp only [RC] at h
    rcases h with ⟨_, rfl⟩ | ⟨_, t, u, rfl⟩ <;> rfl
  | .pair a b, x, cs, h => by
    simp only [RC] at h
    obtain ⟨c1, c2, rfl, h1, h2⟩ := h
    simp [EK.n, RC.len h1, RC.len h2]
  | .sl e, l, cs, h => by
    simp only [RC] at h
    obtain ⟨a, cap, rfl, _⟩ := h
    rfl

theorem RC.one {w : World} {T : Nat → Prop} : ∀ {e : EK} {x : e.T} {cs : List Value}, RC w T e x cs → ∀ u ∈ cs, u.oneCell' = true
  | .unit, _, _, h, u, hu => by simp only [RC] at h; simp [h] at hu
  | .int _, _, _, h, u, hu => by simp only [RC] at h; subst h; simp at hu; subst hu; rfl
  | .bool, _, _, h, u, hu => by simp only [RC] at h; subst h; simp at hu; subst hu; rfl
  | .str, _, _, h, u, hu => by simp only [RC] at h; subst h; simp at hu; subst hu; rfl
  | .err, _, _, h, u, hu => by
    simp only [RC] at h
    rcases h with ⟨_, rfl⟩ | ⟨_, t, v, rfl⟩ <;> (simp at hu; subst hu; rfl)
  | .pair a b, x, cs, h, u, hu => by
    simp only [RC] at h
    obtain ⟨c1, c2, rfl, h1, h2⟩ := h
    rcases List.mem_append.1 hu with hu | hu
    · exact RC.one h1 u hu
    · exact RC.one h2 u hu
  | .sl e, l, cs, h, u, hu => by
    simp only [RC] at h
    obtain ⟨a, cap, rfl, _⟩ := h
    simp at hu
    subst hu
    rfl

theorem cell_same {w w' : World} {a : Addr} (h : w'.heap[a.block]? = w.heap[a.block]?) : w'.cell? a = w.cell? a := by simp [World.cell?, h]

theorem add_block (a : Addr) (n : Nat) : (a.add n).block = a.block := by unfold Addr.add; split <;> rfl

theorem RC.mono {w w' : World} {T T' : Nat → Prop} (hw : ∀ b, T b → w'.heap[b]? = w.heap[b]?) (hT : ∀ b, T b → T' b) : ∀ {e : EK} {x : e.T} {cs : List Value}, RC w T e x cs → RC w' T' e x cs
  | .unit, _, _, h => by simpa only [RC] using h
  | .int _, _, _, h => by simpa only [RC] using h
  | .bool, _, _, h => by simpa only [RC] using h
  | .str, _, _, h => by simpa only [RC] using h
  | .err, _, _, h => by simpa only [RC] using h
  | .pair a b, x, cs, h => by
    simp only [RC] at h ⊢
    obtain ⟨c1, c2, rfl, h1, h2⟩ := h
    exact ⟨c1, c2, rfl, RC.mono hw hT h1, RC.mono hw hT h2⟩
  | .sl e, l, cs, h => by
    simp only [RC] at h ⊢
    obtain ⟨a, cap, rfl, hc, h⟩ := h
    refine ⟨a, cap, rfl, hc, fun hp => ?_⟩
    obtain ⟨ad, ha, ht, h⟩ := h hp
    refine ⟨ad, ha, hT _ ht, fun j x hj => ?_⟩
    obtain ⟨c, h1, h2⟩ := h j x hj
    refine ⟨c, RC.mono hw hT h1, fun i u hu => ?_⟩
    have hb : w'.heap[(ad.add (j * e.n + i)).block]? = w.heap[(ad.add (j * e.n + i)).block]? := by rw [add_block]; exact hw _ ht
    rw [cell_same hb]
    exact h2 i u hu

theorem isZ_ok {w : World} {T : Nat → Prop} : ∀ {e : EK} {vs r : List Value}, isZ e vs = some r → ∃ cs, vs = cs ++ r ∧ RC w T e e.d cs
  | .unit, vs, r, h => by
    simp only [isZ, Option.some.injEq] at h
    exact ⟨[], by simp [h], by simp only [RC]⟩
  | .int k, vs, r, h => by
    rcases vs with _ | ⟨v, vs⟩
    · simp [isZ] at h
    · cases v <;> simp [isZ] at h
      obtain ⟨⟨rfl, rfl⟩, rfl⟩ := h
      exact ⟨[.int k 0], rfl, by simp only [RC, EK.d]⟩
  | .bool, vs, r, h => by
    rcases vs with _ | ⟨v, vs⟩
    · simp [isZ] at h
    · cases v <;> simp [isZ] at h
      rename_i b
      cases b <;> simp at h
      subst h
      exact ⟨[.bool false], rfl, by simp only [RC, EK.d]⟩
  | .str, vs, r, h => by
    rcases vs with _ | ⟨v, vs⟩
    · simp [isZ] at h
    · cases v <;> simp [isZ] at h
      rename_i s
      cases hs : Nat.beq s.size 0 with
      | false => simp [hs] at h
      | true =>
        simp [hs] at h
        subst h
        have h0 : s.size = 0 := Nat.eq_of_beq_eq_true hs
        have : s = ⟨#[]⟩ := by
          cases s with | mk d =>
          have : d = #[] := Array.eq_empty_of_size_eq_zero h0
          rw [this]
        subst this
        exact ⟨[.string ⟨#[]⟩], rfl, by simp only [RC, EK.d]⟩
  | .err, vs, r, h => by
    rcases vs with _ | ⟨v, vs⟩
    · simp [isZ] at h
    · cases v <;> simp [isZ] at h
      subst h
      exact ⟨[.nilIface], rfl, by simp only [RC, EK.d]; simp⟩
  | .sl e, vs, r, h => by
    rcases vs with _ | ⟨v, vs⟩
    · simp [isZ] at h
    · cases v <;> (try (simp [isZ] at h; done))
      rename_i a l c
      cases a <;> cases l <;> cases c <;> simp [isZ] at h
      subst h
      exact ⟨[.slice none 0 0], rfl, by simp only [RC, EK.d]; exact ⟨none, 0, rfl, Nat.le_refl _, fun hp => absurd hp (by simp)⟩⟩
  | .pair a b, vs, r, h => by
    simp only [isZ] at h
    cases h1 : isZ a vs with
    | none => rw [h1] at h; simp at h
    | some r1 =>
      rw [h1] at h
      obtain ⟨c1, rfl, q1⟩ := isZ_ok (w := w) (T := T) h1
      obtain ⟨c2, rfl, q2⟩ := isZ_ok (w := w) (T := T) h
      refine ⟨c1 ++ c2, by simp, ?_⟩
      simp only [RC, EK.d]
      exact ⟨c1, c2, rfl, q1, q2⟩

structure Env where
  blk : Nat → Nat
  hdr : Nat → Value
  buf : Nat → Value

def Ent.slInfo : Ent → Option (EK × Nat)
  | .sl _ e l => some (e, l.length)
  | .frz _ e l => some (e, l.length)
  | .cv _ l => some (.int .u8, l.length)
  | _ => none
def Ent.isBox : Ent → Bool
  | .box _ _ => true
  | .bld _ _ _ => true
  | .bld0 _ _ => true
  | _ => false

def AllR {α β : Type} (R : α → β → Prop) : List α → List β → Prop
  | [], [] => True
  | a :: as, b :: bs => R a b ∧ AllR R as bs
  | _, _ => False

theorem AllR.len {α β : Type} {R : α → β → Prop} : ∀ {as : List α} {bs : List β}, AllR R as bs → as.length = bs.length
  | [], [], _ => rfl
  | _ :: _, _ :: _, h => by simp [AllR.len h.2]
  | [], _ :: _, h => h.elim
  | _ :: _, [], h => h.elim
theorem AllR.mono {α β : Type} {R R' : α → β → Prop} (hR : ∀ a b, R a b → R' a b) : ∀ {as : List α} {bs : List β}, AllR R as bs → AllR R' as bs
  | [], [], _ => trivial
  | _ :: _, _ :: _, h => ⟨hR _ _ h.1, AllR.mono hR h.2⟩
  | [], _ :: _, h => h.elim
  | _ :: _, [], h => h.elim
theorem AllR.at {α β : Type} {R : α → β → Prop} : ∀ {as : List α} {bs : List β}, AllR R as bs → ∀ (i : Nat) a, as[i]? = some a → ∃ b, bs[i]? = some b ∧ R a b
  | [], _, _, i, a, ha => by simp at ha
  | x :: as, y :: bs, h, 0, a, ha => by simp at ha; subst ha; exact ⟨y, rfl, h.1⟩
  | x :: as, y :: bs, h, i + 1, a, ha => by simpa using AllR.at h.2 i a (by simpa using ha)
  | _ :: _, [], h, _, _, _ => h.elim
theorem AllR.of_at {α β : Type} {R : α → β → Prop} : ∀ {as : List α} {bs : List β}, as.length = bs.length → (∀ (i : Nat) a b, as[i]? = some a → bs[i]? = some b → R a b) → AllR R as bs
  | [], [], _, _ => trivial
  | a :: as, b :: bs, hl, h => ⟨h 0 a b rfl rfl, AllR.of_at (by simpa using hl) fun i x y hx hy => h (i + 1) x y (by simpa using hx) (by simpa using hy)⟩
  | [], _ :: _, hl, _ => by simp at hl
  | _ :: _, [], hl, _ => by simp at hl
theorem AllR.append {α β : Type} {R : α → β → Prop} : ∀ {as : List α} {bs : List β} {cs : List α} {ds : List β}, AllR R as bs → AllR R cs ds → AllR R (as ++ cs) (bs ++ ds)
  | [], [], _, _, _, k => k
  | _ :: _, _ :: _, _, _, h, k => ⟨h.1, AllR.append h.2 k⟩
  | [], _ :: _, _, _, h, _ => h.elim
  | _ :: _, [], _, _, h, _ => h.elim
theorem AllR.drop {α β : Type} {R : α → β → Prop} : ∀ {as : List α} {bs : List β}, AllR R as bs → ∀ n, AllR R (as.drop n) (bs.drop n)
  | _, _, h, 0 => h
  | [], [], _, _ + 1 => trivial
  | _ :: _, _ :: _, h, n + 1 => AllR.drop h.2 n
  | [], _ :: _, h, _ => h.elim
  | _ :: _, [], h, _ => h.elim
theorem AllR.take {α β : Type} {R : α → β → Prop} : ∀ {as : List α} {bs : List β}, AllR R as bs → ∀ n, AllR R (as.take n) (bs.take n)
  | _, _, _, 0 => trivial
  | [], [], _, _ + 1 => trivial
  | _ :: _, _ :: _, h, n + 1 => ⟨h.1, AllR.take h.2 n⟩
  | [], _ :: _, h, _ => h.elim
  | _ :: _, [], h, _ => h.elim
theorem AllR.set {α β : Type} {R : α → β → Prop} : ∀ {as : List α} {bs : List β}, AllR R as bs → ∀ n a b, R a b → AllR R (as.set n a) (bs.set n b)
  | [], [], _, _, _, _, _ => trivial
  | _ :: _, _ :: _, h, 0, _, _, k => ⟨k, h.2⟩
  | _ :: _, _ :: _, h, n + 1, a, b, k => ⟨h.1, AllR.set h.2 n a b k⟩
  | [], _ :: _, h, _, _, _, _ => h.elim
  | _ :: _, [], h, _, _, _, _ => h.elim
theorem AllR.split {α β : Type} {R : α → β → Prop} : ∀ {as as' : List α} {bs : List β}, AllR R (as ++ as') bs → ∃ b1 b2, bs = b1 ++ b2 ∧ AllR R as b1 ∧ AllR R as' b2
  | [], _, bs, h => ⟨[], bs, rfl, trivial, h⟩
  | a :: as, as', b :: bs, h => by
    obtain ⟨b1, b2, rfl, h1, h2⟩ := AllR.split (as := as) h.2
    exact ⟨b :: b1, b2, rfl, ⟨h.1, h1⟩, h2⟩
  | _ :: _, _, [], h => h.elim

inductive RV (E : Env) (hp : Nat → Option Ent) (w : World) (T : Nat → Prop) : AV → Value → Prop
  | val {e : EK} {x : e.T} {v : Value} (h : RC w T e x [v]) : RV E hp w T (.val e x) v
  | nil : RV E hp w T .nil (.slice none 0 0)
  | agg {cs : List AV} {vs : List Value} (hl : cs.length = vs.length) (h : ∀ (i : Nat) c v, cs[i]? = some c → vs[i]? = some v → RV E hp w T c v) : RV E hp w T (.agg cs) (.agg vs.toArray)
  | tup {cs : List AV} {vs : List Value} (hl : cs.length = vs.length) (h : ∀ (i : Nat) c v, cs[i]? = some c → vs[i]? = some v → RV E hp w T c v) : RV E hp w T (.tup cs) (.tuple vs.toArray)
  | ptr {d o : Nat} {v : Value} (he : (hp d).isSome = true) (h : ∀ ent, hp d = some ent → ent.isBox = true → v = .pointer (some ⟨E.blk d, o, none⟩)) : RV E hp w T (.ptr d o) v
  | own {d : Nat} {v : Value} (he : (hp d).isSome = true) (h : ∀ ent q, hp d = some ent → ent.slInfo = some q → v = E.hdr d) : RV E hp w T (.own d) v
  | elt {d : Nat} {i : Int} {o : Nat} {v : Value} (he : (hp d).isSome = true) (h : ∀ ent e n, hp d = some ent → ent.slInfo = some (e, n) → 0 ≤ i ∧ i < n ∧ ∃ ad m cap, E.hdr d = .slice (some ad) m cap ∧ v = .pointer (some (ad.add (i.toNat * e.n + o)))) : RV E hp w T (.elt d i o) v
  | rel {cs : List AV} {ad : Addr} {vs : List Value} (ht : T ad.block) (hl : cs.length = vs.length) (hc : ∀ (i : Nat) v, vs[i]? = some v → w.cell? (ad.add i) = some v) (hi : ∀ c ∈ cs, c.isCell = true) (h : ∀ (i : Nat) c v, cs[i]? = some c → vs[i]? = some v → RV E hp w T c v) : RV E hp w T (.rel cs) (.pointer (some ad))
  | fn {f : FuncId} {cs : List AV} {vs : List Value} (hl : cs.length = vs.length) (h : ∀ (i : Nat) c v, cs[i]? = some c → vs[i]? = some v → RV E hp w T c v) : RV E hp w T (.fn f cs) (.func (.func f) #[] vs.toArray)
  | mth {f : FuncId} {cs : List AV} {vs : List Value} (hl : cs.length = vs.length) (h : ∀ (i : Nat) c v, cs[i]? = some c → vs[i]? = some v → RV E hp w T c v) : RV E hp w T (.mth f cs) (.func (.func f) vs.toArray #[])
  | unk {c b0 b : Bool} (h : c = false → b = b0) : RV E hp w T (.unk c b0) (.bool b)
  | junk {v : Value} : RV E hp w T .junk v

def RS (E : Env) (hp : Nat → Option Ent) (w : World) (T : Nat → Prop) (tm : Nat → Value) : AV → Value → Prop
  | .gd L u, v => ((∀ q ∈ L, tm q.1 = .bool q.2) → RV E hp w T u v) ∧ ((¬ ∀ q ∈ L, tm q.1 = .bool q.2) → v = undef)
  | av, v => RV E hp w T av v

structure HStep (E E' : Env) (hp hp' : Nat → Option Ent) : Prop where
  keep : ∀ d, (hp d).isSome = true → (hp' d).isSome = true
  blk : ∀ d, (hp d).isSome = true → E'.blk d = E.blk d
  hdr : ∀ d, (hp d).isSome = true → E'.hdr d = E.hdr d
  box : ∀ d ent', (hp d).isSome = true → hp' d = some ent' → ent'.isBox = true → ∃ ent, hp d = some ent ∧ ent.isBox = true
  sl : ∀ d ent' q, (hp d).isSome = true → hp' d = some ent' → ent'.slInfo = some q → ∃ ent, hp d = some ent ∧ ent.slInfo = some q

theorem HStep.refl (E : Env) (hp : Nat → Option Ent) : HStep E E hp hp := ⟨fun _ h => h, fun _ _ => rfl, fun _ _ => rfl, fun _ ent _ h hb => ⟨ent, h, hb⟩, fun _ ent _ _ h hq => ⟨ent, h, hq⟩⟩
theorem HStep.trans {E E' E'' : Env} {hp hp' hp'' : Nat → Option Ent} (h : HStep E E' hp hp') (k : HStep E' E'' hp' hp'') : HStep E E'' hp hp'' where
  keep d hd := k.keep d (h.keep d hd)
  blk d hd := (k.blk d (h.keep d hd)).trans (h.blk d hd)
  hdr d hd := (k.hdr d (h.keep d hd)).trans (h.hdr d hd)
  box d ent hd he hb := by
    obtain ⟨e1, h1, b1⟩ := k.box d ent (h.keep d hd) he hb
    exact h.box d e1 hd h1 b1
  sl d ent q hd he hb := by
    obtain ⟨e1, h1, b1⟩ := k.sl d ent q (h.keep d hd) he hb
    exact h.sl d e1 q hd h1 b1

theorem RV.mono {E E' : Env} {hp hp' : Nat → Option Ent} {w w' : World} {T T' : Nat → Prop} (hH : HStep E E' hp hp') (hw : ∀ b, T b → w'.heap[b]? = w.heap[b]?) (hT : ∀ b, T b → T' b) {av : AV} {v : Value}
    (h : RV E hp w T av v) : RV E' hp' w' T' av v := by
  induction h with
  | val h => exact .val (RC.mono hw hT h)
  | nil => exact .nil
  | agg hl _ ih => exact .agg hl ih
  | tup hl _ ih => exact .tup hl ih
  | @ptr d o v he h =>
    refine .ptr (hH.keep _ he) fun ent' h1 h2 => ?_
    obtain ⟨ent, k1, k2⟩ := hH.box d ent' he h1 h2
    rw [hH.blk d he]
    exact h ent k1 k2
  | @own d v he h =>
    refine .own (hH.keep _ he) fun ent' q h1 h2 => ?_
    obtain ⟨ent, k1, k2⟩ := hH.sl d ent' q he h1 h2
    rw [hH.hdr d he]
    exact h ent q k1 k2
  | @elt d i o v he h =>
    refine .elt (hH.keep _ he) fun ent' e n h1 h2 => ?_
    obtain ⟨ent, k1, k2⟩ := hH.sl d ent' _ he h1 h2
    rw [hH.hdr d he]
    exact h ent e n k1 k2
  | @rel cs ad vs ht hl hc hi _ ih =>
    refine .rel (hT _ ht) hl (fun i v hv => ?_) hi ih
    have hb : w'.heap[(ad.add i).block]? = w.heap[(ad.add i).block]? := by rw [add_block]; exact hw _ ht
    rw [cell_same hb]
    exact hc i v hv
  | fn hl _ ih => exact .fn hl ih
  | mth hl _ ih => exact .mth hl ih
  | unk h => exact .unk h
  | junk => exact .junk

theorem RS.mono {E E' : Env} {hp hp' : Nat → Option Ent} {w w' : World} {T T' : Nat → Prop} {tm tm' : Nat → Value} (hH : HStep E E' hp hp') (hw : ∀ b, T b → w'.heap[b]? = w.heap[b]?) (hT : ∀ b, T b → T' b) {av : AV} {v : Value}
    (ht : ∀ L u, av = .gd L u → ∀ q ∈ L, tm' q.1 = tm q.1) (h : RS E hp w T tm av v) : RS E' hp' w' T' tm' av v := by
  cases av with
  | gd L u => exact ⟨fun hq => RV.mono hH hw hT (h.1 fun q hm => by rw [← ht L u rfl q hm]; exact hq q hm), fun hn => h.2 fun hq => hn fun q hm => by rw [ht L u rfl q hm]; exact hq q hm⟩
  | val e x => exact RV.mono hH hw hT (av := .val e x) h
  | nil => exact RV.mono hH hw hT (av := .nil) h
  | agg cs => exact RV.mono hH hw hT (av := .agg cs) h
  | tup cs => exact RV.mono hH hw hT (av := .tup cs) h
  | ptr d o => exact RV.mono hH hw hT (av := .ptr d o) h
  | own d => exact RV.mono hH hw hT (av := .own d) h
  | elt d i o => exact RV.mono hH hw hT (av := .elt d i o) h
  | rel cs => exact RV.mono hH hw hT (av := .rel cs) h
  | fn f cs => exact RV.mono hH hw hT (av := .fn f cs) h
  | mth f cs => exact RV.mono hH hw hT (av := .mth f cs) h
  | unk c b => exact RV.mono hH hw hT (av := .unk c b) h
  | junk => exact .junk

def obk (E : Env) (d : Nat) : Ent → Nat → Prop
  | .box _ _, b => E.blk d = b
  | .sl _ _ _, b => (E.hdr d).ownBlock = some b
  | .bld _ _ _, b => E.blk d = b ∨ (E.buf d).ownBlock = some b
  | .bld0 _ _, b => E.blk d = b
  | .cv _ _, b => (E.hdr d).ownBlock = some b
  | _, _ => False
def bcells (s : ByteArray) : List Value := s.data.toList.map fun b => .int .u8 b.toNat
def BldAt (w : World) (t e : TypeId) (b : Nat) (v : Value) (s : ByteArray) : Prop :=
  ∃ p, w.heap[b]? = some (.cells #[p, v] t (0, 0)) ∧ (p = .pointer none ∨ p = .pointer (some ⟨b, 0, none⟩)) ∧ w.ownsRow 0 e 1 v s.size (bcells s) ∧ v.ownBlock ≠ some b

def CvAt (w : World) (t : TypeId) (v : Value) (l : List Int) : Prop :=
  ∃ g cap cur, v = .slice (some ⟨g, 0, none⟩) l.length cap ∧ w.heap[g]? = some (.cells cur t (cur.size, cur.size + 1)) ∧ l.length ≤ cap ∧ cur.size = cap ∧ cur.toList.take l.length = l.map (Value.int .u8)

def RE (E : Env) (hp : Nat → Option Ent) (w : World) (T : Nat → Prop) (d : Nat) : Ent → Prop
  | .box t cs => ∃ vs : List Value, w.heap[E.blk d]? = some (.cells vs.toArray t (0, 0)) ∧ AllR (fun c v => RV E hp w T c v ∧ c.isCell = true) cs vs
  | .sl t e l => ∃ rows : List (List Value), AllR (fun x r => RC w T e x r) l rows ∧ w.ownsRow 0 t e.n (E.hdr d) l.length rows.flatten
  | .frz _ e l => RC w T (.sl e) l [E.hdr d]
  | .bld t e s => BldAt w t e (E.blk d) (E.buf d) s
  | .bld0 t _ => w.heap[E.blk d]? = some (.cells #[.pointer none, .slice none 0 0] t (0, 0))
  | .cv t l => CvAt w t (E.hdr d) l
  | .dead => True

structure RelD (base : Nat) (S I : Nat → Prop) (E : Env) (T : Nat → Prop) (hp : Nat → Option Ent) (w : World) : Prop where
  ent : ∀ d ent, hp d = some ent → RE E hp w T d ent
  inj : ∀ d d' ent ent' b, hp d = some ent → hp d' = some ent' → obk E d ent b → obk E d' ent' b → d = d'
  own : ∀ d ent b, hp d = some ent → obk E d ent b → ¬ T b ∧ (I b ∨ base ≤ b) ∧ b < w.heap.size
  tb : ∀ b, T b → (S b ∨ I b ∨ base ≤ b) ∧ b < w.heap.size
  st : ∀ b, S b → T b

structure Mod (M : Nat → Prop) (w w' : World) : Prop where
  os : w'.os = w.os
  tape : w'.tape = w.tape
  output : w'.output = w.output
  size : w.heap.size ≤ w'.heap.size
  block : ∀ k, k < w.heap.size → ¬ M k → w'.heap[k]? = w.heap[k]?

theorem Mod.refl (M : Nat → Prop) (w : World) : Mod M w w := ⟨rfl, rfl, rfl, Nat.le_refl _, fun _ _ _ => rfl⟩
theorem Mod.trans {M : Nat → Prop} {a b c : World} (h : Mod M a b) (k : Mod M b c) : Mod M a c :=
  ⟨k.os.trans h.os, k.tape.trans h.tape, k.output.trans h.output, Nat.le_trans h.size k.size, fun i hi hm => (k.block i (Nat.lt_of_lt_of_le hi h.size) hm).trans (h.block i hi hm)⟩
theorem Mod.weaken {M M' : Nat → Prop} {a b : World} (h : Mod M a b) (hm : ∀ k, k < a.heap.size → M k → M' k) : Mod M' a b := ⟨h.os, h.tape, h.output, h.size, fun k hk hn => h.block k hk fun z => hn (hm k hk z)⟩

class Known where
  K : World → (Nat → Prop) → Prop
  mono : ∀ {w w' : World} {S S' : Nat → Prop}, (∀ b, S b → w'.heap[b]? = w.heap[b]?) → (∀ b, S b → S' b) → K w S → K w' S'

variable [Known]

structure Rel (S I : Nat → Prop) (w0 : World) (E : Env) (T : Nat → Prop) (st : St) (a : Act) (w : World) : Prop where
  data : RelD w0.heap.size S I E T (hget st.hp) w
  sl : AllR (fun av v => RS E (hget st.hp) w T (fun i => a.tmps.getD i undef) av v) st.sl a.tmps.toList
  mod : Mod (fun k => I k ∨ w0.heap.size ≤ k) w0 w
  defers : a.defers = [] ∧ Known.K w0 (fun b => S b ∧ ¬ I b) ∧ ∀ b, S b → b < w0.heap.size

end Go.Ra

namespace Go.Ra

theorem beqE_ok : ∀ {e : EK} {x y : e.T}, beqE e x y = true → x = y
  | .unit, _, _, _ => rfl
  | .int _, x, y, h => by simpa [beqE] using h
  | .bool, x, y, h => by simpa [beqE] using h
  | .err, x, y, h => by simpa [beqE] using h
  | .str, x, y, h => by simpa [beqE] using h
  | .pair a b, x, y, h => by
    simp only [beqE, Bool.and_eq_true] at h
    exact Prod.ext (beqE_ok h.1) (beqE_ok h.2)
  | .sl e, x, y, h => by
    have key : ∀ (l m : List e.T), beqE.beqL (beqE e) l m = true → l = m := by
      intro l
      induction l with
      | nil => intro m h; cases m with | nil => rfl | cons => simp [beqE.beqL] at h
      | cons a l ih =>
        intro m h
        cases m with
        | nil => simp [beqE.beqL] at h
        | cons b m =>
          simp only [beqE.beqL, Bool.and_eq_true] at h
          rw [beqE_ok h.1, ih m h.2]
    exact key x y (by simpa [beqE] using h)

theorem bothA_ok {e : EK} {a b : Option e.T} {y : e.T} (h : bothA e a b = some y) : a = some y ∧ b = some y := by
  unfold bothA at h
  split at h
  · rename_i p q
    cases hb : beqE e p q with
    | false => rw [hb] at h; simp at h
    | true =>
      rw [hb] at h
      simp only [cond_true, Option.some.injEq] at h
      subst h
      exact ⟨rfl, by rw [beqE_ok hb]⟩
  · simp at h


def upd (hp : Nat → Option Ent) (d : Nat) (e : Ent) : Nat → Option Ent := fun x => if x = d then some e else hp x
theorem upd_at (hp : Nat → Option Ent) (d : Nat) (e : Ent) : upd hp d e d = some e := by simp [upd]
theorem upd_ne {hp : Nat → Option Ent} {d x : Nat} {e : Ent} (h : x ≠ d) : upd hp d e x = hp x := by simp [upd, h]
theorem hget_cons (d : Nat) (e : Ent) (h : Heap) : hget ((d, e) :: h) = upd (hget h) d e := by
  funext x
  simp only [hget, upd]
  cases hb : Nat.beq d x with
  | true => simp [(Nat.eq_of_beq_eq_true hb).symm]
  | false =>
    have hne : ¬ x = d := fun h => Nat.ne_of_beq_eq_false hb h.symm
    simp [hne]

theorem ownsRow_same {w w' : World} {base : Nat} {t : TypeId} {n m : Nat} {v : Value} {xs : List Value} (h : w.ownsRow base t n v m xs) (hb : ∀ b, v.ownBlock = some b → w'.heap[b]? = w.heap[b]?) : w'.ownsRow base t n v m xs := by
  obtain ⟨h1, h2⟩ := h
  refine ⟨h1, ?_⟩
  rcases h2 with h2 | ⟨g, cap, cur, rfl, hg, hh, r⟩
  · exact .inl h2
  · exact .inr ⟨g, cap, cur, rfl, hg, by rw [hb g rfl]; exact hh, r⟩

theorem RE.mono {E E' : Env} {hp hp' : Nat → Option Ent} {w w' : World} {T T' : Nat → Prop} {d : Nat} {ent : Ent} (hH : HStep E E' hp hp') (hu : E'.buf d = E.buf d) (hd : (hp d).isSome = true) (hw : ∀ b, T b → w'.heap[b]? = w.heap[b]?) (hT : ∀ b, T b → T' b)
    (ho : ∀ b, obk E d ent b → w'.heap[b]? = w.heap[b]?) (h : RE E hp w T d ent) : RE E' hp' w' T' d ent := by
  cases ent with
  | box t cs =>
    obtain ⟨vs, h1, h2⟩ := h
    refine ⟨vs, ?_, h2.mono fun c v hc => ⟨RV.mono hH hw hT hc.1, hc.2⟩⟩
    rw [hH.blk d hd, ho _ rfl]
    exact h1
  | sl t e l =>
    obtain ⟨rows, h1, h2⟩ := h
    refine ⟨rows, h1.mono fun x r hr => RC.mono hw hT hr, ?_⟩
    rw [hH.hdr d hd]
    exact ownsRow_same h2 ho
  | frz t e l =>
    show RC w' T' (.sl e) l [E'.hdr d]
    rw [hH.hdr d hd]
    exact RC.mono hw hT h
  | bld t e s =>
    obtain ⟨p, h1, h2, h3, h4⟩ := h
    show BldAt w' t e (E'.blk d) (E'.buf d) s
    rw [hH.blk d hd, hu]
    exact ⟨p, by rw [ho _ (.inl rfl)]; exact h1, h2, ownsRow_same h3 fun b hb => ho b (.inr hb), h4⟩
  | bld0 t e =>
    show w'.heap[E'.blk d]? = _
    rw [hH.blk d hd, ho _ rfl]
    exact h
  | cv t l =>
    obtain ⟨g, cap, cur, h1, h2, h3⟩ := h
    show CvAt w' t (E'.hdr d) l
    rw [hH.hdr d hd]
    exact ⟨g, cap, cur, h1, by rw [ho g (by show (E.hdr d).ownBlock = some g; rw [h1]; rfl)]; exact h2, h3⟩
  | dead => trivial

theorem obk_same {E E' : Env} {d : Nat} (hb : E'.blk d = E.blk d) (hh : E'.hdr d = E.hdr d) (hu : E'.buf d = E.buf d) (ent : Ent) : obk E' d ent = obk E d ent := by
  funext b
  cases ent <;> simp [obk, hb, hh, hu]

theorem flatten_at {rows : List (List Value)} {n : Nat} (hn : ∀ r ∈ rows, r.length = n) : ∀ {j : Nat} {r : List Value}, rows[j]? = some r → ∀ {i : Nat} {u : Value}, r[i]? = some u → rows.flatten[j * n + i]? = some u := by
  induction rows with
  | nil => intro j r h; simp at h
  | cons a rows ih =>
    intro j r h i u hu
    have ha : a.length = n := hn a (by simp)
    cases j with
    | zero =>
      simp at h
      subst h
      have hi : i < a.length := (List.getElem?_eq_some_iff.1 hu).1
      simp only [Nat.zero_mul, Nat.zero_add, List.flatten_cons]
      rw [List.getElem?_append_left hi]
      exact hu
    | succ j =>
      simp only [List.flatten_cons]
      rw [List.getElem?_append_right (by rw [ha, Nat.succ_mul]; omega), ha]
      have : (j + 1) * n + i - n = j * n + i := by rw [Nat.succ_mul]; omega
      rw [this]
      exact ih (fun r hr => hn r (by simp [hr])) (by simpa using h) hu

theorem rows_len {w : World} {T : Nat → Prop} {e : EK} {l : List e.T} {rows : List (List Value)} (h : AllR (fun x r => RC w T e x r) l rows) : ∀ r ∈ rows, r.length = e.n := by
  intro r hr
  obtain ⟨j, hj⟩ := List.getElem?_of_mem hr
  have hl := h.len
  have hlt : j < l.length := by rw [hl]; exact (List.getElem?_eq_some_iff.1 hj).1
  obtain ⟨r', h1, h2⟩ := h.at j l[j] (List.getElem?_eq_getElem hlt)
  rw [hj] at h1
  injection h1 with h1
  subst h1
  exact h2.len

theorem own_RC {w : World} {T T' : Nat → Prop} {e : EK} {l : List e.T} {rows : List (List Value)} {t : TypeId} {v : Value} {base : Nat} (h : AllR (fun x r => RC w T e x r) l rows) (ho : w.ownsRow base t e.n v l.length rows.flatten) (hT : ∀ b, T b → T' b) (hb : ∀ b, v.ownBlock = some b → T' b) : RC w T' (.sl e) l [v] := by
  simp only [RC]
  have hc := fun g (hg : v.ownBlock = some g) => ho.cells hg
  rcases ho.2 with ⟨rfl, h0⟩ | ⟨g, cap, cur, rfl, hg, hh, h1, h2, h3, h4⟩
  · exact ⟨none, 0, by rw [h0], by omega, fun hp => by omega⟩
  · refine ⟨some ⟨g, 0, none⟩, cap, rfl, h1, fun _ => ⟨_, rfl, hb g rfl, fun j x hj => ?_⟩⟩
    obtain ⟨r, hr, hx⟩ := h.at j x hj
    exact ⟨r, RC.mono (fun _ _ => rfl) hT hx, fun i u hu => hc g rfl _ u (flatten_at (rows_len h) hr hu)⟩

section steps
variable {base : Nat} {S I : Nat → Prop} {E : Env} {T : Nat → Prop} {hp : Nat → Option Ent} {w : World}

theorem RelD.world (D : RelD base S I E T hp w) {w' : World} {M : Nat → Prop} (hM : Mod M w w') (ho : ∀ d ent b, hp d = some ent → obk E d ent b → ¬ M b) (hT : ∀ b, T b → ¬ M b) : RelD base S I E T hp w' := by
  have hw : ∀ b, T b → w'.heap[b]? = w.heap[b]? := fun b hb => hM.block b (D.tb b hb).2 (hT b hb)
  refine ⟨fun d ent h => ?_, D.inj, fun d ent b h h1 => ?_, fun b hb => ⟨(D.tb b hb).1, Nat.lt_of_lt_of_le (D.tb b hb).2 hM.size⟩, D.st⟩
  · exact RE.mono (HStep.refl E hp) rfl (by simp [h]) hw (fun _ z => z) (fun b hb => hM.block b (D.own d ent b h hb).2.2 (ho d ent b h hb)) (D.ent d ent h)
  · obtain ⟨h2, h3, h4⟩ := D.own d ent b h h1
    exact ⟨h2, h3, Nat.lt_of_lt_of_le h4 hM.size⟩

theorem RelD.growT (D : RelD base S I E T hp w) {T' : Nat → Prop} (hT : ∀ b, T b → T' b) (hn : ∀ b, T' b → T b ∨ (base ≤ b ∧ b < w.heap.size ∧ ∀ d ent, hp d = some ent → ¬ obk E d ent b)) : RelD base S I E T' hp w := by
  refine ⟨fun d ent h => ?_, D.inj, fun d ent b h h1 => ?_, fun b hb => ?_, fun b hb => hT b (D.st b hb)⟩
  · exact RE.mono (HStep.refl E hp) rfl (by simp [h]) (fun _ _ => rfl) hT (fun _ _ => rfl) (D.ent d ent h)
  · obtain ⟨h2, h3, h4⟩ := D.own d ent b h h1
    refine ⟨fun hb => ?_, h3, h4⟩
    rcases hn b hb with k | ⟨_, _, k⟩
    · exact h2 k
    · exact k d ent h h1
  · rcases hn b hb with k | ⟨k1, k2, _⟩
    · exact D.tb b k
    · exact ⟨.inr (.inr k1), k2⟩

theorem HStep.add {E E' : Env} {d : Nat} {ent : Ent} (hd : hp d = none) (hb : ∀ x, x ≠ d → E'.blk x = E.blk x) (hh : ∀ x, x ≠ d → E'.hdr x = E.hdr x) : HStep E E' hp (upd hp d ent) where
  keep x hx := by
    unfold upd
    split <;> simp_all
  blk x hx := hb x (by rintro rfl; simp [hd] at hx)
  hdr x hx := hh x (by rintro rfl; simp [hd] at hx)
  box x ent' hx he hb' := by
    have hne : x ≠ d := by rintro rfl; simp [hd] at hx
    rw [upd_ne hne] at he
    exact ⟨ent', he, hb'⟩
  sl x ent' q hx he hb' := by
    have hne : x ≠ d := by rintro rfl; simp [hd] at hx
    rw [upd_ne hne] at he
    exact ⟨ent', he, hb'⟩

theorem RelD.add (D : RelD base S I E T hp w) {E' : Env} {d : Nat} {ent : Ent} (hd : hp d = none) (hb : ∀ x, x ≠ d → E'.blk x = E.blk x) (hh : ∀ x, x ≠ d → E'.hdr x = E.hdr x) (hu : ∀ x, x ≠ d → E'.buf x = E.buf x)
    (hE : RE E' (upd hp d ent) w T d ent) (ho : ∀ b, obk E' d ent b → ¬ T b ∧ (I b ∨ base ≤ b) ∧ b < w.heap.size ∧ ∀ d' ent', hp d' = some ent' → ¬ obk E d' ent' b) :
    RelD base S I E' T (upd hp d ent) w ∧ HStep E E' hp (upd hp d ent) := by
  have hS := HStep.add (ent := ent) hd hb hh
  have key : ∀ x ent', upd hp d ent x = some ent' → (x = d ∧ ent' = ent) ∨ (x ≠ d ∧ hp x = some ent' ∧ obk E' x ent' = obk E x ent') := by
    intro x ent' hx
    by_cases he : x = d
    · subst he
      rw [upd_at] at hx
      injection hx with hx
      exact .inl ⟨rfl, hx.symm⟩
    · rw [upd_ne he] at hx
      exact .inr ⟨he, hx, obk_same (hb x he) (hh x he) (hu x he) ent'⟩
  refine ⟨⟨fun x ent' hx => ?_, fun x x' ex ex' b hx hx' h1 h2 => ?_, fun x ent' b hx h1 => ?_, D.tb, D.st⟩, hS⟩
  · rcases key x ent' hx with ⟨rfl, rfl⟩ | ⟨hne, hx, _⟩
    · exact hE
    · exact RE.mono hS (hu x hne) (by simp [hx]) (fun _ _ => rfl) (fun _ z => z) (fun _ _ => rfl) (D.ent x ent' hx)
  · rcases key x ex hx with ⟨q1, q2⟩ | ⟨hne, hx1, e1⟩ <;> rcases key x' ex' hx' with ⟨q3, q4⟩ | ⟨hne', hx2, e2⟩
    · rw [q1, q3]
    · subst q1; subst q2
      exact absurd (e2 ▸ h2) ((ho b h1).2.2.2 x' ex' hx2)
    · subst q3; subst q4
      exact absurd (e1 ▸ h1) ((ho b h2).2.2.2 x ex hx1)
    · exact D.inj x x' ex ex' b hx1 hx2 (e1 ▸ h1) (e2 ▸ h2)
  · rcases key x ent' hx with ⟨rfl, rfl⟩ | ⟨hne, hx, e1⟩
    · exact ⟨(ho b h1).1, (ho b h1).2.1, (ho b h1).2.2.1⟩
    · exact D.own x ent' b hx (e1 ▸ h1)

theorem HStep.chg {E : Env} {d : Nat} {ent ent' : Ent} (hd : hp d = some ent) (hb : ent'.isBox = true → ent.isBox = true) (hs : ∀ q, ent'.slInfo = some q → ent.slInfo = some q) : HStep E E hp (upd hp d ent') where
  keep x hx := by
    unfold upd
    split <;> simp_all
  blk x hx := rfl
  hdr x hx := rfl
  box x e1 hx he h1 := by
    by_cases hne : x = d
    · subst hne
      rw [upd_at] at he
      injection he with he
      subst he
      exact ⟨ent, hd, hb h1⟩
    · rw [upd_ne hne] at he
      exact ⟨e1, he, h1⟩
  sl x e1 q hx he h1 := by
    by_cases hne : x = d
    · subst hne
      rw [upd_at] at he
      injection he with he
      subst he
      exact ⟨ent, hd, hs q h1⟩
    · rw [upd_ne hne] at he
      exact ⟨e1, he, h1⟩

theorem RelD.chg (D : RelD base S I E T hp w) {d : Nat} {ent ent' : Ent} {w' : World} {T' : Nat → Prop} (hd : hp d = some ent) (hb : ent'.isBox = true → ent.isBox = true) (hs : ∀ q, ent'.slInfo = some q → ent.slInfo = some q)
    (hM : Mod (fun k => obk E d ent k) w w') (hT : ∀ b, T b → T' b) (hT' : ∀ b, T' b → T b ∨ obk E d ent b)
    (ho : ∀ b, obk E d ent' b → obk E d ent b ∧ ¬ T' b) (hE : RE E (upd hp d ent') w' T' d ent') :
    RelD base S I E T' (upd hp d ent') w' ∧ HStep E E hp (upd hp d ent') := by
  have hS := HStep.chg (E := E) hd hb hs
  have hw : ∀ b, T b → w'.heap[b]? = w.heap[b]? := fun b hb => hM.block b (D.tb b hb).2 fun hk => (D.own d ent b hd hk).1 hb
  have key : ∀ x e1, upd hp d ent' x = some e1 → (x = d ∧ e1 = ent') ∨ (x ≠ d ∧ hp x = some e1) := by
    intro x e1 hx
    by_cases he : x = d
    · subst he
      rw [upd_at] at hx
      injection hx with hx
      exact .inl ⟨rfl, hx.symm⟩
    · rw [upd_ne he] at hx
      exact .inr ⟨he, hx⟩
  refine ⟨⟨fun x e1 hx => ?_, fun x x' ex ex' b hx hx' h1 h2 => ?_, fun x e1 b hx h1 => ?_, fun b hb => ?_, fun b hb => hT b (D.st b hb)⟩, hS⟩
  · rcases key x e1 hx with ⟨rfl, rfl⟩ | ⟨hne, hx⟩
    · exact hE
    · exact RE.mono hS rfl (by simp [hx]) hw hT (fun b hb => hM.block b (D.own x e1 b hx hb).2.2 fun hk => hne (D.inj x d e1 ent b hx hd hb hk)) (D.ent x e1 hx)
  · rcases key x ex hx with ⟨q1, q2⟩ | ⟨hne, hx1⟩ <;> rcases key x' ex' hx' with ⟨q3, q4⟩ | ⟨hne', hx2⟩
    · rw [q1, q3]
    · subst q1; subst q2
      exact D.inj _ x' ent ex' b hd hx2 (ho b h1).1 h2
    · subst q3; subst q4
      exact D.inj x _ ex ent b hx1 hd h1 (ho b h2).1
    · exact D.inj x x' ex ex' b hx1 hx2 h1 h2
  · rcases key x e1 hx with ⟨rfl, rfl⟩ | ⟨hne, hx⟩
    · obtain ⟨h2, h3⟩ := ho b h1
      obtain ⟨k1, k2, k3⟩ := D.own _ ent b hd h2
      exact ⟨h3, k2, Nat.lt_of_lt_of_le k3 hM.size⟩
    · obtain ⟨k1, k2, k3⟩ := D.own x e1 b hx h1
      refine ⟨fun hb => ?_, k2, Nat.lt_of_lt_of_le k3 hM.size⟩
      rcases hT' b hb with z | z
      · exact k1 z
      · exact hne (D.inj x d e1 ent b hx hd h1 z)
  · rcases hT' b hb with z | z
    · exact ⟨(D.tb b z).1, Nat.lt_of_lt_of_le (D.tb b z).2 hM.size⟩
    · obtain ⟨k1, k2, k3⟩ := D.own d ent b hd z
      exact ⟨.inr k2, Nat.lt_of_lt_of_le k3 hM.size⟩

theorem RelD.kill (D : RelD base S I E T hp w) {d : Nat} {ent : Ent} (hd : hp d = some ent) : RelD base S I E T (upd hp d .dead) w ∧ HStep E E hp (upd hp d .dead) :=
  D.chg hd (fun h => by simp [Ent.isBox] at h) (fun q h => by simp [Ent.slInfo] at h) (Mod.refl _ w) (fun _ z => z) (fun _ z => .inl z) (fun b h => by simp [obk] at h) trivial

theorem RelD.freeze (D : RelD base S I E T hp w) {d : Nat} {t : TypeId} {e : EK} {l : List e.T} (hd : hp d = some (.sl t e l)) {T' : Nat → Prop} (hT : ∀ b, T b → T' b) (hT' : ∀ b, T' b ↔ T b ∨ (E.hdr d).ownBlock = some b) :
    RelD base S I E T' (upd hp d (.frz t e l)) w ∧ HStep E E hp (upd hp d (.frz t e l)) := by
  refine D.chg hd (fun h => by simp [Ent.isBox] at h) (fun q h => h) (Mod.refl _ w) hT (fun b hb => (hT' b).1 hb) (fun b h => by simp [obk] at h) ?_
  obtain ⟨rows, h1, h2⟩ := D.ent d _ hd
  exact own_RC (h1) h2 hT fun b hb => (hT' b).2 (.inr hb)

end steps

theorem cells_RV {E : Env} {hp : Nat → Option Ent} {w : World} {T : Nat → Prop} : ∀ {e : EK} {x : e.T} {cs : List Value}, RC w T e x cs → AllR (fun c v => RV E hp w T c v ∧ c.isCell = true) (e.cells x) cs
  | .unit, _, _, h => by simp only [RC] at h; subst h; trivial
  | .int k, x, _, h => by have h' := h; simp only [RC] at h'; subst h'; exact ⟨⟨.val h, rfl⟩, trivial⟩
  | .bool, x, _, h => by have h' := h; simp only [RC] at h'; subst h'; exact ⟨⟨.val h, rfl⟩, trivial⟩
  | .str, x, _, h => by have h' := h; simp only [RC] at h'; subst h'; exact ⟨⟨.val h, rfl⟩, trivial⟩
  | .err, x, _, h => by
    have h' := h
    simp only [RC] at h'
    rcases h' with ⟨_, rfl⟩ | ⟨_, t, u, rfl⟩ <;> exact ⟨⟨.val h, rfl⟩, trivial⟩
  | .pair a b, x, cs, h => by
    simp only [RC] at h
    obtain ⟨c1, c2, rfl, h1, h2⟩ := h
    exact AllR.append (cells_RV h1) (cells_RV h2)
  | .sl e, l, cs, h => by
    have h' := h
    simp only [RC] at h'
    obtain ⟨a, cap, rfl, _⟩ := h'
    exact ⟨⟨.val h, rfl⟩, trivial⟩

theorem allR_at {α β : Type} {R : α → β → Prop} {as : List α} {bs : List β} (h : AllR R as bs) (i : Nat) (a : α) (b : β) (ha : as[i]? = some a) (hb : bs[i]? = some b) : R a b := by
  obtain ⟨b', h1, h2⟩ := h.at i a ha
  rw [hb] at h1
  injection h1 with h1
  exact h1 ▸ h2

def RU (w : World) (T : Nat → Prop) (e : EK) (x : e.T) (u : Value) : Prop := match e, x with
  | .unit, x => ∃ vs : List Value, u = .agg vs.toArray ∧ RC w T .unit x vs
  | .pair a b, x => ∃ vs : List Value, u = .agg vs.toArray ∧ RC w T (.pair a b) x vs
  | e, x => RC w T e x [u]
theorem av_RV {E : Env} {hp : Nat → Option Ent} {w : World} {T : Nat → Prop} : ∀ {e : EK} {x : e.T} {u : Value}, RU w T e x u → RV E hp w T (e.av x) u
  | .unit, _, _, h => by
    obtain ⟨vs, rfl, h⟩ := h
    have hc := cells_RV (E := E) (hp := hp) h
    exact RV.agg hc.len fun i c v h1 h2 => (allR_at hc i c v h1 h2).1
  | .pair a b, _, _, h => by
    obtain ⟨vs, rfl, h⟩ := h
    have hc := cells_RV (E := E) (hp := hp) h
    exact RV.agg hc.len fun i c v h1 h2 => (allR_at hc i c v h1 h2).1
  | .int _, _, _, h => RV.val h
  | .bool, _, _, h => RV.val h
  | .str, _, _, h => RV.val h
  | .err, _, _, h => RV.val h
  | .sl _, _, _, h => RV.val h
theorem RU.mono {w w' : World} {T T' : Nat → Prop} (hw : ∀ b, T b → w'.heap[b]? = w.heap[b]?) (hT : ∀ b, T b → T' b) : ∀ {e : EK} {x : e.T} {u : Value}, RU w T e x u → RU w' T' e x u
  | .unit, _, _, ⟨vs, h1, h⟩ => ⟨vs, h1, RC.mono hw hT h⟩
  | .pair _ _, _, _, ⟨vs, h1, h⟩ => ⟨vs, h1, RC.mono hw hT h⟩
  | .int _, _, _, h => RC.mono hw hT h
  | .bool, _, _, h => RC.mono hw hT h
  | .str, _, _, h => RC.mono hw hT h
  | .err, _, _, h => RC.mono hw hT h
  | .sl _, _, _, h => RC.mono hw hT h

section conv
variable {base : Nat} {S I : Nat → Prop} {E : Env} {T T' : Nat → Prop} {hp look : Nat → Option Ent} {w : World}

theorem upd_self {hp : Nat → Option Ent} {d : Nat} {e : Ent} (h : hp d = some e) : upd hp d e = hp := by
  funext x
  by_cases hx : x = d
  · subst hx
    rw [upd_at, h]
  · rw [upd_ne hx]

theorem frzs_ok {base : Nat} {S I : Nat → Prop} {E : Env} {h : Heap} {w : World} {look : Nat → Option Ent} : ∀ {ids : List Nat} {T : Nat → Prop}, RelD base S I E T (hget h) w → (∀ d ent, look d = some ent → hget h d = some ent) →
    ∃ T', (∀ b, T b → T' b) ∧ RelD base S I E T' (hget (frzs look ids ++ h)) w ∧ HStep E E (hget h) (hget (frzs look ids ++ h)) ∧ (∀ b, T' b → T b ∨ ∃ d ∈ ids, ∃ t e l, hget h d = some (.sl t e l) ∧ (E.hdr d).ownBlock = some b) ∧
      (∀ d ∈ ids, ∀ t e l b, look d = some (.sl t e l) → (E.hdr d).ownBlock = some b → T' b) ∧ (∀ d, d ∉ ids → hget (frzs look ids ++ h) d = hget h d) ∧ (∀ d ∈ ids, ∀ t e l, look d = some (.sl t e l) → hget (frzs look ids ++ h) d = some (.frz t e l)) ∧
      (∀ d, (∀ t e l, look d ≠ some (.sl t e l)) → hget (frzs look ids ++ h) d = hget h d)
  | [], T, D, hl => ⟨T, fun _ z => z, D, HStep.refl _ _, fun b hb => .inl hb, fun d hd => by simp at hd, fun _ _ => rfl, fun d hd => by simp at hd, fun _ _ => rfl⟩
  | d :: r, T, D, hl => by
    obtain ⟨T1, h1, D1, s1, h2, h3, h4, h5, h6⟩ := frzs_ok (ids := r) D hl
    unfold frzs
    split
    · rename_i t e l hk
      rw [List.cons_append, hget_cons]
      have hd0 := hl _ _ hk
      by_cases hr : d ∈ r
      · rw [upd_self (h5 d hr t e l hk)]
        refine ⟨T1, h1, D1, s1, fun b hb => ?_, fun d' hd' t' e' l' b hk' hb' => ?_, fun d' hd' => h4 d' (fun z => hd' (by simp [z])), fun d' hd' t' e' l' hk' => ?_, h6⟩
        · rcases h2 b hb with hb | ⟨d', hd', x⟩
          · exact .inl hb
          · exact .inr ⟨d', by simp [hd'], x⟩
        · rcases List.mem_cons.1 hd' with rfl | hd'
          · exact h3 _ hr t' e' l' b hk' hb'
          · exact h3 d' hd' t' e' l' b hk' hb'
        · rcases List.mem_cons.1 hd' with rfl | hd'
          · exact h5 _ hr t' e' l' hk'
          · exact h5 d' hd' t' e' l' hk'
      · have hmem : hget (frzs look r ++ h) d = some (.sl t e l) := by rw [h4 d hr]; exact hd0
        obtain ⟨D2, s2⟩ := D1.freeze hmem (T' := fun b => T1 b ∨ (E.hdr d).ownBlock = some b) (fun b hb => .inl hb) (fun b => Iff.rfl)
        refine ⟨_, fun b hb => .inl (h1 b hb), D2, s1.trans s2, fun b hb => ?_, fun d' hd' t' e' l' b hk' hb' => ?_, fun d' hd' => ?_, fun d' hd' t' e' l' hk' => ?_, fun d' hd' => ?_⟩
        · rcases hb with hb | hb
          · rcases h2 b hb with hb | ⟨d', hd', x⟩
            · exact .inl hb
            · exact .inr ⟨d', by simp [hd'], x⟩
          · exact .inr ⟨d, by simp, t, e, l, hd0, hb⟩
        · rcases List.mem_cons.1 hd' with rfl | hd'
          · exact .inr hb'
          · exact .inl (h3 d' hd' t' e' l' b hk' hb')
        · rw [upd_ne (by rintro rfl; simp at hd')]
          exact h4 d' (fun z => hd' (by simp [z]))
        · rcases List.mem_cons.1 hd' with rfl | hd2
          · rw [hk] at hk'
            injection hk' with hk'
            cases hk'
            rw [upd_at]
          · have hne : d' ≠ d := by rintro rfl; exact hr hd2
            rw [upd_ne hne]
            exact h5 d' hd2 t' e' l' hk'
        · have hne : d' ≠ d := by rintro rfl; exact hd' t e l hk
          rw [upd_ne hne]
          exact h6 d' hd'
    · rename_i hk
      refine ⟨T1, h1, D1, s1, fun b hb => ?_, fun d' hd' t' e' l' b hk' hb' => ?_, fun d' hd' => h4 d' (fun z => hd' (by simp [z])), fun d' hd' t' e' l' hk' => ?_, h6⟩
      · rcases h2 b hb with hb | ⟨d', hd', x⟩
        · exact .inl hb
        · exact .inr ⟨d', by simp [hd'], x⟩
      · rcases List.mem_cons.1 hd' with rfl | hd'
        · exact absurd hk' (hk t' e' l')
        · exact h3 d' hd' t' e' l' b hk' hb'
      · rcases List.mem_cons.1 hd' with rfl | hd'
        · exact absurd hk' (hk t' e' l')
        · exact h5 d' hd' t' e' l' hk'

theorem ent_RC (D : RelD base S I E T hp w) {d : Nat} {ent : Ent} (hd : hp d = some ent) (hT : ∀ b, T b → T' b) (ho : ∀ b, obk E d ent b → T' b) {t : TypeId} {e : EK} {l : List e.T} (he : ent = .sl t e l ∨ ent = .frz t e l) : RC w T' (.sl e) l [E.hdr d] := by
  have hr := D.ent d ent hd
  rcases he with rfl | rfl
  · obtain ⟨rows, h1, h2⟩ := hr
    exact own_RC h1 h2 hT ho
  · exact RC.mono (fun _ _ => rfl) hT hr

theorem toT_ok (D : RelD base S I E T hp w) (hl : ∀ d ent, look d = some ent → hp d = some ent) (hT : ∀ b, T b → T' b) {v : AV} {u : Value} (hv : RV E hp w T v u) (ho : ∀ d ∈ v.owns1, ∀ t e l b, look d = some (.sl t e l) → (E.hdr d).ownBlock = some b → T' b) :
    ∀ {e : EK} {x : e.T}, v.toT look e = some x → RC w T' e x [u] := by
  intro e x h
  unfold AV.toT at h
  split at h
  · rename_i e' x'
    split at h
    · rename_i he
      subst he
      injection h with h
      subst h
      cases hv with
      | val h => exact RC.mono (fun _ _ => rfl) hT h
    · simp at h
  · injection h with h
    subst h
    cases hv
    simp only [RC]
    exact ⟨none, 0, rfl, Nat.le_refl _, fun hp => absurd hp (by simp)⟩
  · rename_i e' d
    have hown : ∀ ent, hp d = some ent → (∃ q, ent.slInfo = some q) → u = E.hdr d := by
      intro ent h1 ⟨q, h2⟩
      cases hv with
      | own he h => exact h ent q h1 h2
    split at h
    · rename_i t e1 l hk
      split at h
      · rename_i he
        subst he
        injection h with h
        subst h
        have hd := hl _ _ hk
        rw [hown _ hd ⟨_, rfl⟩]
        exact ent_RC D hd hT (fun b hb => ho d (by simp [AV.owns1]) _ _ _ b hk hb) (.inl rfl)
      · simp at h
    · rename_i t e1 l hk
      split at h
      · rename_i he
        subst he
        injection h with h
        subst h
        have hd := hl _ _ hk
        rw [hown _ hd ⟨_, rfl⟩]
        exact ent_RC D hd hT (fun b hb => by simp [obk] at hb) (.inr rfl)
      · simp at h
    · simp at h
  · simp at h

theorem cellsT_ok (D : RelD base S I E T hp w) (hl : ∀ d ent, look d = some ent → hp d = some ent) (hT : ∀ b, T b → T' b) :
    ∀ {e : EK} {x : e.T} {cs rest : List AV} {vs : List Value}, AllR (fun c v => RV E hp w T c v) cs vs → (∀ d ∈ cs.flatMap AV.owns1, ∀ t e l b, look d = some (.sl t e l) → (E.hdr d).ownBlock = some b → T' b) →
      cellsT look e cs = some (x, rest) → ∃ v1 v2, vs = v1 ++ v2 ∧ RC w T' e x v1 ∧ AllR (fun c v => RV E hp w T c v) rest v2 ∧ (∀ d ∈ rest.flatMap AV.owns1, d ∈ cs.flatMap AV.owns1) := by
  have single : ∀ {e : EK} {x : e.T} {cs rest : List AV} {vs : List Value}, AllR (fun c v => RV E hp w T c v) cs vs → (∀ d ∈ cs.flatMap AV.owns1, ∀ t e l b, look d = some (.sl t e l) → (E.hdr d).ownBlock = some b → T' b) →
      (match cs with | v :: cs => (match v.toT look e with | some x => some (x, cs) | none => none) | [] => none) = some (x, rest) → ∃ v1 v2, vs = v1 ++ v2 ∧ RC w T' e x v1 ∧ AllR (fun c v => RV E hp w T c v) rest v2 ∧ (∀ d ∈ rest.flatMap AV.owns1, d ∈ cs.flatMap AV.owns1) := by
    intro e x cs rest vs hc ho h
    cases cs with
    | nil => simp at h
    | cons v cs =>
      cases vs with
      | nil => exact hc.elim
      | cons u vs =>
        cases hx : v.toT look e with
        | none => simp [hx] at h
        | some y =>
          simp only [hx, Option.some.injEq, Prod.mk.injEq] at h
          obtain ⟨rfl, rfl⟩ := h
          exact ⟨[u], vs, rfl, toT_ok D hl hT hc.1 (fun d hd => ho d (by simp [hd])) hx, hc.2, fun d hd => by simp [List.flatMap_cons, hd]⟩
  intro e
  induction e with
  | unit =>
    intro x cs rest vs hc ho h
    simp only [cellsT, Option.some.injEq, Prod.mk.injEq] at h
    obtain ⟨_, rfl⟩ := h
    exact ⟨[], vs, rfl, by simp only [RC], hc, fun d hd => hd⟩
  | pair a b iha ihb =>
    intro x cs rest vs hc ho h
    simp only [cellsT] at h
    cases h1 : cellsT look a cs with
    | none => simp [h1] at h
    | some p =>
      obtain ⟨y, cs1⟩ := p
      simp only [h1] at h
      cases h2 : cellsT look b cs1 with
      | none => simp [h2] at h
      | some q =>
        obtain ⟨z, cs2⟩ := q
        simp only [h2, Option.some.injEq, Prod.mk.injEq] at h
        obtain ⟨rfl, rfl⟩ := h
        obtain ⟨v1, v2, rfl, k1, k2, k3⟩ := iha hc ho h1
        obtain ⟨v3, v4, rfl, k4, k5, k6⟩ := ihb k2 (fun d hd => ho d (k3 d hd)) h2
        refine ⟨v1 ++ v3, v4, by simp, ?_, k5, fun d hd => k3 d (k6 d hd)⟩
        simp only [RC]
        exact ⟨v1, v3, rfl, k1, k4⟩
  | int k =>
    intro x cs rest vs hc ho h
    refine single hc ho ?_
    cases cs
    · simp [cellsT] at h
    · simp only [cellsT] at h; exact h
  | bool =>
    intro x cs rest vs hc ho h
    refine single hc ho ?_
    cases cs
    · simp [cellsT] at h
    · simp only [cellsT] at h; exact h
  | str =>
    intro x cs rest vs hc ho h
    refine single hc ho ?_
    cases cs
    · simp [cellsT] at h
    · simp only [cellsT] at h; exact h
  | err =>
    intro x cs rest vs hc ho h
    refine single hc ho ?_
    cases cs
    · simp [cellsT] at h
    · simp only [cellsT] at h; exact h
  | sl e =>
    intro x cs rest vs hc ho h
    refine single hc ho ?_
    cases cs
    · simp [cellsT] at h
    · simp only [cellsT] at h; exact h
theorem toTT_ok (D : RelD base S I E T hp w) (hl : ∀ d ent, look d = some ent → hp d = some ent) (hT : ∀ b, T b → T' b) {e : EK} {x : e.T} {v : AV} {vs : List Value} (hv : AllR (fun c v => RV E hp w T c v) v.cells vs) (ho : ∀ d ∈ v.cells.flatMap AV.owns1, ∀ t e l b, look d = some (.sl t e l) → (E.hdr d).ownBlock = some b → T' b)
    (h : v.toTT look e = some x) : RC w T' e x vs := by
  unfold AV.toTT at h
  cases hb : v.cells.all (cellOk look) with
  | false => rw [hb] at h; simp at h
  | true =>
  rw [hb] at h
  simp only [cond_true] at h
  split at h
  · rename_i y hy
    injection h with h
    subst h
    obtain ⟨v1, v2, rfl, k1, k2, _⟩ := cellsT_ok D hl hT hv ho hy
    cases v2 with
    | nil => simpa using k1
    | cons => exact k2.elim
  · simp at h
end conv

end Go.Ra

namespace Go.Ra
set_option linter.unusedSectionVars false
variable [Known]

theorem memN_iff {d : Nat} : ∀ {l : List Nat}, memN d l = true ↔ d ∈ l
  | [] => by simp [memN]
  | i :: r => by
    simp only [memN, Bool.or_eq_true, List.mem_cons, memN_iff (l := r)]
    constructor
    · rintro (h | h)
      · exact .inl (Nat.eq_of_beq_eq_true h).symm
      · exact .inr h
    · rintro (rfl | h)
      · exact .inl (Nat.beq_refl _)
      · exact .inr h
theorem memL_mem {q : Nat × Bool} : ∀ {L : Lits}, memL q L = true → q ∈ L
  | [], h => by simp [memL] at h
  | i :: r, h => by
    simp only [memL, Bool.or_eq_true, Bool.and_eq_true] at h
    rcases h with ⟨h1, h2⟩ | h
    · have : i = q := by
        have e1 := Nat.eq_of_beq_eq_true h1
        have e2 : i.2 = q.2 := by simpa using h2
        cases i; cases q; simp_all
      simp [this]
    · simp [memL_mem h]
theorem subL_mem : ∀ {L L' : Lits}, subL L L' = true → ∀ q ∈ L, q ∈ L'
  | [], _, _, q, hq => by simp at hq
  | i :: r, L', h, q, hq => by
    simp only [subL, Bool.and_eq_true] at h
    rcases List.mem_cons.1 hq with rfl | hq
    · exact memL_mem h.1
    · exact subL_mem h.2 q hq

theorem RS.of_RV {E : Env} {hp : Nat → Option Ent} {w : World} {T : Nat → Prop} {tm : Nat → Value} {av : AV} {v : Value} (h : RV E hp w T av v) : RS E hp w T tm av v := by
  cases h with
  | val h => exact RV.val h
  | nil => exact RV.nil
  | agg hl h => exact RV.agg hl h
  | tup hl h => exact RV.tup hl h
  | ptr he h => exact RV.ptr he h
  | own he h => exact RV.own he h
  | elt he h => exact RV.elt he h
  | rel ht hl hc hi h => exact RV.rel ht hl hc hi h
  | fn hl h => exact RV.fn hl h
  | mth hl h => exact RV.mth hl h
  | unk h => exact RV.unk h
  | junk => exact RV.junk

theorem unG_RV {E : Env} {hp : Nat → Option Ent} {w : World} {T : Nat → Prop} {tm : Nat → Value} {L : Lits} (hL : ∀ q ∈ L, tm q.1 = .bool q.2) {av : AV} {v : Value} (h : RS E hp w T tm av v) : RV E hp w T (av.unG L) v := by
  cases av with
  | gd L' u =>
    simp only [AV.unG]
    cases hs : subL L' L with
    | true => exact h.1 fun q hq => hL q (subL_mem hs q hq)
    | false => exact .junk
  | val e x => exact h
  | nil => exact h
  | agg cs => exact h
  | tup cs => exact h
  | ptr d o => exact h
  | own d => exact h
  | elt d i o => exact h
  | rel cs => exact h
  | fn f cs => exact h
  | mth f cs => exact h
  | unk c b => exact h
  | junk => exact h

theorem ofC_RV {E : Env} {hp : Nat → Option Ent} {w : World} {T : Nat → Prop} (v : Value) : RV E hp w T (ofC v) v := by
  unfold ofC
  split
  · exact .val (by simp only [RC])
  · exact .val (by simp only [RC])
  · exact .val (by simp only [RC])
  · exact .nil
  · exact .val (by simp only [RC]; simp)
  · exact .junk
theorem ofCs_RV {E : Env} {hp : Nat → Option Ent} {w : World} {T : Nat → Prop} (v : Value) : RV E hp w T (ofCs v) v := by
  unfold ofCs
  split
  · rename_i cs
    have : Value.agg cs = .agg cs.toList.toArray := by simp
    rw [this]
    refine .agg (by simp) fun i c v hc hv => ?_
    simp only [List.getElem?_map, hv, Option.map_some, Option.some.injEq] at hc
    subst hc
    exact ofC_RV v
  · exact ofC_RV v

section ops
variable {P : Program} {S I : Nat → Prop} {w0 : World} {E : Env} {T : Nat → Prop} {st : St} {a : Act} {w : World}

theorem ev_RV (h : Rel S I w0 E T st a w) {L : Lits} (hL : ∀ q ∈ L, a.tmps.getD q.1 undef = .bool q.2) (x : Operand) : RV E (hget st.hp) w T (st.ev L x) (a.eval x) := by
  cases x with
  | tmp t =>
    show RV E (hget st.hp) w T ((st.sl.getD t .junk).unG L) (a.tmps.getD t undef)
    by_cases ht : t < st.sl.length
    · have hg : st.sl[t]? = some st.sl[t] := List.getElem?_eq_getElem ht
      obtain ⟨v, h1, h2⟩ := h.sl.at t _ hg
      have e1 : st.sl.getD t .junk = st.sl[t] := by simp [List.getD_eq_getElem?_getD, hg]
      have e2 : a.tmps.getD t undef = v := by
        have : a.tmps[t]? = some v := by simpa using h1
        simp [Array.getD_eq_getD_getElem?, this]
      rw [e1, e2]
      exact unG_RV hL h2
    · have e1 : st.sl.getD t .junk = .junk := by simp [List.getD_eq_getElem?_getD, List.getElem?_eq_none (Nat.not_lt.1 ht)]
      rw [e1]
      exact .junk
  | const v => exact ofCs_RV v
  | global g => exact .junk
  | func f => exact RV.fn (cs := []) (vs := []) rfl fun i c v hc => by simp at hc

structure Good (S I : Nat → Prop) (w0 : World) (E : Env) (T : Nat → Prop) (hp hp' : Nat → Option Ent) (w : World) (r : AV) (v : Value) (w' : World) (E' : Env) (T' : Nat → Prop) : Prop where
  step : HStep E E' hp hp'
  data : RelD w0.heap.size S I E' T' hp' w'
  same : ∀ b, T b → w'.heap[b]? = w.heap[b]?
  more : ∀ b, T b → T' b
  mod : Mod (fun k => I k ∨ w0.heap.size ≤ k) w w'
  val : RV E' hp' w' T' r v

theorem Good.pure (h : Rel S I w0 E T st a w) {r : AV} {v : Value} (hv : RV E (hget st.hp) w T r v) : Good S I w0 E T (hget st.hp) (hget st.hp) w r v w E T :=
  ⟨HStep.refl _ _, h.data, fun _ _ => rfl, fun _ z => z, Mod.refl _ _, hv⟩

theorem add_add (ad : Addr) (m n : Nat) : (ad.add m).add n = ad.add (m + n) := by
  unfold Addr.add
  by_cases h1 : m = 0 <;> by_cases h2 : n = 0 <;> simp [h1, h2, Nat.add_assoc]

theorem ent_elem (D : RelD w0.heap.size S I E T (hget st.hp) w) {d : Nat} {ent : Ent} (hd : hget st.hp d = some ent) {t : TypeId} {e : EK} {l : List e.T} (he : ent = .sl t e l ∨ ent = .frz t e l) {j : Nat} {x : e.T} (hj : l[j]? = some x) :
    ∃ ad m cap c, E.hdr d = .slice (some ad) m cap ∧ RC w T e x c ∧ ∀ i u, c[i]? = some u → w.cell? (ad.add (j * e.n + i)) = some u := by
  have hr := D.ent d ent hd
  have hjl : j < l.length := (List.getElem?_eq_some_iff.1 hj).1
  rcases he with rfl | rfl
  · obtain ⟨rows, h1, h2⟩ := hr
    obtain ⟨r, hr, hx⟩ := h1.at j x hj
    have hc := fun g (hg : (E.hdr d).ownBlock = some g) => h2.cells hg
    rcases h2.2 with ⟨h3, h4⟩ | ⟨g, cap, cur, h3, _⟩
    · omega
    · refine ⟨_, _, _, r, h3, hx, fun i u hu => hc g (by rw [h3]; rfl) _ u (flatten_at (rows_len h1) hr hu)⟩
  · simp only [RE, RC] at hr
    obtain ⟨a0, cap, h1, h2, h3⟩ := hr
    obtain ⟨ad, rfl, _, h4⟩ := h3 (by omega)
    obtain ⟨c, h5, h6⟩ := h4 j x hj
    injection h1 with h1
    exact ⟨ad, _, cap, c, h1, h5, h6⟩

theorem cellsAt_ok (h : Rel S I w0 E T st a w) {look : Nat → Option Ent} (hl : ∀ d ent, look d = some ent → hget st.hp d = some ent) {av : AV} {u : Value} (hv : RV E (hget st.hp) w T av u) {cs : List AV} (hc : cellsAt look av = some cs) :
    ∃ ad vs, u = .pointer (some ad) ∧ AllR (fun c v => RV E (hget st.hp) w T c v ∧ c.isCell = true) cs vs ∧ ∀ (i : Nat) v, vs[i]? = some v → w.cell? (ad.add i) = some v := by
  cases av with
  | ptr d o =>
    simp only [cellsAt] at hc
    split at hc
    · rename_i t bs hk
      injection hc with hc
      subst hc
      have hd := hl _ _ hk
      obtain ⟨vs, h1, h2⟩ := h.data.ent d _ hd
      cases hv with
      | ptr he hq =>
        refine ⟨_, vs.drop o, hq _ hd rfl, h2.drop o, fun i v hi => ?_⟩
        have : (⟨E.blk d, o, none⟩ : Addr).add i = ⟨E.blk d, o + i, none⟩ := by unfold Addr.add; split <;> simp_all
        rw [this]
        simp only [World.cell?, h1]
        simpa [List.getElem?_drop] using hi
    · simp at hc
  | elt d i o =>
    have key : ∀ ent t (e : EK) (l : List e.T), hget st.hp d = some ent → (ent = .sl t e l ∨ ent = .frz t e l) → cs = (e.cells (l.getD i.toNat e.d)).drop o →
        ∃ ad vs, u = .pointer (some ad) ∧ AllR (fun c v => RV E (hget st.hp) w T c v ∧ c.isCell = true) cs vs ∧ ∀ (i : Nat) v, vs[i]? = some v → w.cell? (ad.add i) = some v := by
      intro ent t e l hd he hcs
      subst hcs
      have hs : ent.slInfo = some (e, l.length) := by rcases he with rfl | rfl <;> rfl
      cases hv with
      | elt hx hq =>
        obtain ⟨h0, h1, ad, m, cap, h2, rfl⟩ := hq ent e l.length hd hs
        have hj : l[i.toNat]? = some (l.getD i.toNat e.d) := by
          have : i.toNat < l.length := by omega
          simp [List.getD_eq_getElem?_getD, List.getElem?_eq_getElem this]
        obtain ⟨ad', m', cap', c, k1, k2, k3⟩ := ent_elem h.data hd he hj
        rw [h2] at k1
        injection k1 with k1
        injection k1 with k1
        subst k1
        refine ⟨_, c.drop o, rfl, (cells_RV k2).drop o, fun q v hv => ?_⟩
        rw [add_add]
        have := k3 (o + q) v (by simpa [List.getElem?_drop] using hv)
        rw [Nat.add_assoc]
        exact this
    simp only [cellsAt] at hc
    split at hc
    · rename_i t e l hk
      injection hc with hc
      exact key _ t e l (hl _ _ hk) (.inl rfl) hc.symm
    · rename_i t e l hk
      injection hc with hc
      exact key _ t e l (hl _ _ hk) (.inr rfl) hc.symm
    · simp at hc
  | rel bs =>
    simp only [cellsAt, Option.some.injEq] at hc
    subst hc
    cases hv with
    | @rel _ ad vs ht hlen hcell hi hr =>
      exact ⟨ad, vs, rfl, AllR.of_at hlen fun i c v h1 h2 => ⟨hr i c v h1 h2, hi c (List.mem_of_getElem? h1)⟩, hcell⟩
  | val e x => simp [cellsAt] at hc
  | nil => simp [cellsAt] at hc
  | agg cs => simp [cellsAt] at hc
  | tup cs => simp [cellsAt] at hc
  | own d => simp [cellsAt] at hc
  | fn f cs => simp [cellsAt] at hc
  | mth f cs => simp [cellsAt] at hc
  | gd L v => simp [cellsAt] at hc
  | unk c b => simp [cellsAt] at hc
  | junk => simp [cellsAt] at hc

theorem isAggT_run {t : TypeId} {g : Bool} (h : isAggT P t = some g) (w : World) : (isAgg t).run P w = .ok g w := by
  unfold isAggT at h
  unfold isAgg
  rw [Sem.run_bind]
  split at h
  · rename_i fs hu
    simp at h
    subst h
    rw [run_underlying hu w]
    rfl
  · rename_i n e hu
    simp at h
    subst h
    rw [run_underlying hu w]
    rfl
  · rename_i d h1 h2 hu
    simp at h
    subst h
    rw [run_underlying hu w]
    cases d <;> first | rfl | exact absurd rfl (h1 _) | exact absurd rfl (h2 _ _)
  · simp at h
theorem szT_run {t : TypeId} {n : Nat} (h : szT P t = some n) (w : World) : (sizeOf t).run P w = .ok n w := by
  unfold szT at h
  split at h
  · rename_i i hi
    simp at h
    subst h
    simp [sizeOf, typeInfo, program, hi, Sem.run]
  · simp at h

theorem load_ok {t : TypeId} {g : Bool} {n : Nat} {ad : Addr} {cs : List AV} {vs : List Value} (hg : isAggT P t = some g) (hn : szT P t = some n)
    (hr : AllR (fun c v => RV E (hget st.hp) w T c v ∧ c.isCell = true) cs vs) (hc : ∀ (i : Nat) v, vs[i]? = some v → w.cell? (ad.add i) = some v) {r : AV} (hl : loadA g n cs = some r) :
    ∃ v, (loadVar t ad).run P w = .ok v w ∧ RV E (hget st.hp) w T r v := by
  cases g with
  | true =>
    simp only [loadA] at hl
    cases hb : Nat.ble n cs.length with
    | false => simp [hb] at hl
    | true =>
      simp only [hb, cond_true, Option.some.injEq] at hl
      subst hl
      have hn' : n ≤ cs.length := Nat.le_of_ble_eq_true hb
      have hlen : (vs.take n).length = n := by rw [List.length_take, ← hr.len]; omega
      have hrun := run_loadCells_list (P := P) w ad (vs.take n) (fun j v hj => hc j v (by rw [List.getElem?_take] at hj; split at hj <;> simp_all))
      rw [hlen] at hrun
      refine ⟨.agg (vs.take n).toArray, ?_, RV.agg (hr.take n).len fun i c v h1 h2 => (allR_at (hr.take n) i c v h1 h2).1⟩
      unfold loadVar
      rw [Sem.run_bind, isAggT_run hg w]
      simp only [Result.andThen_ok, if_true, Sem.run_bind, szT_run hn w, hrun]
      rfl
  | false =>
    simp only [loadA] at hl
    cases cs with
    | nil => simp at hl
    | cons c cs =>
      simp only [Option.some.injEq] at hl
      subst hl
      cases vs with
      | nil => exact hr.elim
      | cons v vs =>
        refine ⟨v, ?_, hr.1.1⟩
        unfold loadVar
        rw [Sem.run_bind, isAggT_run hg w]
        have := hc 0 v rfl
        have h0 : ad.add 0 = ad := by simp [Addr.add]
        rw [h0] at this
        simp [load, Sem.run, this]


structure LookOk (st : St) (look : Nat → Option Ent) (dst : Nat) : Prop where
  get : ∀ d ent, look d = some ent → hget st.hp d = some ent
  new : look dst = none → hget st.hp dst = none

def OpOk (P : Program) (S I : Nat → Prop) (w0 : World) (E : Env) (T : Nat → Prop) (st : St) (a : Act) (w : World) (o : Oper) (r : AV) (up : Heap) : Prop :=
  ∃ E' T' v w', ((execOp a.eval o).run P w = .ok (.value v) w' ∨ ((execOp a.eval o).run P w = .ok .skip w' ∧ v = undef)) ∧ Good S I w0 E T (hget st.hp) (hget (up ++ st.hp)) w r v w' E' T'

theorem OpOk.pure (h : Rel S I w0 E T st a w) {o : Oper} {r : AV} {v : Value} (hr : (execOp a.eval o).run P w = .ok (.value v) w) (hv : RV E (hget st.hp) w T r v) : OpOk P S I w0 E T st a w o r [] :=
  ⟨E, T, v, w, .inl hr, Good.pure h hv⟩

theorem RV.int_inv {hp : Nat → Option Ent} {k : IntKind} {n : Int} {v : Value} (h : RV E hp w T (.val (.int k) n) v) : v = .int k n := by
  cases h with | val h => simp only [RC] at h; injection h
theorem RV.bool_inv {hp : Nat → Option Ent} {n : Bool} {v : Value} (h : RV E hp w T (.val .bool n) v) : v = .bool n := by
  cases h with | val h => simp only [RC] at h; injection h
theorem RV.str_inv {hp : Nat → Option Ent} {n : ByteArray} {v : Value} (h : RV E hp w T (.val .str n) v) : v = .string n := by
  cases h with | val h => simp only [RC] at h; injection h
theorem RV.sl_inv {hp : Nat → Option Ent} {e : EK} {l : List e.T} {v : Value} (h : RV E hp w T (.val (.sl e) l) v) : ∃ a cap, v = .slice a l.length cap ∧ l.length ≤ cap ∧ RC w T (.sl e) l [v] := by
  cases h with | val h =>
    have h' := h
    simp only [RC] at h'
    obtain ⟨a, cap, h1, h2, _⟩ := h'
    injection h1 with h1
    exact ⟨a, cap, h1, h2, h⟩
theorem RV_int {hp : Nat → Option Ent} (k : IntKind) (n : Int) : RV E hp w T (vI k n) (.int k n) := .val (by simp only [RC])
theorem RV_bool {hp : Nat → Option Ent} (n : Bool) : RV E hp w T (vB n) (.bool n) := .val (by simp only [RC])
theorem RV_str {hp : Nat → Option Ent} (n : ByteArray) : RV E hp w T (vS n) (.string n) := .val (by simp only [RC])

theorem mergeA_ok {hp : Nat → Option Ent} {b : Bool} {x y r : AV} {u : Value} (h : mergeA b x y = some r) (h1 : b = true → RV E hp w T x u) (h2 : b = false → RV E hp w T y u) : RV E hp w T r u := by
  unfold mergeA at h
  split at h
  · split at h
    · rename_i e x e' y he
      subst he
      injection h with h
      subst h
      cases b with
      | true => exact h1 rfl
      | false => exact h2 rfl
    · simp at h
  · simp at h

theorem bin_ok {hp : Nat → Option Ent} {op : BinOp} {x y r : AV} {cs : List Bool} {u v : Value} (t : TypeId) (h : bin op x y = some (cs, r)) (hc : ∀ b ∈ cs, b = true) (hx : RV E hp w T x u) (hy : RV E hp w T y v) (xo yo : Operand) :
    ∃ z, (do eqGuard op t xo yo u v; binOp op t u v : Sem Value).run P w = .ok z w ∧ RV E hp w T r z := by
  unfold bin at h
  split at h
  · rename_i k m k' n
    rw [hx.int_inv, hy.int_inv]
    rw [eqGuard_at_int]
    simp only [Sem.run_bind, Sem.run_pure, Result.andThen_ok]
    split at h
    · simp only [Option.some.injEq, Prod.mk.injEq] at h
      obtain ⟨rfl, rfl⟩ := h
      have h0 : 0 ≤ n := by simpa using hc
      refine ⟨.int k (shlI k m n), ?_, RV_int _ _⟩
      rw [binOp_shl, shift_shl_any _ _ _ _ h0]
      rfl
    · simp only [Option.some.injEq, Prod.mk.injEq] at h
      obtain ⟨rfl, rfl⟩ := h
      have h0 : 0 ≤ n := by simpa using hc
      refine ⟨.int k (shrI k m n), ?_, RV_int _ _⟩
      rw [binOp_shr, shift_shr_any _ _ _ _ h0]
      rfl
    · split at h
      · rename_i hk
        subst hk
        unfold binI at h
        split at h <;> (first | (simp only [Option.some.injEq, Prod.mk.injEq] at h; obtain ⟨rfl, rfl⟩ := h) | (exact absurd h (by simp)))
        case _ => exact ⟨_, by rw [binOp_add]; rfl, RV_int _ _⟩
        case _ => exact ⟨_, by rw [binOp_sub]; rfl, RV_int _ _⟩
        case _ => exact ⟨_, by rw [binOp_mul]; rfl, RV_int _ _⟩
        case _ =>
          have h0 : ¬ n = 0 := by simpa using hc
          exact ⟨_, by rw [binOp_quo]; unfold Op.intDiv; rw [if_neg h0]; rfl, RV_int _ _⟩
        case _ =>
          have h0 : ¬ n = 0 := by simpa using hc
          exact ⟨_, by rw [binOp_rem]; unfold Op.intDiv; rw [if_neg h0]; rfl, RV_int _ _⟩
        case _ => exact ⟨_, by rw [binOp_and]; rfl, RV_int _ _⟩
        case _ => exact ⟨_, by rw [binOp_or]; rfl, RV_int _ _⟩
        case _ => exact ⟨_, by rw [binOp_xor]; rfl, RV_int _ _⟩
        case _ => exact ⟨_, by rw [binOp_andNot]; rfl, RV_int _ _⟩
        case _ => exact ⟨_, by rw [binOp_eql]; rfl, RV_bool _⟩
        case _ => exact ⟨_, by rw [binOp_neq]; rfl, RV_bool _⟩
        case _ => exact ⟨_, by rw [binOp_lss]; rfl, RV_bool _⟩
        case _ => exact ⟨_, by rw [binOp_leq]; rfl, RV_bool _⟩
        case _ => exact ⟨_, by rw [binOp_gtr]; rfl, RV_bool _⟩
        case _ => exact ⟨_, by rw [binOp_geq]; rfl, RV_bool _⟩
      · simp at h
  · rename_i m n
    rw [hx.str_inv, hy.str_inv]
    rw [eqGuard_at_string]
    simp only [Sem.run_bind, Sem.run_pure, Result.andThen_ok]
    unfold binS at h
    split at h <;> (first | (simp only [Option.some.injEq, Prod.mk.injEq] at h; obtain ⟨rfl, rfl⟩ := h) | (exact absurd h (by simp)))
    case _ =>
      have h0 : m.size + n.size ≤ 9223372036854775807 := by simpa using hc
      exact ⟨_, run_string_add_sum _ _ _ h0, RV_str _⟩
    all_goals exact ⟨_, rfl, RV_bool _⟩
  · simp at h

theorem binB_ok {hp : Nat → Option Ent} {op : BinOp} {x y r : AV} {u v : Value} (t : TypeId) (h : binB op (P.underlying t) x y = some r) (hx : RV E hp w T x u) (hy : RV E hp w T y v) (xo yo : Operand) :
    ∃ z, (do eqGuard op t xo yo u v; binOp op t u v : Sem Value).run P w = .ok z w ∧ RV E hp w T r z := by
  unfold binB at h
  split at h
  · rename_i m n ht
    rw [hx.bool_inv, hy.bool_inv]
    rw [eqGuard_at_bool]
    simp only [Sem.run_bind, Sem.run_pure, Result.andThen_ok]
    have he : (Op.equal t (.bool m) (.bool n)).run P w = .ok (m == n) w := by
      show (Op.equalIn (9999 + 1) t (.bool m) (.bool n)).run P w = _
      unfold Op.equalIn
      rw [Sem.run_bind, run_underlying ht w]
      rfl
    split at h
    · injection h with h
      subst h
      exact ⟨.bool (m == n), by simp [binOp, he], RV_bool _⟩
    · injection h with h
      subst h
      exact ⟨.bool (!(m == n)), by simp [binOp, he], RV_bool _⟩
    · simp at h
  · simp at h

theorem un_ok {hp : Nat → Option Ent} {op : UnOp} {x r : AV} {u : Value} (h : un op x = some r) (hx : RV E hp w T x u) : ∃ z, (Op.unary op u).run P w = .ok z w ∧ RV E hp w T r z := by
  unfold un at h
  split at h
  · injection h with h
    subst h
    rw [hx.int_inv]
    exact ⟨_, rfl, RV_int _ _⟩
  · injection h with h
    subst h
    rw [hx.int_inv]
    exact ⟨_, rfl, RV_int _ _⟩
  · injection h with h
    subst h
    rw [hx.bool_inv]
    exact ⟨_, rfl, RV_bool _⟩
  · simp at h

end ops
end Go.Ra

namespace Go.Ra
set_option linter.unusedSectionVars false
variable [Known]
section ops
variable {P : Program} {S I : Nat → Prop} {w0 : World} {E : Env} {T : Nat → Prop} {st : St} {a : Act} {w : World} {o : Oper} {r : AV} {L : Lits}

theorem move_ok (h : Rel S I w0 E T st a w) (hL : ∀ q ∈ L, a.tmps.getD q.1 undef = .bool q.2) {x : Operand} (ho : o.op = .move x ∨ o.op = .assign x) : OpOk P S I w0 E T st a w o (st.ev L x) [] := by
  refine OpOk.pure h (v := a.eval x) ?_ (ev_RV h hL x)
  rcases ho with ho | ho <;> simp [execOp, ho]

theorem pick_ok (h : Rel S I w0 E T st a w) (hL : ∀ q ∈ L, a.tmps.getD q.1 undef = .bool q.2) {t : Nat} {x y : Operand} {b : Bool} (ho : o.op = .pick (.tmp t) x y) (hb : st.ev L (.tmp t) = .val .bool b)
    (hm : mergeA b (st.ev ((t, true) :: L) x) (st.ev ((t, false) :: L) y) = some r) : OpOk P S I w0 E T st a w o r [] := by
  have hc := ev_RV h hL (.tmp t)
  rw [hb] at hc
  have hv : a.tmps.getD t undef = .bool b := hc.bool_inv
  have hv' : a.eval (.tmp t) = .bool b := hv
  refine OpOk.pure h (v := if b then a.eval x else a.eval y) ?_ ?_
  · simp [execOp, ho, hv', asBool]
  · refine mergeA_ok hm (fun hb => ?_) (fun hb => ?_)
    · subst hb
      refine ev_RV h (fun q hq => ?_) x
      rcases List.mem_cons.1 hq with rfl | hq
      · exact hv
      · exact hL q hq
    · subst hb
      refine ev_RV h (fun q hq => ?_) y
      rcases List.mem_cons.1 hq with rfl | hq
      · exact hv
      · exact hL q hq

theorem run_v {s : Sem Value} {v : Value} {w' : World} (h : s.run P w = .ok v w') : (do pure (.value (← s)) : Sem Next).run P w = .ok (.value v) w' := by
  simp [h]

theorem binOp_ok (h : Rel S I w0 E T st a w) (hL : ∀ q ∈ L, a.tmps.getD q.1 undef = .bool q.2) {op : BinOp} {t u : TypeId} {x y : Operand} {cs : List Bool} (ho : o.op = .binOp op t x y u)
    (hb : bin op (st.ev L x) (st.ev L y) = some (cs, r)) (hc : ∀ b ∈ cs, b = true) : OpOk P S I w0 E T st a w o r [] := by
  obtain ⟨z, h1, h2⟩ := bin_ok (P := P) t hb hc (ev_RV h hL x) (ev_RV h hL y) x y
  refine OpOk.pure h ?_ h2
  simp only [execOp, ho]
  exact run_v h1
theorem binOpB_ok (h : Rel S I w0 E T st a w) (hL : ∀ q ∈ L, a.tmps.getD q.1 undef = .bool q.2) {op : BinOp} {t u : TypeId} {x y : Operand} (ho : o.op = .binOp op t x y u)
    (hb : binB op (P.underlying t) (st.ev L x) (st.ev L y) = some r) : OpOk P S I w0 E T st a w o r [] := by
  obtain ⟨z, h1, h2⟩ := binB_ok (P := P) t hb (ev_RV h hL x) (ev_RV h hL y) x y
  refine OpOk.pure h ?_ h2
  simp only [execOp, ho]
  exact run_v h1
theorem unOp_ok (h : Rel S I w0 E T st a w) (hL : ∀ q ∈ L, a.tmps.getD q.1 undef = .bool q.2) {op : UnOp} {t : TypeId} {x : Operand} (ho : o.op = .unOp op t x)
    (hb : un op (st.ev L x) = some r) : OpOk P S I w0 E T st a w o r [] := by
  obtain ⟨z, h1, h2⟩ := un_ok (P := P) hb (ev_RV h hL x)
  refine OpOk.pure h ?_ h2
  simp only [execOp, ho]
  exact run_v h1

theorem loadOp_ok (h : Rel S I w0 E T st a w) (hL : ∀ q ∈ L, a.tmps.getD q.1 undef = .bool q.2) {look : Nat → Option Ent} {dst : Nat} (hk : LookOk st look dst) {t : TypeId} {x : Operand} {g : Bool} {n : Nat} {cs : List AV} (ho : o.op = .load t x)
    (h1 : isAggT P t = some g) (h2 : szT P t = some n) (h3 : cellsAt look (st.ev L x) = some cs) (h4 : loadA g n cs = some r) : OpOk P S I w0 E T st a w o r [] := by
  obtain ⟨ad, vs, hu, hr, hc⟩ := cellsAt_ok h hk.get (ev_RV h hL x) h3
  obtain ⟨v, k1, k2⟩ := load_ok (E := E) (T := T) (st := st) h1 h2 hr hc h4
  refine OpOk.pure h ?_ k2
  simp only [execOp, ho]
  refine run_v ?_
  unfold Instr.loadAt
  rw [Sem.run_bind, hu]
  simpa [Instr.sureAddr] using k1

theorem isPtr_ok {look : Nat → Option Ent} {dst : Nat} (hk : LookOk st look dst) {v : AV} {u : Value} (hv : RV E (hget st.hp) w T v u) (hp : isPtr look v = true) :
    ∃ ad, u = .pointer (some ad) ∧ ∀ n, RV E (hget st.hp) w T (shiftA v n) (.pointer (some (ad.add n))) := by
  cases v with
  | ptr d o =>
    simp only [isPtr] at hp
    split at hp
    · rename_i t cs hd
      have hd := hk.get _ _ hd
      cases hv with
      | ptr he hq =>
        refine ⟨_, hq _ hd rfl, fun n => RV.ptr he fun ent h1 h2 => ?_⟩
        have : (⟨E.blk d, o, none⟩ : Addr).add n = ⟨E.blk d, o + n, none⟩ := by unfold Addr.add; split <;> simp_all
        rw [this]
    · simp at hp
  | elt d i o =>
    simp only [isPtr] at hp
    have key : ∀ ent, hget st.hp d = some ent → (∃ q, ent.slInfo = some q) → ∃ ad, u = .pointer (some ad) ∧ ∀ n, RV E (hget st.hp) w T (shiftA (.elt d i o) n) (.pointer (some (ad.add n))) := by
      intro ent hd ⟨⟨e, m⟩, hs⟩
      cases hv with
      | elt he hq =>
        obtain ⟨h0, h1, ad, m', cap, h2, rfl⟩ := hq ent e m hd hs
        refine ⟨_, rfl, fun n => RV.elt he fun ent' e' m'' k1 k2 => ?_⟩
        rw [hd] at k1
        injection k1 with k1
        subst k1
        rw [hs] at k2
        injection k2 with k2
        injection k2 with k3 k4
        subst k3
        subst k4
        exact ⟨h0, h1, ad, m', cap, h2, by rw [add_add, Nat.add_assoc]⟩
    split at hp
    · rename_i hd
      exact key _ (hk.get _ _ hd) ⟨_, rfl⟩
    · rename_i hd
      exact key _ (hk.get _ _ hd) ⟨_, rfl⟩
    · rename_i hd
      exact key _ (hk.get _ _ hd) ⟨_, rfl⟩
    · simp at hp
  | rel cs =>
    cases hv with
    | @rel _ ad vs ht hl hc hi hr =>
      refine ⟨ad, rfl, fun n => ?_⟩
      refine RV.rel (vs := vs.drop n) (by rw [add_block]; exact ht) (by simp [hl]) (fun i v hv => ?_) (fun c hcm => hi c (List.mem_of_mem_drop hcm)) (fun i c v h1 h2 => hr (n + i) c v (by simpa [List.getElem?_drop] using h1) (by simpa [List.getElem?_drop] using h2))
      rw [add_add]
      exact hc (n + i) v (by simpa [List.getElem?_drop] using hv)
  | val e x => simp [isPtr] at hp
  | nil => simp [isPtr] at hp
  | agg cs => simp [isPtr] at hp
  | tup cs => simp [isPtr] at hp
  | own d => simp [isPtr] at hp
  | fn f cs => simp [isPtr] at hp
  | mth f cs => simp [isPtr] at hp
  | gd L v => simp [isPtr] at hp
  | unk c b => simp [isPtr] at hp
  | junk => simp [isPtr] at hp

theorem nilCheck_ok (h : Rel S I w0 E T st a w) (hL : ∀ q ∈ L, a.tmps.getD q.1 undef = .bool q.2) {x : Operand} (ho : o.op = .nilCheck x)
    (hr : st.ev L x = r) (hp : ∃ ad, a.eval x = .pointer (some ad)) : OpOk P S I w0 E T st a w o r [] := by
  obtain ⟨ad, hp⟩ := hp
  have hv := ev_RV h hL x
  rw [hr] at hv
  refine OpOk.pure h (v := a.eval x) ?_ hv
  simp [execOp, ho, hp]

theorem makeFunc_ok (h : Rel S I w0 E T st a w) (hL : ∀ q ∈ L, a.tmps.getD q.1 undef = .bool q.2) {f : FuncId} {first caps : Array Operand} (ho : o.op = .makeFunc (.func f) first caps) (hf : first.toList = []) :
    OpOk P S I w0 E T st a w o (.fn f (caps.toList.map (st.ev L))) [] := by
  have hf' : first = #[] := by simpa using hf
  subst hf'
  refine OpOk.pure h (v := .func (.func f) #[] (caps.toList.map a.eval).toArray) ?_ ?_
  · have : caps.map a.eval = (caps.toList.map a.eval).toArray := by rw [← Array.toList_map]
    simp only [execOp, ho, Instr.makeFunc, Array.map_empty]
    refine run_v ?_
    rw [this]
    rfl
  · refine RV.fn (by simp) fun i c v hc hv => ?_
    simp only [List.getElem?_map, Option.map_eq_some_iff] at hc hv
    obtain ⟨x, hx, rfl⟩ := hc
    obtain ⟨y, hy, rfl⟩ := hv
    rw [hx] at hy
    injection hy with hy
    subst hy
    exact ev_RV h hL x

theorem makeMth_ok (h : Rel S I w0 E T st a w) (hL : ∀ q ∈ L, a.tmps.getD q.1 undef = .bool q.2) {f : FuncId} {first caps : Array Operand} (ho : o.op = .makeFunc (.func f) first caps) (hf : caps.toList = []) :
    OpOk P S I w0 E T st a w o (.mth f (first.toList.map (st.ev L))) [] := by
  have hf' : caps = #[] := by simpa using hf
  subst hf'
  refine OpOk.pure h (v := .func (.func f) (first.toList.map a.eval).toArray #[]) ?_ ?_
  · have : first.map a.eval = (first.toList.map a.eval).toArray := by rw [← Array.toList_map]
    simp only [execOp, ho, Instr.makeFunc, Array.map_empty]
    refine run_v ?_
    rw [this]
    rfl
  · refine RV.mth (by simp) fun i c v hc hv => ?_
    simp only [List.getElem?_map, Option.map_eq_some_iff] at hc hv
    obtain ⟨x, hx, rfl⟩ := hc
    obtain ⟨y, hy, rfl⟩ := hv
    rw [hx] at hy
    injection hy with hy
    subst hy
    exact ev_RV h hL x

theorem extract_ok (h : Rel S I w0 E T st a w) (hL : ∀ q ∈ L, a.tmps.getD q.1 undef = .bool q.2) {x : Operand} {i : Nat} {vs : List AV} (ho : o.op = .extract x i) (hx : st.ev L x = .tup vs) (hv : vs[i]? = some r) : OpOk P S I w0 E T st a w o r [] := by
  have hr := ev_RV h hL x
  rw [hx] at hr
  generalize hu : a.eval x = u at hr
  cases hr with
  | @tup _ us hl hq =>
    have hlt : i < us.length := by rw [← hl]; exact (List.getElem?_eq_some_iff.1 hv).1
    refine OpOk.pure h (v := us[i]) ?_ (hq i r _ hv (List.getElem?_eq_getElem hlt))
    simp [execOp, ho, hu, Instr.extract, hlt]

theorem field_ok (h : Rel S I w0 E T st a w) (hL : ∀ q ∈ L, a.tmps.getD q.1 undef = .bool q.2) {s : TypeId} {x : Operand} {f : Nat} {fl : Field} {cs : List AV} {g : Bool} {n : Nat} (ho : o.op = .field s x f) (hf : fieldOf P s f = some fl)
    (hx : st.ev L x = .agg cs) (h1 : isAggT P fl.type = some g) (h2 : szT P fl.type = some n) (h4 : loadA g n (cs.drop fl.offset) = some r) : OpOk P S I w0 E T st a w o r [] := by
  have hr := ev_RV h hL x
  rw [hx] at hr
  generalize hu : a.eval x = u at hr
  cases hr with
  | @agg _ us hl hq =>
    have hall : AllR (fun c v => RV E (hget st.hp) w T c v) cs us := AllR.of_at hl hq
    have hd := hall.drop fl.offset
    unfold fieldOf at hf
    split at hf
    · rename_i fs hfs
      have key : ∃ v, (part fl.type us.toArray fl.offset).run P w = .ok v w ∧ RV E (hget st.hp) w T r v := by
        unfold part
        cases g with
        | true =>
          simp only [loadA] at h4
          cases hb : Nat.ble n (cs.drop fl.offset).length with
          | false => rw [hb] at h4; simp at h4
          | true =>
            rw [hb] at h4
            simp only [cond_true, Option.some.injEq] at h4
            subst h4
            refine ⟨.agg ((us.drop fl.offset).take n).toArray, ?_, RV.agg (hd.take n).len fun i c v k1 k2 => allR_at (hd.take n) i c v k1 k2⟩
            rw [Sem.run_bind, isAggT_run h1 w]
            simp only [Result.andThen_ok, if_true, Sem.run_bind, szT_run h2 w]
            have hx : us.toArray.extract fl.offset (fl.offset + n) = ((us.drop fl.offset).take n).toArray := by simp [List.extract_toArray, List.extract]
            rw [hx]
            rfl
        | false =>
          simp only [loadA] at h4
          cases hcs : cs.drop fl.offset with
          | nil => simp [hcs] at h4
          | cons c rest =>
            simp only [hcs, Option.some.injEq] at h4
            subst h4
            rw [hcs] at hd
            cases hvs : us.drop fl.offset with
            | nil => rw [hvs] at hd; exact hd.elim
            | cons v vrest =>
              rw [hvs] at hd
              have hv : us[fl.offset]? = some v := by
                have := congrArg (·[0]?) hvs
                simpa [List.getElem?_drop] using this
              refine ⟨v, ?_, hd.1⟩
              rw [Sem.run_bind, isAggT_run h1 w]
              simp [hv]
      obtain ⟨v, k1, k2⟩ := key
      refine OpOk.pure h ?_ k2
      simp only [execOp, ho]
      refine run_v ?_
      unfold Instr.field
      rw [Sem.run_bind, run_underlying hfs w]
      simp only [Result.andThen_ok, hf, hu, Sem.run_bind, asAgg, Sem.run_pure]
      exact k1
    · simp at hf

theorem fieldAddr_ok (h : Rel S I w0 E T st a w) (hL : ∀ q ∈ L, a.tmps.getD q.1 undef = .bool q.2) {s : TypeId} {x : Operand} {f : Nat} {fl : Field} {m : Nat} (ho : o.op = .fieldAddr s x f) (hf : fieldOf P s f = some fl) (hs : szT P fl.type = some (m + 1))
    {look : Nat → Option Ent} {dst : Nat} (hk : LookOk st look dst) (hp : isPtr look (st.ev L x) = true) : OpOk P S I w0 E T st a w o (shiftA (st.ev L x) fl.offset) [] := by
  obtain ⟨ad, hu, hv⟩ := isPtr_ok hk (ev_RV h hL x) hp
  have hv := hv fl.offset
  unfold fieldOf at hf
  split at hf
  · rename_i fs hfs
    refine OpOk.pure h ?_ hv
    simp only [execOp, ho]
    refine run_v ?_
    unfold Instr.fieldAt
    rw [Sem.run_bind, run_underlying hfs w]
    simp only [Result.andThen_ok, hf, hu, Sem.run_bind, Instr.sureAddr, Sem.run_pure]
    simp [fieldPlace, szT_run hs w]
  · simp at hf
end ops
end Go.Ra

namespace Go.Ra
set_option linter.unusedSectionVars false
variable [Known]

def Env.setBlk (E : Env) (d b : Nat) : Env := ⟨fun x => if x = d then b else E.blk x, E.hdr, E.buf⟩
def Env.setHdr (E : Env) (d : Nat) (v : Value) : Env := ⟨E.blk, fun x => if x = d then v else E.hdr x, E.buf⟩

theorem alloc_at (w : World) (o : Obj) : (w.alloc o).heap[w.heap.size]? = some o := heap_alloc_new w o
theorem alloc_size (w : World) (o : Obj) : (w.alloc o).heap.size = w.heap.size + 1 := by
  show (w.heap.push o).size = _
  simp
theorem mod_alloc (M : Nat → Prop) (w : World) (o : Obj) : Mod M w (w.alloc o) :=
  ⟨rfl, rfl, rfl, by rw [alloc_size]; omega, fun k hk _ => by show (w.heap.push o)[k]? = _; rw [Array.getElem?_push, if_neg (by omega)]⟩

section ops
variable {P : Program} {S I : Nat → Prop} {w0 : World} {E : Env} {T : Nat → Prop} {st : St} {a : Act} {w : World} {o : Oper} {r : AV} {L : Lits}

theorem RelD.grow {base : Nat} {hp : Nat → Option Ent} (D : RelD base S I E T hp w) {w' : World} (hM : Mod (fun _ => False) w w') : RelD base S I E T hp w' :=
  D.world hM (fun _ _ _ _ _ z => z) (fun _ _ z => z)

theorem new_free {base : Nat} {hp : Nat → Option Ent} (D : RelD base S I E T hp w) (d : Nat) (ent : Ent) (hd : hp d = some ent) : ¬ obk E d ent w.heap.size := fun h => Nat.lt_irrefl _ (D.own d ent _ hd h).2.2

theorem add_box (h : Rel S I w0 E T st a w) {dst : Nat} (hn : hget st.hp dst = none) {t : TypeId} {cs : List AV} {vs : List Value} (hr : AllR (fun c v => RV E (hget st.hp) w T c v ∧ c.isCell = true) cs vs) :
    Good S I w0 E T (hget st.hp) (hget ([(dst, .box t cs)] ++ st.hp)) w (.ptr dst 0) (.pointer (some ⟨w.heap.size, 0, none⟩)) (w.alloc (.cells vs.toArray t)) (E.setBlk dst w.heap.size) T := by
  have D := h.data
  have hM := mod_alloc (fun _ => False) w (.cells vs.toArray t)
  have D1 := D.grow hM
  have hb : ∀ x, x ≠ dst → (E.setBlk dst w.heap.size).blk x = E.blk x := fun x hx => by simp [Env.setBlk, hx]
  have hS := HStep.add (E := E) (E' := E.setBlk dst w.heap.size) (ent := .box t cs) hn hb (fun _ _ => rfl)
  have same : ∀ b, T b → (w.alloc (.cells vs.toArray t)).heap[b]? = w.heap[b]? := fun b hb => hM.block b (D.tb b hb).2 (fun z => z)
  have hE : RE (E.setBlk dst w.heap.size) (upd (hget st.hp) dst (.box t cs)) (w.alloc (.cells vs.toArray t)) T dst (.box t cs) := by
    refine ⟨vs, ?_, hr.mono fun c v hc => ⟨RV.mono hS same (fun _ z => z) hc.1, hc.2⟩⟩
    simp only [Env.setBlk, if_true]
    exact alloc_at w _
  obtain ⟨D2, s2⟩ := D1.add hn hb (fun _ _ => rfl) (fun _ _ => rfl) hE (fun b hb' => by
    have : b = w.heap.size := by simpa [obk, Env.setBlk] using hb'.symm
    subst this
    exact ⟨fun ht => Nat.lt_irrefl _ (D.tb _ ht).2, .inr h.mod.size, by rw [alloc_size]; omega, new_free D⟩)
  have e : hget ([(dst, Ent.box t cs)] ++ st.hp) = upd (hget st.hp) dst (.box t cs) := hget_cons _ _ _
  rw [e]
  exact ⟨s2, D2, same, fun _ z => z, mod_alloc _ w _, RV.ptr (by simp [upd_at]) fun ent h1 h2 => by simp [Env.setBlk]⟩

theorem ofZ_RV {hp : Nat → Option Ent} : ∀ {v : Value} {c : AV}, ofZ v = some c → RV E hp w T c v ∧ c.isCell = true := by
  intro v c h
  unfold ofZ at h
  split at h <;> (first | (injection h with h; subst h) | (exact absurd h (by simp)))
  · exact ⟨.val (by simp only [RC]), rfl⟩
  · exact ⟨.val (by simp only [RC]), rfl⟩
  · exact ⟨.val (by simp only [RC]), rfl⟩
  · exact ⟨.nil, rfl⟩
  · exact ⟨.val (by simp only [RC]; simp), rfl⟩
theorem ofZs_RV {hp : Nat → Option Ent} : ∀ {vs : List Value} {cs : List AV}, ofZs vs = some cs → AllR (fun c v => RV E hp w T c v ∧ c.isCell = true) cs vs
  | [], cs, h => by simp only [ofZs, Option.some.injEq] at h; subst h; trivial
  | v :: r, cs, h => by
    simp only [ofZs] at h
    split at h
    · rename_i c cs' h1 h2
      injection h with h
      subst h
      exact ⟨ofZ_RV h1, ofZs_RV h2⟩
    · simp at h

theorem zero_run {t : TypeId} {i : TypeInfo} {z : Value} (hi : P.info? t = some i) (hz : i.zero = some z) (w : World) : (zeroValue t).run P w = .ok z w := by
  simp [zeroValue, typeInfo, program, hi, hz, Sem.run]

theorem alloc_ok (h : Rel S I w0 E T st a w) {look : Nat → Option Ent} {dst : Nat} (hk : LookOk st look dst) {t : TypeId} {i : TypeInfo} {z : Value} {cs : List AV} (ho : o.op = .alloc t) (hi : P.info? t = some i) (hz : i.zero = some z) (hc : ofZs z.cells.toList = some cs) (hn : look dst = none) :
    OpOk P S I w0 E T st a w o (.ptr dst 0) [(dst, .box t cs)] := by
  have hg := add_box (t := t) h (hk.new hn) (ofZs_RV hc)
  refine ⟨_, _, _, _, .inl ?_, hg⟩
  simp only [execOp, ho]
  refine run_v ?_
  unfold Instr.alloc
  rw [Sem.run_bind, zero_run hi hz w]
  rfl

def Env.setBld (E : Env) (d b : Nat) (v : Value) : Env := ⟨fun x => if x = d then b else E.blk x, E.hdr, fun x => if x = d then v else E.buf x⟩

theorem allocBld_ok (h : Rel S I w0 E T st a w) {look : Nat → Option Ent} {dst : Nat} (hk : LookOk st look dst) {t e : TypeId} {i : TypeInfo} {z : Value} (ho : o.op = .alloc t) (hi : P.info? t = some i) (hz : i.zero = some z) (hc : bldT P t z.cells.toList = some e) (hn : look dst = none) :
    OpOk P S I w0 E T st a w o (.ptr dst 0) [(dst, .bld t e ⟨#[]⟩)] := by
  have hzc : z.cells = #[.pointer none, .slice none 0 0] := by
    unfold bldT at hc
    split at hc
    · rename_i h1 _
      exact Array.toList_inj.1 h1
    · simp at hc
  have hnn := hk.new hn
  have D := h.data
  have hM := mod_alloc (fun _ => False) w (.cells z.cells t)
  have D1 := D.grow hM
  have same : ∀ b, T b → (w.alloc (.cells z.cells t)).heap[b]? = w.heap[b]? := fun b hb => hM.block b (D.tb b hb).2 (fun z => z)
  have hb : ∀ x, x ≠ dst → (E.setBld dst w.heap.size (.slice none 0 0)).blk x = E.blk x := fun x hx => by simp [Env.setBld, hx]
  have hu : ∀ x, x ≠ dst → (E.setBld dst w.heap.size (.slice none 0 0)).buf x = E.buf x := fun x hx => by simp [Env.setBld, hx]
  obtain ⟨D2, s2⟩ := D1.add (ent := .bld t e ⟨#[]⟩) hnn hb (fun _ _ => rfl) hu (by
      show BldAt _ t e _ _ _
      simp only [Env.setBld, if_true]
      refine ⟨.pointer none, by rw [← hzc]; exact alloc_at w _, .inl rfl, World.ownsRow_nil _ _ _ _, by simp [Value.ownBlock]⟩) (fun b hb' => by
    have : b = w.heap.size := by
      rcases hb' with hb' | hb'
      · simpa [Env.setBld] using hb'.symm
      · simp [Env.setBld, Value.ownBlock] at hb'
    subst this
    exact ⟨fun ht => Nat.lt_irrefl _ (D.tb _ ht).2, .inr h.mod.size, by rw [alloc_size]; omega, new_free D⟩)
  refine ⟨E.setBld dst w.heap.size (.slice none 0 0), T, .pointer (some ⟨w.heap.size, 0, none⟩), w.alloc (.cells z.cells t), .inl ?_, ?_⟩
  · simp only [execOp, ho]
    refine run_v ?_
    unfold Instr.alloc
    rw [Sem.run_bind, zero_run hi hz w]
    rfl
  · rw [show hget ([(dst, Ent.bld t e ⟨#[]⟩)] ++ st.hp) = upd (hget st.hp) dst (.bld t e ⟨#[]⟩) from hget_cons _ _ _]
    exact ⟨s2, D2, same, fun _ z => z, mod_alloc _ w _, RV.ptr (by simp [upd_at]) fun ent h1 h2 => by simp [Env.setBld]⟩

theorem allocBld0_ok (h : Rel S I w0 E T st a w) {look : Nat → Option Ent} {dst : Nat} (hk : LookOk st look dst) {t e : TypeId} {i : TypeInfo} {z : Value} (ho : o.op = .alloc t) (hi : P.info? t = some i) (hz : i.zero = some z) (hc : bldT P t z.cells.toList = some e) (hn : look dst = none) :
    OpOk P S I w0 E T st a w o (.ptr dst 0) [(dst, .bld0 t e)] := by
  have hzc : z.cells = #[.pointer none, .slice none 0 0] := by
    unfold bldT at hc
    split at hc
    · rename_i h1 _
      exact Array.toList_inj.1 h1
    · simp at hc
  have hnn := hk.new hn
  have D := h.data
  have hM := mod_alloc (fun _ => False) w (.cells z.cells t)
  have D1 := D.grow hM
  have same : ∀ b, T b → (w.alloc (.cells z.cells t)).heap[b]? = w.heap[b]? := fun b hb => hM.block b (D.tb b hb).2 (fun z => z)
  have hb : ∀ x, x ≠ dst → (E.setBld dst w.heap.size (.slice none 0 0)).blk x = E.blk x := fun x hx => by simp [Env.setBld, hx]
  have hu : ∀ x, x ≠ dst → (E.setBld dst w.heap.size (.slice none 0 0)).buf x = E.buf x := fun x hx => by simp [Env.setBld, hx]
  obtain ⟨D2, s2⟩ := D1.add (ent := .bld0 t e) hnn hb (fun _ _ => rfl) hu (by
      show (w.alloc (.cells z.cells t)).heap[(E.setBld dst w.heap.size (.slice none 0 0)).blk dst]? = some (.cells #[.pointer none, .slice none 0 0] t (0, 0))
      simp only [Env.setBld, if_true]
      rw [← hzc]
      exact alloc_at w _) (fun b hb' => by
    have : b = w.heap.size := by
      have hb'' : (E.setBld dst w.heap.size (.slice none 0 0)).blk dst = b := hb'
      simpa [Env.setBld] using hb''.symm
    subst this
    exact ⟨fun ht => Nat.lt_irrefl _ (D.tb _ ht).2, .inr h.mod.size, by rw [alloc_size]; omega, new_free D⟩)
  refine ⟨E.setBld dst w.heap.size (.slice none 0 0), T, .pointer (some ⟨w.heap.size, 0, none⟩), w.alloc (.cells z.cells t), .inl ?_, ?_⟩
  · simp only [execOp, ho]
    refine run_v ?_
    unfold Instr.alloc
    rw [Sem.run_bind, zero_run hi hz w]
    rfl
  · rw [show hget ([(dst, Ent.bld0 t e)] ++ st.hp) = upd (hget st.hp) dst (.bld0 t e) from hget_cons _ _ _]
    exact ⟨s2, D2, same, fun _ z => z, mod_alloc _ w _, RV.ptr (by simp [upd_at]) fun ent h1 h2 => by simp [Env.setBld]⟩

theorem hdr_slice (D : RelD w0.heap.size S I E T (hget st.hp) w) {d : Nat} {ent : Ent} (hd : hget st.hp d = some ent) {q : EK × Nat} (hq : ent.slInfo = some q) : ∃ x cap, E.hdr d = .slice x q.2 cap ∧ q.2 ≤ cap := by
  have hr := D.ent d ent hd
  cases ent with
  | box t cs => simp [Ent.slInfo] at hq
  | dead => simp [Ent.slInfo] at hq
  | bld t e s => simp [Ent.slInfo] at hq
  | bld0 t e => simp [Ent.slInfo] at hq
  | cv t l =>
    simp only [Ent.slInfo, Option.some.injEq] at hq
    subst hq
    obtain ⟨g, cap, cur, h1, _, h3, _⟩ := hr
    exact ⟨_, cap, h1, h3⟩
  | sl t e l =>
    simp only [Ent.slInfo, Option.some.injEq] at hq
    subst hq
    obtain ⟨rows, _, h2⟩ := hr
    rcases h2.2 with ⟨h3, h4⟩ | ⟨g, cap, cur, h3, _, _, h5, _⟩
    · exact ⟨none, 0, by rw [h3]; show Value.slice none 0 0 = .slice none l.length 0; rw [h4], by show l.length ≤ 0; omega⟩
    · exact ⟨_, cap, h3, h5⟩
  | frz t e l =>
    simp only [Ent.slInfo, Option.some.injEq] at hq
    subst hq
    simp only [RE, RC] at hr
    obtain ⟨x, cap, h1, h2, _⟩ := hr
    injection h1 with h1
    exact ⟨x, cap, h1, h2⟩

theorem own_inv (h : Rel S I w0 E T st a w) {look : Nat → Option Ent} {dst : Nat} (hk : LookOk st look dst) {d : Nat} {u : Value} (hv : RV E (hget st.hp) w T (.own d) u) (hc : cellOk look (.own d) = true) : u = E.hdr d ∧ ∃ x m cap, u = .slice x m cap := by
  have key : ∀ ent q, hget st.hp d = some ent → ent.slInfo = some q → u = E.hdr d ∧ ∃ x m cap, u = .slice x m cap := by
    intro ent q hd hq
    cases hv with
    | own he hq' =>
      have h1 := hq' ent q hd hq
      obtain ⟨x, cap, h2, _⟩ := hdr_slice h.data hd hq
      exact ⟨h1, x, _, cap, by rw [h1, h2]⟩
  simp only [cellOk] at hc
  split at hc
  · rename_i hd
    exact key _ _ (hk.get _ _ hd) rfl
  · rename_i hd
    exact key _ _ (hk.get _ _ hd) rfl
  · simp at hc

theorem cells_one {u : Value} (h : u.oneCell' = true) : u.cells = #[u] := by
  cases u <;> simp_all [Value.cells, Value.oneCell']

theorem cells_inv (h : Rel S I w0 E T st a w) {look : Nat → Option Ent} {dst : Nat} (hk : LookOk st look dst) {v : AV} {u : Value} (hv : RV E (hget st.hp) w T v u) (hc : v.cells.all (cellOk look) = true) :
    AllR (fun c v => RV E (hget st.hp) w T c v ∧ c.isCell = true) v.cells u.cells.toList ∧ ∀ z ∈ u.cells.toList, z.oneCell' = true := by
  have one : ∀ {c : AV} {z : Value}, RV E (hget st.hp) w T c z → cellOk look c = true → c.isCell = true ∧ z.oneCell' = true := by
    intro c z hz hc
    cases c with
    | own d =>
      obtain ⟨_, x, m, cap, rfl⟩ := own_inv h hk hz hc
      exact ⟨rfl, rfl⟩
    | val e x =>
      cases hz with
      | val hz => exact ⟨by simpa [cellOk] using hc, RC.one hz z (by simp)⟩
    | nil => cases hz; exact ⟨rfl, rfl⟩
    | agg cs => simp [cellOk, AV.isCell] at hc
    | tup cs => simp [cellOk, AV.isCell] at hc
    | ptr d o => simp [cellOk, AV.isCell] at hc
    | elt d i o => simp [cellOk, AV.isCell] at hc
    | rel cs => simp [cellOk, AV.isCell] at hc
    | fn f cs => simp [cellOk, AV.isCell] at hc
    | mth f cs => simp [cellOk, AV.isCell] at hc
    | gd L v => simp [cellOk, AV.isCell] at hc
    | unk c b => simp [cellOk, AV.isCell] at hc
    | junk => simp [cellOk, AV.isCell] at hc
  by_cases hag : ∃ cs, v = .agg cs
  · obtain ⟨cs, rfl⟩ := hag
    cases hv with
    | @agg _ vs hl hq =>
      simp only [AV.cells, List.all_eq_true] at hc
      have hall : AllR (fun c v => RV E (hget st.hp) w T c v ∧ c.isCell = true ∧ v.oneCell' = true) cs vs := AllR.of_at hl fun i c z h1 h2 => ⟨hq i c z h1 h2, one (hq i c z h1 h2) (hc c (List.mem_of_getElem? h1))⟩
      refine ⟨by simpa [AV.cells, Value.cells] using hall.mono fun _ _ z => ⟨z.1, z.2.1⟩, fun z hz => ?_⟩
      simp only [Value.cells] at hz
      obtain ⟨i, hi⟩ := List.getElem?_of_mem hz
      have hi' : vs[i]? = some z := by simpa using hi
      have hlt : i < cs.length := by rw [hl]; exact (List.getElem?_eq_some_iff.1 hi').1
      exact (allR_at hall i cs[i] z (List.getElem?_eq_getElem hlt) hi').2.2
  · have hv1 : v.cells = [v] := by
      cases v <;> first | rfl | exact absurd ⟨_, rfl⟩ hag
    rw [hv1] at hc ⊢
    have hc' : cellOk look v = true := by simpa using hc
    obtain ⟨h1, h2⟩ := one hv hc'
    rw [cells_one h2]
    exact ⟨⟨⟨hv, h1⟩, trivial⟩, by simpa using h2⟩

theorem box_ok (h : Rel S I w0 E T st a w) (hL : ∀ q ∈ L, a.tmps.getD q.1 undef = .bool q.2) {look : Nat → Option Ent} {dst : Nat} (hk : LookOk st look dst) {t : TypeId} {x : Operand} (ho : o.op = .box t x) (hc : (st.ev L x).cells.all (cellOk look) = true) (hn : look dst = none) :
    OpOk P S I w0 E T st a w o (.ptr dst 0) [(dst, .box t (st.ev L x).cells)] := by
  obtain ⟨hr, _⟩ := cells_inv h hk (ev_RV h hL x) hc
  have hg := add_box (t := t) h (hk.new hn) hr
  refine ⟨_, _, _, _, .inl ?_, hg⟩
  simp only [execOp, ho]
  refine run_v ?_
  have : (a.eval x).cells.toList.toArray = (a.eval x).cells := by simp
  rw [this]
  rfl

end ops
end Go.Ra

namespace Go.Ra
set_option linter.unusedSectionVars false
variable [Known]

theorem AllR.splice {R : AV → Value → Prop} {cs xs : List AV} {vs us : List Value} (h : AllR R cs vs) (k : AllR R xs us) (o : Nat) : AllR R (splice cs o xs) (vs.take o ++ us ++ vs.drop (o + us.length)) := by
  unfold Go.Ra.splice
  rw [← k.len]
  exact ((h.take o).append k).append (h.drop _)

theorem setAll_list (us : List Value) : ∀ (j off : Nat) (cs : Array Value), off + j + us.length ≤ cs.size → ((us.zipIdx j).foldl (fun (cs : Array Value) (p : Value × Nat) => cs.setIfInBounds (off + p.2) p.1) cs).toList = cs.toList.take (off + j) ++ us ++ cs.toList.drop (off + j + us.length) := by
  induction us with
  | nil => intro j off cs h; simp
  | cons u us ih =>
    intro j off cs h
    simp only [List.zipIdx_cons, List.foldl_cons]
    have hsz : off + (j + 1) + us.length ≤ (cs.setIfInBounds (off + j) u).size := by simp at h ⊢; omega
    rw [ih (j + 1) off _ hsz]
    simp only [List.length_cons] at h
    have hlt : off + j < cs.toList.length := by simp; omega
    simp only [Array.toList_setIfInBounds]
    have e1 : (cs.toList.set (off + j) u).take (off + (j + 1)) = cs.toList.take (off + j) ++ [u] := by
      rw [show off + (j + 1) = off + j + 1 by omega, List.take_set, List.take_succ_eq_append_getElem hlt, List.set_append]
      have hm : min (off + j) cs.size = off + j := Nat.min_eq_left (by simp at hlt; omega)
      simp [hm]
    have e2 : (cs.toList.set (off + j) u).drop (off + (j + 1) + us.length) = cs.toList.drop (off + j + (us.length + 1)) := by
      rw [List.drop_set_of_lt (by omega)]
      congr 1
      omega
    rw [e1, e2]
    simp

theorem fill_cells (us cs : Array Value) (off : Nat) (h : off + us.size ≤ cs.size) : (us.zipIdx.foldl (fun (cs : Array Value) (p : Value × Nat) => cs.setIfInBounds (off + p.2) p.1) cs) = (cs.toList.take off ++ us.toList ++ cs.toList.drop (off + us.toList.length)).toArray := by
  have := setAll_list us.toList 0 off cs (by simpa using h)
  rw [← Array.foldl_toList]
  apply Array.toList_inj.1
  rw [Array.toList_zipIdx]
  simpa using this

section ops
variable {P : Program} {S I : Nat → Prop} {w0 : World} {E : Env} {T : Nat → Prop} {st : St} {a : Act} {w : World} {o : Oper} {r : AV} {L : Lits}

theorem fillA_ok (h : Rel S I w0 E T st a w) {look : Nat → Option Ent} {dst : Nat} (hk : LookOk st look dst) {place : Nat → Option (Nat × Nat)} :
    ∀ {ps : List (Nat × AV)} {us : List (Nat × Value)} {cs cs' : List AV} {vs : Array Value}, AllR (fun p u => p.1 = u.1 ∧ RV E (hget st.hp) w T p.2 u.2) ps us → AllR (fun c v => RV E (hget st.hp) w T c v ∧ c.isCell = true) cs vs.toList → fillA look place cs ps = some cs' →
      ∃ vs' : Array Value, Instr.fill place vs us = some vs' ∧ AllR (fun c v => RV E (hget st.hp) w T c v ∧ c.isCell = true) cs' vs'.toList
  | [], [], cs, cs', vs, _, hc, hf => by
    simp only [fillA, Option.some.injEq] at hf
    subst hf
    exact ⟨vs, rfl, hc⟩
  | (i, v) :: ps, (i', u) :: us, cs, cs', vs, hp, hc, hf => by
    obtain ⟨⟨h1, h2⟩, hp⟩ := hp
    simp only at h1 h2
    subst h1
    simp only [fillA] at hf
    cases hpl : place i with
    | none => simp [hpl] at hf
    | some p =>
      obtain ⟨off, n⟩ := p
      simp only [hpl] at hf
      cases hb : (Nat.beq v.cells.length n && Nat.ble (off + n) cs.length && v.cells.all (cellOk look)) with
      | false => rw [hb] at hf; simp at hf
      | true =>
        rw [hb] at hf
        simp only [cond_true] at hf
        simp only [Bool.and_eq_true] at hb
        obtain ⟨⟨b1, b2⟩, b3⟩ := hb
        have e1 := Nat.eq_of_beq_eq_true b1
        have e2 := Nat.le_of_ble_eq_true b2
        obtain ⟨hr, _⟩ := cells_inv h hk h2 b3
        have hl1 := hr.len
        have hl2 := hc.len
        simp only [Array.length_toList] at hl1 hl2
        have hsz : ¬ ((decide (u.cells.size ≠ n) || decide (off + u.cells.size > vs.size)) = true) := by simp; omega
        have hfill := fill_cells u.cells vs off (by omega)
        obtain ⟨vs', k1, k2⟩ := fillA_ok h hk (vs := (vs.toList.take off ++ u.cells.toList ++ vs.toList.drop (off + u.cells.toList.length)).toArray) hp (by simpa using hc.splice hr off) hf
        refine ⟨vs', ?_, k2⟩
        unfold Instr.fill
        simp only [hpl]
        rw [if_neg hsz, hfill]
        exact k1
  | [], _ :: _, _, _, _, hp, _, _ => hp.elim
  | _ :: _, [], _, _, _, hp, _, _ => hp.elim

theorem list_mapM_run {α β : Type} {f : α → Sem β} {g : α → β} : ∀ {l : List α}, (∀ x ∈ l, (f x).run P w = .ok (g x) w) → (l.mapM f).run P w = .ok (l.map g) w
  | [], _ => rfl
  | x :: l, h => by
    rw [List.mapM_cons, Sem.run_bind, h x (by simp)]
    have ih := list_mapM_run (f := f) (g := g) (l := l) fun y hy => h y (by simp [hy])
    simp only [Result.andThen_ok, Sem.run_bind, ih]
    rfl
theorem arr_mapM_run {α β : Type} {f : α → Sem β} {g : α → β} {l : Array α} (h : ∀ x ∈ l.toList, (f x).run P w = .ok (g x) w) : (l.mapM f).run P w = .ok (l.map g) w := by
  rw [Array.mapM_eq_mapM_toList, Sem.run_map, list_mapM_run h]
  simp only [Result.andThen_ok]
  rw [← Array.toList_map]

theorem parts_RV (h : Rel S I w0 E T st a w) (hL : ∀ q ∈ L, a.tmps.getD q.1 undef = .bool q.2) (parts : List (Nat × Operand)) : AllR (fun p u => p.1 = u.1 ∧ RV E (hget st.hp) w T p.2 u.2) (parts.map fun p => (p.1, st.ev L p.2)) (parts.map fun p => (p.1, a.eval p.2)) := by
  induction parts with
  | nil => trivial
  | cons p r ih => exact ⟨⟨rfl, ev_RV h hL p.2⟩, ih⟩

def structPlace (P : Program) (fs : Array Field) : Nat → Option (Nat × Nat) := fun i => match fs[i]? with | some f => (match szT P f.type with | some n => some (f.offset, n) | none => none) | none => none

theorem buildStruct_ok (h : Rel S I w0 E T st a w) (hL : ∀ q ∈ L, a.tmps.getD q.1 undef = .bool q.2) {look : Nat → Option Ent} {dst : Nat} (hk : LookOk st look dst) {t : TypeId} {parts : Array (Nat × Operand)} {i : TypeInfo} {z : Value} {cs cs' : List AV} {fs : Array Field} (ho : o.op = .build t parts)
    (hi : P.info? t = some i) (hz : i.zero = some z) (hc : ofZs z.cells.toList = some cs) (hu : P.underlying t = some (.struct fs)) (hall : fs.toList.all (fun f => (szT P f.type).isSome) = true) (hf : fillA look (structPlace P fs) cs (parts.toList.map fun p => (p.1, st.ev L p.2)) = some cs') :
    OpOk P S I w0 E T st a w o (.agg cs') [] := by
  obtain ⟨vs', k1, k2⟩ := fillA_ok h hk (vs := z.cells) (parts_RV h hL parts.toList) (ofZs_RV hc) hf
  have hpl : (fun i => (fs.map fun f => (f.offset, (szT P f.type).getD 0))[i]?) = structPlace P fs := by
    funext i
    simp only [structPlace, Array.getElem?_map]
    cases hfi : fs[i]? with
    | none => rfl
    | some f =>
      have hm : f ∈ fs.toList := by
        have : fs.toList[i]? = some f := by simpa using hfi
        exact List.mem_of_getElem? this
      have := List.all_eq_true.1 hall f hm
      cases hs : szT P f.type with
      | none => simp [hs] at this
      | some n => simp [hs]
  refine OpOk.pure h (v := .agg vs'.toList.toArray) ?_ (RV.agg k2.len fun i c v h1 h2 => (allR_at k2 i c v h1 h2).1)
  simp only [execOp, ho]
  refine run_v ?_
  unfold Instr.build
  rw [Sem.run_bind, zero_run hi hz w]
  simp only [Result.andThen_ok]
  rw [Sem.run_bind, run_underlying hu w]
  simp only [Result.andThen_ok]
  rw [Sem.run_bind, arr_mapM_run (g := fun f => (f.offset, (szT P f.type).getD 0)) (fun f hfm => by
    have := List.all_eq_true.1 hall f hfm
    cases hs : szT P f.type with
    | none => simp [hs] at this
    | some n => simp [szT_run hs w])]
  simp only [Result.andThen_ok]
  have hparts : (parts.map fun p => (p.1, a.eval p.2)).toList = parts.toList.map fun p => (p.1, a.eval p.2) := by simp
  rw [hpl, hparts, k1]
  simp

theorem buildArray_ok (h : Rel S I w0 E T st a w) (hL : ∀ q ∈ L, a.tmps.getD q.1 undef = .bool q.2) {look : Nat → Option Ent} {dst : Nat} (hk : LookOk st look dst) {t : TypeId} {parts : Array (Nat × Operand)} {i : TypeInfo} {z : Value} {cs cs' : List AV} {m n : Nat} {et : TypeId} (ho : o.op = .build t parts)
    (hi : P.info? t = some i) (hz : i.zero = some z) (hc : ofZs z.cells.toList = some cs) (hu : P.underlying t = some (.array m et)) (hs : szT P et = some n) (hf : fillA look (fun i => some (i * n, n)) cs (parts.toList.map fun p => (p.1, st.ev L p.2)) = some cs') :
    OpOk P S I w0 E T st a w o (.agg cs') [] := by
  obtain ⟨vs', k1, k2⟩ := fillA_ok h hk (vs := z.cells) (parts_RV h hL parts.toList) (ofZs_RV hc) hf
  refine OpOk.pure h (v := .agg vs'.toList.toArray) ?_ (RV.agg k2.len fun i c v h1 h2 => (allR_at k2 i c v h1 h2).1)
  simp only [execOp, ho]
  refine run_v ?_
  unfold Instr.build
  rw [Sem.run_bind, zero_run hi hz w]
  simp only [Result.andThen_ok]
  rw [Sem.run_bind, run_underlying hu w]
  simp only [Result.andThen_ok]
  rw [Sem.run_bind, szT_run hs w]
  simp only [Result.andThen_ok]
  have hparts : (parts.map fun p => (p.1, a.eval p.2)).toList = parts.toList.map fun p => (p.1, a.eval p.2) := by simp
  rw [hparts, k1]
  simp

end ops
end Go.Ra

namespace Go.Ra
set_option linter.unusedSectionVars false
variable [Known]

theorem setRow_mod (w : World) (g : Nat) (cs : Array Value) : Mod (fun k => some g = some k) w (w.setRow g cs) := by
  refine ⟨rfl, rfl, rfl, ?_, fun k hk hn => ?_⟩
  · simp [World.setRow]
  · have : ¬ g = k := fun z => hn (by rw [z])
    simp [World.setRow, Array.getElem?_modify, this]

theorem flatten_splice {sz : Nat} {us : List Value} {o : Nat} (ho : o + us.length ≤ sz) : ∀ {rows : List (List Value)} {i : Nat} {r : List Value}, (∀ r ∈ rows, r.length = sz) → rows[i]? = some r →
    (rows.set i (r.take o ++ us ++ r.drop (o + us.length))).flatten = rows.flatten.take (i * sz + o) ++ us ++ rows.flatten.drop (i * sz + o + us.length)
  | [], i, r, _, h => by simp at h
  | a :: rows, 0, r, hl, h => by
    simp at h
    subst h
    have ha : a.length = sz := hl a (by simp)
    simp only [List.set_cons_zero, List.flatten_cons, Nat.zero_mul, Nat.zero_add]
    rw [List.take_append_of_le_length (by omega), List.drop_append_of_le_length (by omega)]
    simp
  | a :: rows, i + 1, r, hl, h => by
    have ha : a.length = sz := hl a (by simp)
    have ih := flatten_splice ho (rows := rows) (i := i) (r := r) (fun r hr => hl r (by simp [hr])) (by simpa using h)
    simp only [List.set_cons_succ, List.flatten_cons]
    rw [ih]
    have e1 : (i + 1) * sz + o = a.length + (i * sz + o) := by rw [Nat.succ_mul, ha]; omega
    have e2 : a.length + (i * sz + o) + us.length = a.length + (i * sz + o + us.length) := by omega
    rw [e1, e2, List.take_length_add_append, List.drop_length_add_append]
    simp

theorem take_splice {us xs : List Value} {cur : List Value} {N p : Nat} (h : cur.take N = xs) (hN : N ≤ cur.length) (hp : p + us.length ≤ N) : (cur.take p ++ us ++ cur.drop (p + us.length)).take N = xs.take p ++ us ++ xs.drop (p + us.length) := by
  subst h
  have e1 : (cur.take N).take p = cur.take p := by rw [List.take_take]; congr 1; omega
  have e2 : (cur.take N).drop (p + us.length) = (cur.drop (p + us.length)).take (N - (p + us.length)) := by rw [List.drop_take]
  rw [e1, e2]
  have hl : (cur.take p ++ us).length = p + us.length := by simp; omega
  rw [List.take_append, hl]
  congr 1
  exact List.take_of_length_le (by omega)

section ops
variable {P : Program} {S I : Nat → Prop} {w0 : World} {E : Env} {T : Nat → Prop} {st : St} {a : Act} {w : World} {o : Oper} {r : AV} {L : Lits}

theorem mod_own (h : Rel S I w0 E T st a w) {d : Nat} {ent : Ent} (hd : hget st.hp d = some ent) {w' : World} (hM : Mod (fun k => obk E d ent k) w w') : Mod (fun k => I k ∨ w0.heap.size ≤ k) w w' :=
  hM.weaken fun k _ hk => (h.data.own d ent k hd hk).2.1

theorem same_own (h : Rel S I w0 E T st a w) {d : Nat} {ent : Ent} (hd : hget st.hp d = some ent) {w' : World} (hM : Mod (fun k => obk E d ent k) w w') : ∀ b, T b → w'.heap[b]? = w.heap[b]? :=
  fun b hb => hM.block b (h.data.tb b hb).2 fun hk => (h.data.own d ent b hd hk).1 hb

theorem storeBox_ok (h : Rel S I w0 E T st a w) (hL : ∀ q ∈ L, a.tmps.getD q.1 undef = .bool q.2) {look : Nat → Option Ent} {dst : Nat} (hk : LookOk st look dst) {t t' : TypeId} {x y : Operand} {n d of : Nat} {cs : List AV} (ho : o.op = .store t x y) (hn : szT P t = some n)
    (h1 : (st.ev L y).cells.length = n) (h2 : (st.ev L y).cells.all (cellOk look) = true) (hx : st.ev L x = .ptr d of) (hd : look d = some (.box t' cs)) (hle : of + n ≤ cs.length) :
    OpOk P S I w0 E T st a w o .junk [(d, .box t' (splice cs of (st.ev L y).cells))] := by
  obtain ⟨hr, hone⟩ := cells_inv h hk (ev_RV h hL y) h2
  have hd := hk.get _ _ hd
  have hp := ev_RV h hL x
  rw [hx] at hp
  obtain ⟨vs, hb, hv⟩ := h.data.ent d _ hd
  have hpt : a.eval x = .pointer (some ⟨E.blk d, of, none⟩) := by
    generalize a.eval x = u at hp
    cases hp with
    | ptr he hq => exact hq _ hd rfl
  have hlen := hr.len
  have hlenv := hv.len
  have hrun := run_storeCells_at (P := P) (E.blk d) of t' (a.eval y).cells.toList 0 vs.toArray w hb (by simp at hlen ⊢; omega) hone
  have hM : Mod (fun k => obk E d (.box t' cs) k) w (w.setRow (E.blk d) (vs.toArray.toList.take (of + 0) ++ (a.eval y).cells.toList ++ vs.toArray.toList.drop (of + 0 + (a.eval y).cells.toList.length)).toArray) := (setRow_mod w (E.blk d) _).weaken fun k _ hk => by injection hk
  have hheap := setRow_heap w (E.blk d) _ (vs.toArray.toList.take (of + 0) ++ (a.eval y).cells.toList ++ vs.toArray.toList.drop (of + 0 + (a.eval y).cells.toList.length)).toArray t' _ hb
  generalize w.setRow (E.blk d) (vs.toArray.toList.take (of + 0) ++ (a.eval y).cells.toList ++ vs.toArray.toList.drop (of + 0 + (a.eval y).cells.toList.length)).toArray = w' at hrun hM hheap
  have hS : HStep E E (hget st.hp) (upd (hget st.hp) d (.box t' (splice cs of (st.ev L y).cells))) := HStep.chg hd (fun _ => rfl) (fun q hq => by simp [Ent.slInfo] at hq)
  have same := same_own h hd hM
  obtain ⟨D, s⟩ := h.data.chg (ent' := .box t' (splice cs of (st.ev L y).cells)) (T' := T) hd (fun _ => rfl) (fun q hq => by simp [Ent.slInfo] at hq) hM (fun _ z => z) (fun _ z => .inl z)
    (fun b hb => ⟨hb, (h.data.own d _ b hd hb).1⟩) (by
      refine ⟨_, hheap, ?_⟩
      have h3 := AllR.mono (R' := fun c v => RV E (upd (hget st.hp) d (.box t' (splice cs of (st.ev L y).cells))) w' T c v ∧ c.isCell = true) (fun c v hc => ⟨RV.mono hS same (fun _ z => z) hc.1, hc.2⟩) (hv.splice hr of)
      simpa using h3)
  refine ⟨E, T, undef, w', .inr ⟨?_, rfl⟩, ?_⟩
  · simp only [execOp, ho]
    unfold Instr.storeAt
    simp only [hpt, Instr.sureAddr, Sem.run_bind, Sem.run_pure, Result.andThen_ok]
    unfold storeVar
    have hsz : ¬ ((a.eval y).cells.size ≠ n) := by simp at hlen; omega
    rw [Sem.run_bind, szT_run hn w]
    simp only [Result.andThen_ok, if_neg hsz]
    rw [hrun]
    rfl
  · have e : hget ([(d, Ent.box t' (splice cs of (st.ev L y).cells))] ++ st.hp) = upd (hget st.hp) d (.box t' (splice cs of (st.ev L y).cells)) := hget_cons _ _ _
    rw [e]
    exact ⟨s, D, same, fun _ z => z, mod_own h hd hM, .junk⟩

theorem owns_cells (v : AV) : v.owns = v.cells.flatMap AV.owns1 := by
  cases v <;> simp [AV.owns, AV.cells, AV.owns1]
theorem cells_owns : ∀ {e : EK} {x : e.T}, ∀ c ∈ e.cells x, AV.owns1 c = []
  | .unit, _, c, h => by simp [EK.cells] at h
  | .int _, _, c, h => by simp [EK.cells] at h; subst h; rfl
  | .bool, _, c, h => by simp [EK.cells] at h; subst h; rfl
  | .str, _, c, h => by simp [EK.cells] at h; subst h; rfl
  | .err, _, c, h => by simp [EK.cells] at h; subst h; rfl
  | .sl _, _, c, h => by simp [EK.cells] at h; subst h; rfl
  | .pair a b, x, c, h => by
    simp only [EK.cells, List.mem_append] at h
    rcases h with h | h
    · exact cells_owns c h
    · exact cells_owns c h

theorem storeElt_ok (h : Rel S I w0 E T st a w) (hL : ∀ q ∈ L, a.tmps.getD q.1 undef = .bool q.2) {look : Nat → Option Ent} {dst : Nat} (hk : LookOk st look dst) {t t' : TypeId} {x y : Operand} {n d of : Nat} {i : Int} {e : EK} {l : List e.T} {z : e.T} (ho : o.op = .store t x y) (hn : szT P t = some n)
    (h1 : (st.ev L y).cells.length = n) (h2 : (st.ev L y).cells.all (cellOk look) = true) (hx : st.ev L x = .elt d i of) (hd : look d = some (.sl t' e l)) (hz : cellsT look e (splice (e.cells (l.getD i.toNat e.d)) of (st.ev L y).cells) = some (z, [])) (hle : of + n ≤ e.n)
    (hmem : memN d (st.ev L y).owns = false) :
    OpOk P S I w0 E T st a w o .junk ((d, .sl t' e (l.set i.toNat z)) :: frzs look (st.ev L y).owns) := by
  obtain ⟨hr, hone⟩ := cells_inv h hk (ev_RV h hL y) h2
  have hdg := hk.get _ _ hd
  have hp := ev_RV h hL x
  rw [hx] at hp
  have hnm : d ∉ (st.ev L y).owns := fun hm => by rw [memN_iff.2 hm] at hmem; exact absurd hmem (by simp)
  obtain ⟨T1, t1, D1, s1, _, t3, t4, _, _⟩ := frzs_ok (ids := (st.ev L y).owns) h.data hk.get
  have hd1 : hget (frzs look (st.ev L y).owns ++ st.hp) d = some (.sl t' e l) := by rw [t4 d hnm]; exact hdg
  obtain ⟨rows, hrows, hown⟩ := h.data.ent d _ hdg
  -- the address
  have hq : 0 ≤ i ∧ i < l.length ∧ ∃ ad m cap, E.hdr d = .slice (some ad) m cap ∧ a.eval x = .pointer (some (ad.add (i.toNat * e.n + of))) := by
    generalize a.eval x = u at hp
    cases hp with
    | elt he hq => exact hq _ e l.length hdg rfl
  obtain ⟨hi0, hi1, ad, m, cap, hhdr, hpt⟩ := hq
  have hj : i.toNat < l.length := by omega
  have hgl : l[i.toNat]? = some (l.getD i.toNat e.d) := by simp [List.getD_eq_getElem?_getD, List.getElem?_eq_getElem hj]
  obtain ⟨row, hrow, hRC⟩ := hrows.at _ _ hgl
  have hrl := rows_len hrows
  have hrowlen : row.length = e.n := hRC.len
  have hulen : (a.eval y).cells.toList.length = n := by rw [← hr.len]; exact h1
  rcases hown.2 with ⟨h3, h4⟩ | ⟨g, cap', cur, h3, _, hheap, hc1, hc2, hc3, hc4⟩
  · omega
  · rw [h3] at hhdr
    injection hhdr with e1 e2 e3
    injection e1 with e1
    subst e1
    have hpos : i.toNat * e.n + e.n ≤ l.length * e.n := by
      rw [← Nat.succ_mul]
      exact Nat.mul_le_mul_right _ hj
    have hcapN : l.length * e.n ≤ cap' * e.n := Nat.mul_le_mul_right _ hc1
    have hadd : (⟨g, 0, none⟩ : Addr).add (i.toNat * e.n + of) = ⟨g, i.toNat * e.n + of, none⟩ := by
      unfold Addr.add
      split
      · rename_i hz; rw [hz]
      · rw [Nat.zero_add]
    rw [hadd] at hpt
    have hrun := run_storeCells_at (P := P) g (i.toNat * e.n + of) t' (a.eval y).cells.toList 0 cur w hheap (by omega) hone
    have hM : Mod (fun k => obk E d (.sl t' e l) k) w (w.setRow g (cur.toList.take (i.toNat * e.n + of + 0) ++ (a.eval y).cells.toList ++ cur.toList.drop (i.toNat * e.n + of + 0 + (a.eval y).cells.toList.length)).toArray) :=
      (setRow_mod w g _).weaken fun k _ hk => by simp only [obk, h3, Value.ownBlock]; exact hk
    have hheap' := setRow_heap w g cur (cur.toList.take (i.toNat * e.n + of + 0) ++ (a.eval y).cells.toList ++ cur.toList.drop (i.toNat * e.n + of + 0 + (a.eval y).cells.toList.length)).toArray t' _ hheap
    generalize w.setRow g (cur.toList.take (i.toNat * e.n + of + 0) ++ (a.eval y).cells.toList ++ cur.toList.drop (i.toNat * e.n + of + 0 + (a.eval y).cells.toList.length)).toArray = w' at hrun hM hheap'
    have same1 : ∀ b, T1 b → w'.heap[b]? = w.heap[b]? := fun b hb => hM.block b (D1.tb b hb).2 fun hk => (D1.own d _ b hd1 hk).1 hb
    -- the new element
    have hel : RC w T1 e z (row.take of ++ (a.eval y).cells.toList ++ row.drop (of + (a.eval y).cells.toList.length)) := by
      have hall : AllR (fun c v => RV E (hget st.hp) w T c v ∧ c.isCell = true) (e.cells (l.getD i.toNat e.d)) row := cells_RV hRC
      have hsp := (hall.splice hr of).mono (R' := fun c v => RV E (hget st.hp) w T c v) fun c v hc => hc.1
      obtain ⟨v1, v2, hv, k1, k2, _⟩ := cellsT_ok h.data hk.get t1 hsp (fun d' hd' t2 e2 l2 b hkd hb => by
        obtain ⟨c, hc, hdc⟩ := List.mem_flatMap.1 hd'
        have hcy : c ∈ (st.ev L y).cells := by
          unfold splice at hc
          simp only [List.mem_append] at hc
          rcases hc with (hc | hc) | hc
          · rw [cells_owns c (List.mem_of_mem_take hc)] at hdc; simp at hdc
          · exact hc
          · rw [cells_owns c (List.mem_of_mem_drop hc)] at hdc; simp at hdc
        exact t3 d' (by rw [owns_cells]; exact List.mem_flatMap.2 ⟨_, hcy, hdc⟩) _ _ _ b hkd hb) hz
      have hv2 : v2 = [] := by
        cases v2 with
        | nil => rfl
        | cons => exact k2.elim
      subst hv2
      rw [hv, List.append_nil]
      exact k1
    obtain ⟨D, s⟩ := D1.chg (ent' := .sl t' e (l.set i.toNat z)) (T' := T1) hd1 (fun h => h) (fun q hq => by simpa [Ent.slInfo] using hq) hM (fun _ z => z) (fun _ z => .inl z) (fun b hb => ⟨hb, (D1.own d _ b hd1 hb).1⟩) (by
      refine ⟨rows.set i.toNat (row.take of ++ (a.eval y).cells.toList ++ row.drop (of + (a.eval y).cells.toList.length)), ?_, ?_⟩
      · exact (hrows.mono (R' := fun x r => RC w' T1 e x r) fun x r hx => RC.mono (fun b hb => same1 b (t1 b hb)) t1 hx).set _ _ _ (RC.mono same1 (fun _ z => z) hel)
      · have hfl := flatten_splice (us := (a.eval y).cells.toList) (o := of) (sz := e.n) (by omega) hrl hrow
        rw [hfl, h3]
        refine ⟨?_, .inr ⟨g, cap', _, by simp, Nat.zero_le _, hheap', by simpa using hc1, hc2, ?_, ?_⟩⟩
        · have := hown.1
          simp only [List.length_append, List.length_take, List.length_drop, List.length_set]
          omega
        · have hcl : cur.toList.length = cur.size := by simp
          simp only [List.size_toArray, List.length_append, List.length_take, List.length_drop, hcl]
          omega
        · simp only [Nat.add_zero, List.length_set]
          exact take_splice hc4 (by simp; omega) (by omega))
    refine ⟨E, T1, undef, w', .inr ⟨?_, rfl⟩, ?_⟩
    · simp only [execOp, ho]
      unfold Instr.storeAt
      simp only [hpt, Instr.sureAddr, Sem.run_bind, Sem.run_pure, Result.andThen_ok]
      unfold storeVar
      have hsz : ¬ ((a.eval y).cells.size ≠ n) := by simp at hulen; omega
      rw [Sem.run_bind, szT_run hn w]
      simp only [Result.andThen_ok, if_neg hsz]
      rw [hrun]
      rfl
    · rw [List.cons_append, hget_cons]
      exact ⟨s1.trans s, D, fun b hb => same1 b (t1 b hb), t1, mod_own h hdg (hM.weaken fun k _ hk => hk), .junk⟩
theorem storeCv_ok (h : Rel S I w0 E T st a w) (hL : ∀ q ∈ L, a.tmps.getD q.1 undef = .bool q.2) {look : Nat → Option Ent} {dst : Nat} (hk : LookOk st look dst) {t t' : TypeId} {x y : Operand} {d : Nat} {i : Int} {l : List Int} {z : Int} (ho : o.op = .store t x y) (hn : szT P t = some 1)
    (hx : st.ev L x = .elt d i 0) (hy : st.ev L y = .val (.int .u8) z) (hd : look d = some (.cv t' l)) :
    OpOk P S I w0 E T st a w o .junk [(d, .cv t' (l.set i.toNat z))] := by
  have hdg := hk.get _ _ hd
  have hvy := ev_RV h hL y
  rw [hy] at hvy
  have hey : a.eval y = .int .u8 z := by
    generalize a.eval y = u at hvy
    cases hvy with | val h => simp only [RC] at h; injection h
  have hvx := ev_RV h hL x
  rw [hx] at hvx
  obtain ⟨g, cap, cur, q1, q2, q3, q4, q5⟩ := h.data.ent d _ hdg
  obtain ⟨h0, h1, hpt⟩ : 0 ≤ i ∧ i < l.length ∧ a.eval x = .pointer (some ⟨g, i.toNat, none⟩) := by
    generalize a.eval x = u at hvx
    cases hvx with
    | elt he hq =>
      obtain ⟨h0, h1, ad, m, cp, h2, h3⟩ := hq _ _ _ hdg rfl
      rw [q1] at h2
      injection h2 with h2
      injection h2 with h2
      subst h2
      have hadd : (⟨g, 0, none⟩ : Addr).add (i.toNat * (EK.int IntKind.u8).n + 0) = ⟨g, i.toNat, none⟩ := by
        simp only [EK.n, Nat.mul_one, Nat.add_zero]
        unfold Addr.add
        by_cases hz : i.toNat = 0
        · rw [if_pos hz, hz]
        · rw [if_neg hz]; simp
      exact ⟨h0, h1, by rw [h3, hadd]⟩
  have hjc : i.toNat < cur.size := by omega
  have hfr : w.frozen? ⟨g, i.toNat, none⟩ = false := by
    simp [World.frozen?, q2]
    omega
  have hcell : w.cell? ⟨g, i.toNat, none⟩ = some cur[i.toNat] := by
    simp only [World.cell?, q2]
    simp [hjc]
  have hadd0 : (⟨g, i.toNat, none⟩ : Addr).add 0 = ⟨g, i.toNat, none⟩ := rfl
  have hrun : (storeCells ⟨g, i.toNat, none⟩ [.int .u8 z] 0).run P w = .ok () (w.setCell ⟨g, i.toNat, none⟩ (.int .u8 z)) := by
    unfold storeCells
    rw [hadd0, Sem.run_bind, run_store P w _ _ _ rfl, hcell]
    simp only [hfr, Bool.false_eq_true, if_false, Result.andThen_ok]
    rfl
  have hM : Mod (fun k => obk E d (.cv t' l) k) w (w.setCell ⟨g, i.toNat, none⟩ (.int .u8 z)) :=
    ⟨rfl, rfl, rfl, by simp [World.setCell], fun k _ hk => heap_setCell_other w ⟨g, i.toNat, none⟩ k _ (fun e => hk (by show (E.hdr d).ownBlock = some k; rw [q1]; exact congrArg some e.symm))⟩
  have hheap : (w.setCell ⟨g, i.toNat, none⟩ (.int .u8 z)).heap[g]? = some (.cells (cur.setIfInBounds i.toNat (.int .u8 z)) t' (cur.size, cur.size + 1)) := by
    simp [World.setCell, Array.getElem?_modify, q2]
  have same := same_own h hdg hM
  obtain ⟨D, s⟩ := h.data.chg (ent' := .cv t' (l.set i.toNat z)) (T' := T) hdg (fun h => by simp [Ent.isBox] at h) (fun q hq => by simpa [Ent.slInfo] using hq) hM (fun _ z => z) (fun _ z => .inl z)
    (fun b hb => ⟨hb, (h.data.own d _ b hdg hb).1⟩) (by
      show CvAt _ t' (E.hdr d) (l.set i.toNat z)
      refine ⟨g, cap, cur.setIfInBounds i.toNat (.int .u8 z), by rw [q1, List.length_set], by rw [hheap]; simp, by rw [List.length_set]; exact q3, by simpa using q4, ?_⟩
      rw [List.length_set, Array.toList_setIfInBounds, List.take_set, q5, List.map_set])
  refine ⟨E, T, undef, w.setCell ⟨g, i.toNat, none⟩ (.int .u8 z), .inr ⟨?_, rfl⟩, ?_⟩
  · simp only [execOp, ho]
    unfold Instr.storeAt
    simp only [hpt, Instr.sureAddr, Sem.run_bind, Sem.run_pure, Result.andThen_ok, hey]
    unfold storeVar
    rw [Sem.run_bind, szT_run hn w]
    simp only [Result.andThen_ok]
    rw [if_neg (by simp [Value.cells])]
    have : (Value.int .u8 z).cells.toList = [.int .u8 z] := rfl
    rw [this, hrun]
    rfl
  · rw [show hget ([(d, Ent.cv t' (l.set i.toNat z))] ++ st.hp) = upd (hget st.hp) d (.cv t' (l.set i.toNat z)) from hget_cons _ _ _]
    exact ⟨s, D, same, fun _ z => z, mod_own h hdg hM, .junk⟩


end ops
end Go.Ra

namespace Go.Ra
set_option linter.unusedSectionVars false
variable [Known]

section ops
variable {P : Program} {S I : Nat → Prop} {w0 : World} {E : Env} {T : Nat → Prop} {st : St} {a : Act} {w : World} {o : Oper} {r : AV} {L : Lits}

theorem RelD.addSl {base : Nat} {hp : Nat → Option Ent} (D : RelD base S I E T hp w) {dst : Nat} (hn : hp dst = none) {t : TypeId} {e : EK} {l : List e.T} {rows : List (List Value)} {v : Value} (hr : AllR (fun x r => RC w T e x r) l rows) (ho : w.ownsRow 0 t e.n v l.length rows.flatten)
    (hb : ∀ b, v.ownBlock = some b → ¬ T b ∧ (I b ∨ base ≤ b) ∧ b < w.heap.size ∧ ∀ d' ent', hp d' = some ent' → ¬ obk E d' ent' b) :
    RelD base S I (E.setHdr dst v) T (upd hp dst (.sl t e l)) w ∧ HStep E (E.setHdr dst v) hp (upd hp dst (.sl t e l)) ∧ RV (E.setHdr dst v) (upd hp dst (.sl t e l)) w T (.own dst) v := by
  have hh : ∀ x, x ≠ dst → (E.setHdr dst v).hdr x = E.hdr x := fun x hx => by simp [Env.setHdr, hx]
  have e1 : (E.setHdr dst v).hdr dst = v := by simp [Env.setHdr]
  obtain ⟨D2, s2⟩ := D.add (E' := E.setHdr dst v) (ent := .sl t e l) hn (fun _ _ => rfl) hh (fun _ _ => rfl) ⟨rows, hr, by rw [e1]; exact ho⟩ (fun b hb' => hb b (by rw [← e1]; exact hb'))
  exact ⟨D2, s2, RV.own (by simp [upd_at]) fun _ _ _ _ => e1.symm⟩

theorem rowT_ok {t et : TypeId} {e : EK} {by_ : Nat} (h : rowT P t = some (et, e, by_)) : P.underlying t = some (.slice et) ∧ ∃ i z, P.info? et = some i ∧ i.zero = some z ∧ isZ e z.cells.toList = some [] ∧ i.size = e.n ∧ i.bytes = by_ ∧ 1 ≤ by_ ∧ 1 ≤ e.n := by
  unfold rowT at h
  split at h
  · rename_i et' he
    split at h
    · rename_i e' i h1 h2
      split at h
      · rename_i z hz
        split at h
        · rename_i hzz
          cases hb : (Nat.beq i.size e'.n && Nat.ble 1 i.bytes && Nat.ble 1 e'.n) with
          | false => rw [hb] at h; simp at h
          | true =>
            rw [hb] at h
            simp only [cond_true, Option.some.injEq, Prod.mk.injEq] at h
            obtain ⟨rfl, rfl, rfl⟩ := h
            simp only [Bool.and_eq_true] at hb
            refine ⟨?_, i, z, h2, hz, hzz, Nat.eq_of_beq_eq_true hb.1.1, rfl, Nat.le_of_ble_eq_true hb.1.2, Nat.le_of_ble_eq_true hb.2⟩
            unfold elemT at he
            split at he <;> simp_all
        · simp at h
      · simp at h
    · simp at h
  · simp at h

theorem sizeOk_ok {t : TypeId} {n : Nat} (h : sizeOk P t n = true) : ∃ et, P.underlying t = some (.slice et) ∧ szT P et = some n := by
  unfold sizeOk at h
  split at h
  · rename_i et he
    split at h
    · rename_i m hm
      have := Nat.eq_of_beq_eq_true h
      subst this
      refine ⟨et, ?_, hm⟩
      unfold elemT at he
      split at he <;> simp_all
    · simp at h
  · simp at h

theorem isZ_len {e : EK} {z : Value} (h : isZ e z.cells.toList = some []) : z.cells.size = e.n ∧ ∀ (w : World) (T : Nat → Prop), RC w T e e.d z.cells.toList := by
  have key : ∀ (w : World) (T : Nat → Prop), RC w T e e.d z.cells.toList := by
    intro w T
    obtain ⟨cs, h1, h2⟩ := isZ_ok (w := w) (T := T) h
    rw [h1, List.append_nil]
    exact h2
  refine ⟨?_, key⟩
  have := (key default (fun _ => True)).len
  simpa using this

theorem madeCells_flat (z : Array Value) (m : Nat) : (madeCells z (m * z.size)).toList = (List.replicate m z.toList).flatten := by
  apply List.ext_getElem?
  intro j
  by_cases hj : j < m * z.size
  · have hz : 0 < z.size := by
      rcases Nat.eq_zero_or_pos z.size with h | h
      · rw [h] at hj; simp at hj
      · exact h
    have h1 : j / z.size < m := Nat.div_lt_of_lt_mul (by rw [Nat.mul_comm]; exact hj)
    have h2 : j % z.size < z.size := Nat.mod_lt _ hz
    have h3 : j / z.size * z.size + j % z.size = j := by rw [Nat.mul_comm]; exact Nat.div_add_mod j z.size
    have hr := flatten_at (rows := List.replicate m z.toList) (n := z.size) (fun r hr => by have := List.eq_of_mem_replicate hr; rw [this]; simp) (j := j / z.size) (r := z.toList) (by simp [h1]) (i := j % z.size) (u := z[j % z.size]) (by simp [h2])
    rw [h3] at hr
    rw [hr]
    simp [madeCells, hj, h2]
  · have : (List.replicate m z.toList).flatten.length = m * z.size := by simp
    rw [List.getElem?_eq_none (by simp [madeCells]; omega), List.getElem?_eq_none (by rw [this]; omega)]

theorem AllR.replicate {α β : Type} {R : α → β → Prop} {x : α} {y : β} (h : R x y) : ∀ n, AllR R (List.replicate n x) (List.replicate n y)
  | 0 => trivial
  | n + 1 => ⟨h, AllR.replicate h n⟩

theorem flatten_len {rows : List (List Value)} {n : Nat} (h : ∀ r ∈ rows, r.length = n) : rows.flatten.length = rows.length * n := by
  induction rows with
  | nil => simp
  | cons a rows ih =>
    simp only [List.flatten_cons, List.length_append, List.length_cons, Nat.succ_mul]
    rw [ih fun r hr => h r (by simp [hr]), h a (by simp)]
    omega

theorem flatten_take {rows : List (List Value)} {n : Nat} (h : ∀ r ∈ rows, r.length = n) : ∀ m, (rows.take m).flatten = rows.flatten.take (m * n) := by
  induction rows with
  | nil => intro m; simp
  | cons a rows ih =>
    intro m
    cases m with
    | zero => simp
    | succ m =>
      simp only [List.take_succ_cons, List.flatten_cons]
      rw [ih (fun r hr => h r (by simp [hr])), Nat.succ_mul, Nat.add_comm (m * n) n, ← h a (by simp), List.take_length_add_append]

theorem make_ok (h : Rel S I w0 E T st a w) (hL : ∀ q ∈ L, a.tmps.getD q.1 undef = .bool q.2) {look : Nat → Option Ent} {dst : Nat} (hk : LookOk st look dst) {t et : TypeId} {e : EK} {by_ : Nat} {x y : Operand} {n m : Int} (ho : o.op = .makeSlice t x y)
    (hx : st.ev L x = .val (.int .i64) n) (hy : st.ev L y = .val (.int .i64) m) (hr : rowT P t = some (et, e, by_)) (hn : look dst = none) (h0 : 0 ≤ n) (h1 : n ≤ m) (h2 : m.toNat ≤ 140737488355328 / by_) :
    OpOk P S I w0 E T st a w o (.own dst) [(dst, .sl et e (List.replicate n.toNat e.d))] := by
  obtain ⟨hu, i, z, hi, hz, hzz, hsz, hby, hb1, hn1⟩ := rowT_ok hr
  have hvx := ev_RV h hL x
  rw [hx] at hvx
  have hvy := ev_RV h hL y
  rw [hy] at hvy
  obtain ⟨zs, hRC⟩ := isZ_len hzz
  have hmb : m.toNat * by_ ≤ 140737488355328 := by
    have := Nat.mul_le_mul_right by_ h2
    exact Nat.le_trans this (Nat.div_mul_le_self _ _)
  have hm : m.toNat ≤ 140737488355328 := Nat.le_trans (Nat.le_mul_of_pos_right _ hb1) hmb
  have hbm : (i.bytes : Int) * m ≤ 281474976710656 := by
    have e1 : (i.bytes : Int) * m = ((m.toNat * by_ : Nat) : Int) := by
      rw [hby, Int.natCast_mul, Int.toNat_of_nonneg (by omega), Int.mul_comm]
    rw [e1]
    omega
  have hrun := run_make (P := P) w t et i z hu hi hz .i64 .i64 n m h0 h1 hbm (by omega)
  have D := h.data
  have D1 := D.grow (mod_alloc (fun _ => False) w (.cells (madeCells z.cells (m.toNat * i.size)) et))
  have same : ∀ b, T b → (w.alloc (.cells (madeCells z.cells (m.toNat * i.size)) et)).heap[b]? = w.heap[b]? := fun b hb => (mod_alloc (fun _ => False) w _).block b (D.tb b hb).2 (fun z => z)
  have hflat : (madeCells z.cells (m.toNat * i.size)).toList = (List.replicate m.toNat z.cells.toList).flatten := by rw [hsz, ← zs]; exact madeCells_flat _ _
  obtain ⟨D2, s2, hv⟩ := D1.addSl (e := e) (l := List.replicate n.toNat e.d) (t := et) (v := .slice (some ⟨w.heap.size, 0, none⟩) n.toNat m.toNat) (rows := List.replicate n.toNat z.cells.toList) (hk.new hn) (AllR.replicate (hRC _ _) _)
    (by
      have hrl : ∀ r ∈ List.replicate m.toNat z.cells.toList, r.length = e.n := fun r hr => by rw [List.eq_of_mem_replicate hr]; simpa using zs
      have hrl' : ∀ r ∈ List.replicate n.toNat z.cells.toList, r.length = e.n := fun r hr => by rw [List.eq_of_mem_replicate hr]; simpa using zs
      refine ⟨by rw [flatten_len hrl']; simp, .inr ⟨_, m.toNat, _, by simp, Nat.zero_le _, alloc_at w _, by simp; omega, by simp only [maxLen]; omega, by rw [size_madeCells, hsz], ?_⟩⟩
      rw [hflat, List.length_replicate, ← flatten_take hrl]
      congr 1
      rw [List.take_replicate]
      congr 1
      omega)
    (fun b hb => by
      have : b = w.heap.size := by simpa [Value.ownBlock] using hb.symm
      subst this
      exact ⟨fun ht => Nat.lt_irrefl _ (D.tb _ ht).2, .inr h.mod.size, by rw [alloc_size]; omega, new_free D⟩)
  refine ⟨E.setHdr dst (.slice (some ⟨w.heap.size, 0, none⟩) n.toNat m.toNat), T, .slice (some ⟨w.heap.size, 0, none⟩) n.toNat m.toNat, w.alloc (.cells (madeCells z.cells (m.toNat * i.size)) et), .inl ?_, ?_⟩
  · simp only [execOp, ho]
    refine run_v ?_
    rw [hvx.int_inv, hvy.int_inv]
    exact hrun
  · rw [show hget ([(dst, Ent.sl et e (List.replicate n.toNat e.d))] ++ st.hp) = upd (hget st.hp) dst (.sl et e (List.replicate n.toNat e.d)) from hget_cons _ _ _]
    exact ⟨s2, D2, same, fun _ z => z, mod_alloc _ w _, hv⟩

end ops
end Go.Ra

namespace Go.Ra
set_option linter.unusedSectionVars false
variable [Known]

section ops
variable {P : Program} {S I : Nat → Prop} {w0 : World} {E : Env} {T : Nat → Prop} {st : St} {a : Act} {w : World} {o : Oper} {r : AV} {L : Lits}

theorem indexAt_run {t et : TypeId} {m : Nat} (hu : P.underlying t = some (.slice et)) (hs : szT P et = some m) (k : IntKind) (i : Int) (ad : Addr) (len cap : Nat) (h0 : 0 ≤ i) (h1 : i < len) (w : World) :
    (Instr.indexAt t (.slice (some ad) len cap) (.int k i)).run P w = .ok (.pointer (some (ad.add (i.toNat * m)))) w := by
  unfold Instr.indexAt
  simp [asIntOf, run_underlying hu, h0, h1, szT_run hs]

theorem rel_RV {hp : Nat → Option Ent} {e : EK} {x : e.T} {c : List Value} {ad : Addr} (ht : T ad.block) (hr : RC w T e x c) (hc : ∀ i u, c[i]? = some u → w.cell? (ad.add i) = some u) : RV E hp w T (.rel (e.cells x)) (.pointer (some ad)) := by
  have hcl := cells_RV (E := E) (hp := hp) hr
  refine RV.rel ht hcl.len hc (fun c hc => ?_) fun i c v h1 h2 => (allR_at hcl i c v h1 h2).1
  obtain ⟨i, hi⟩ := List.getElem?_of_mem hc
  obtain ⟨v, _, hv⟩ := hcl.at i _ hi
  exact hv.2

theorem getD_some {α : Type} {l : List α} {i : Int} {d : α} (h0 : 0 ≤ i) (h1 : i < l.length) : l[i.toNat]? = some (l.getD i.toNat d) := by
  have : i.toNat < l.length := by omega
  simp [List.getD_eq_getElem?_getD, List.getElem?_eq_getElem this]

theorem sl_elem {hp : Nat → Option Ent} {e : EK} {l : List e.T} {v : Value} (hr : RC w T (.sl e) l [v]) {i : Int} (h0 : 0 ≤ i) (h1 : i < l.length) :
    ∃ ad cap, v = .slice (some ad) l.length cap ∧ RV E hp w T (.rel (e.cells (l.getD i.toNat e.d))) (.pointer (some (ad.add (i.toNat * e.n)))) := by
  simp only [RC] at hr
  obtain ⟨x, cap, h2, h3, h4⟩ := hr
  injection h2 with h2
  obtain ⟨ad, rfl, ht, h5⟩ := h4 (by omega)
  obtain ⟨c, k1, k2⟩ := h5 _ _ (getD_some (d := e.d) h0 h1)
  refine ⟨ad, cap, h2, rel_RV (by rw [add_block]; exact ht) k1 fun q u hu => ?_⟩
  rw [add_add]
  exact k2 q u hu

theorem indexAddr_ok (h : Rel S I w0 E T st a w) (hL : ∀ q ∈ L, a.tmps.getD q.1 undef = .bool q.2) {look : Nat → Option Ent} {dst : Nat} (hk : LookOk st look dst) {t : TypeId} {x i : Operand} {cs : List Bool} {up : Heap} (ho : o.op = .indexAddr t x i)
    (hv : indexAddrA P look t (st.ev L x) (st.ev L i) = some (cs, r, up)) (hc : ∀ b ∈ cs, b = true) : OpOk P S I w0 E T st a w o r up := by
  unfold indexAddrA at hv
  split at hv
  · rename_i k n hi
    have hvi := ev_RV h hL i
    rw [hi] at hvi
    have hvx := ev_RV h hL x
    have hei := hvi.int_inv
    split at hv
    · rename_i e l hx
      rw [hx] at hvx
      cases hs : sizeOk P t e.n with
      | false => rw [hs] at hv; simp at hv
      | true =>
        rw [hs] at hv
        simp only [cond_true, Option.some.injEq, Prod.mk.injEq] at hv
        obtain ⟨rfl, rfl, rfl⟩ := hv
        obtain ⟨et, hu, hsz⟩ := sizeOk_ok hs
        have h0 : 0 ≤ n := by simpa using hc (decide (0 ≤ n)) (by simp)
        have h1 : n < l.length := by simpa using hc (decide (n < (l.length : Int))) (by simp)
        obtain ⟨_, _, _, _, hrc⟩ := hvx.sl_inv
        obtain ⟨ad, cap, k1, k2⟩ := sl_elem (E := E) (hp := hget st.hp) hrc h0 h1
        refine OpOk.pure h ?_ k2
        simp only [execOp, ho]
        refine run_v ?_
        rw [hei, k1]
        exact indexAt_run hu hsz k n ad _ cap h0 h1 w
    · rename_i d hx
      rw [hx] at hvx
      split at hv
      · rename_i t' e l hd
        have hdg := hk.get _ _ hd
        cases hs : sizeOk P t e.n with
        | false => rw [hs] at hv; simp at hv
        | true =>
          rw [hs] at hv
          simp only [cond_true, Option.some.injEq, Prod.mk.injEq] at hv
          obtain ⟨rfl, rfl, rfl⟩ := hv
          obtain ⟨et, hu, hsz⟩ := sizeOk_ok hs
          have h0 : 0 ≤ n := by simpa using hc (decide (0 ≤ n)) (by simp)
          have h1 : n < l.length := by simpa using hc (decide (n < (l.length : Int))) (by simp)
          generalize hux : a.eval x = u at hvx
          cases hvx with
          | own he hq =>
            have hh := hq _ _ hdg rfl
            obtain ⟨ad, m, cap, c, q1, q2, q3⟩ := ent_elem h.data hdg (.inl rfl) (getD_some (d := e.d) h0 h1)
            obtain ⟨_, cap', q4, _⟩ := hdr_slice h.data hdg (q := (e, l.length)) rfl
            rw [q1] at q4
            injection q4 with q5 q6 q7
            subst q6
            refine OpOk.pure h (v := .pointer (some (ad.add (n.toNat * e.n)))) ?_ (RV.elt he fun ent e' m' p1 p2 => ?_)
            · simp only [execOp, ho]
              refine run_v ?_
              rw [hei, hux, hh, q1]
              exact indexAt_run hu hsz k n ad _ cap h0 h1 w
            · rw [hdg] at p1
              injection p1 with p1
              subst p1
              simp only [Ent.slInfo, Option.some.injEq, Prod.mk.injEq] at p2
              obtain ⟨rfl, rfl⟩ := p2
              exact ⟨h0, h1, ad, _, cap, q1, rfl⟩
      · rename_i t' e l hd
        have hdg := hk.get _ _ hd
        cases hs : sizeOk P t e.n with
        | false => rw [hs] at hv; simp at hv
        | true =>
          rw [hs] at hv
          simp only [cond_true, Option.some.injEq, Prod.mk.injEq] at hv
          obtain ⟨rfl, rfl, rfl⟩ := hv
          obtain ⟨et, hu, hsz⟩ := sizeOk_ok hs
          have h0 : 0 ≤ n := by simpa using hc (decide (0 ≤ n)) (by simp)
          have h1 : n < l.length := by simpa using hc (decide (n < (l.length : Int))) (by simp)
          generalize hux : a.eval x = u at hvx
          cases hvx with
          | own he hq =>
            have hh := hq _ _ hdg rfl
            have hre : RC w T (.sl e) l [E.hdr d] := h.data.ent d _ hdg
            obtain ⟨ad, cap, k1, k2⟩ := sl_elem (E := E) (hp := hget st.hp) hre h0 h1
            refine OpOk.pure h ?_ k2
            simp only [execOp, ho]
            refine run_v ?_
            rw [hei, hux, hh, k1]
            exact indexAt_run hu hsz k n ad _ cap h0 h1 w
      · rename_i t' l hd
        have hdg := hk.get _ _ hd
        cases hs : sizeOk P t 1 with
        | false => rw [hs] at hv; simp at hv
        | true =>
          rw [hs] at hv
          simp only [cond_true, Option.some.injEq, Prod.mk.injEq] at hv
          obtain ⟨rfl, rfl, rfl⟩ := hv
          obtain ⟨et, hu, hsz⟩ := sizeOk_ok hs
          have h0 : 0 ≤ n := by simpa using hc (decide (0 ≤ n)) (by simp)
          have h1 : n < l.length := by simpa using hc (decide (n < (l.length : Int))) (by simp)
          generalize hux : a.eval x = u at hvx
          cases hvx with
          | own he hq =>
            have hh := hq _ _ hdg rfl
            obtain ⟨g, cap, cur, q1, _⟩ := h.data.ent d _ hdg
            refine OpOk.pure h (v := .pointer (some ((⟨g, 0, none⟩ : Addr).add (n.toNat * 1)))) ?_ (RV.elt he fun ent e' m' p1 p2 => ?_)
            · simp only [execOp, ho]
              refine run_v ?_
              rw [hei, hux, hh, q1]
              exact indexAt_run hu hsz k n _ _ cap h0 h1 w
            · rw [hdg] at p1
              injection p1 with p1
              subst p1
              simp only [Ent.slInfo, Option.some.injEq, Prod.mk.injEq] at p2
              obtain ⟨rfl, rfl⟩ := p2
              exact ⟨h0, h1, _, _, cap, q1, by simp [EK.n]⟩
      · simp at hv
    · simp at hv
  · simp at hv

theorem slOf_len (h : Rel S I w0 E T st a w) {look : Nat → Option Ent} {dst : Nat} (hk : LookOk st look dst) {v : AV} {u : Value} (hv : RV E (hget st.hp) w T v u) {s : SlV} (hs : slOf look v = some s) : ∃ x cap, u = .slice x s.l.length cap ∧ s.l.length ≤ cap := by
  unfold slOf at hs
  split at hs
  · injection hs with hs
    subst hs
    obtain ⟨x, cap, h1, h2, _⟩ := hv.sl_inv
    exact ⟨x, cap, h1, h2⟩
  · rename_i d
    split at hs
    · rename_i t e l hd
      injection hs with hs
      subst hs
      cases hv with
      | own he hq =>
        obtain ⟨x, cap, h1, h2⟩ := hdr_slice h.data (hk.get _ _ hd) (q := (e, l.length)) rfl
        exact ⟨x, cap, by rw [hq _ _ (hk.get _ _ hd) rfl, h1], h2⟩
    · rename_i t e l hd
      injection hs with hs
      subst hs
      cases hv with
      | own he hq =>
        obtain ⟨x, cap, h1, h2⟩ := hdr_slice h.data (hk.get _ _ hd) (q := (e, l.length)) rfl
        exact ⟨x, cap, by rw [hq _ _ (hk.get _ _ hd) rfl, h1], h2⟩
    · simp at hs
  · simp at hs

end ops
end Go.Ra

namespace Go.Ra
set_option linter.unusedSectionVars false
variable [Known]

section ops
variable {P : Program} {S I : Nat → Prop} {w0 : World} {E : Env} {T : Nat → Prop} {st : St} {a : Act} {w : World} {o : Oper} {r : AV} {L : Lits}

theorem exec_builtin {ρ : Operand → Value} {b : Builtin} {xs : Array Operand} {ts : Array TypeId} (ho : o.op = .call { callee := .builtin b, args := xs, argTypes := ts }) :
    ∃ cs, execOp ρ o = Go.builtin b ts o.type cs (xs.map ρ) := by
  refine ⟨xs.map (fun | .const _ => true | _ => false), ?_⟩
  simp [execOp, ho, resolve, invoke]
  rfl

theorem run_v2 {s : Sem Value} {v : Value} {w' : World} (h : s.run P w = .ok v w') : (do pure (.value (← s)) : Sem Next).run P w = .ok (.value v) w' := run_v h

theorem args1 {ρ : Operand → Value} {xs : Array Operand} {x : Operand} (h : xs.toList = [x]) : xs.map ρ = #[ρ x] := by
  have : xs = #[x] := Array.toList_inj.1 h
  subst this
  simp
theorem args2 {ρ : Operand → Value} {xs : Array Operand} {x y : Operand} (h : xs.toList = [x, y]) : xs.map ρ = #[ρ x, ρ y] := by
  have : xs = #[x, y] := Array.toList_inj.1 h
  subst this
  simp

theorem map_one {f : Operand → AV} {l : List Operand} {x : AV} (h : l.map f = [x]) : ∃ o, l = [o] ∧ f o = x := by
  cases l with
  | nil => simp at h
  | cons a l => cases l with
    | nil => exact ⟨a, rfl, by simpa using h⟩
    | cons b l => simp at h
theorem map_two {f : Operand → AV} {l : List Operand} {x y : AV} (h : l.map f = [x, y]) : ∃ o p, l = [o, p] ∧ f o = x ∧ f p = y := by
  cases l with
  | nil => simp at h
  | cons a l => cases l with
    | nil => simp at h
    | cons b l => cases l with
      | nil => exact ⟨a, b, rfl, by simpa using h⟩
      | cons c l => simp at h

theorem len_ok (h : Rel S I w0 E T st a w) (hL : ∀ q ∈ L, a.tmps.getD q.1 undef = .bool q.2) {look : Nat → Option Ent} {dst : Nat} (hk : LookOk st look dst) {xs : Array Operand} {ts : Array TypeId} {t : TypeId} {tr : List TypeId} {x : AV} (ho : o.op = .call { callee := .builtin .len, args := xs, argTypes := ts })
    (hts : ts.toList = t :: tr) (hxs : xs.toList.map (st.ev L) = [x]) (hv : lenA P look t x = some r) : OpOk P S I w0 E T st a w o r [] := by
  obtain ⟨y, hy, hyx⟩ := map_one hxs
  have hrv := ev_RV h hL y
  rw [hyx] at hrv
  have ht0 : ts[0]? = some t := by
    have : ts.toList[0]? = some t := by rw [hts]; rfl
    simpa using this
  have hv' : ∃ n : Nat, r = vI .i64 n ∧ (Builtin.len_ ts o.type #[a.eval y]).run P w = .ok (goInt n) w := by
    unfold lenA at hv
    split at hv
    · rename_i s hu
      injection hv with hv
      subst hv
      refine ⟨s.size, rfl, ?_⟩
      rw [hrv.str_inv]
      simp [Builtin.len_, ht0, run_underlying hu]
    · rename_i e hu
      injection hv with hv
      subst hv
      refine ⟨0, rfl, ?_⟩
      generalize a.eval y = u at hrv
      cases hrv
      simp [Builtin.len_, ht0, run_underlying hu]
    · rename_i hu _
      split at hv
      · rename_i s hs
        injection hv with hv
        subst hv
        refine ⟨s.l.length, rfl, ?_⟩
        obtain ⟨q, cap, h1, _⟩ := slOf_len h hk hrv hs
        rw [h1]
        simp [Builtin.len_, ht0, run_underlying hu]
      · simp at hv
    · simp at hv
  obtain ⟨n, rfl, hrun⟩ := hv'
  refine OpOk.pure h (v := goInt n) ?_ (RV_int _ _)
  obtain ⟨cs, hcs⟩ := exec_builtin (ρ := a.eval) ho
  rw [hcs, args1 hy]
  exact run_v hrun

theorem foldI_ok {b : Bool} {k : IntKind} : ∀ {xs : List AV} {us : List Value} {m n : Int}, AllR (fun c v => RV E (hget st.hp) w T c v) xs us → foldI (if b then maxI else minI) k m xs = some n →
    (us.foldlM (if b then Builtin.max2 else Builtin.min2) (.int k m)).run P w = .ok (.int k n) w
  | [], [], m, n, _, hf => by
    simp only [foldI, Option.some.injEq] at hf
    subst hf
    rfl
  | x :: xs, u :: us, m, n, hr, hf => by
    unfold foldI at hf
    split at hf
    · rename_i hnil; simp at hnil
    · rename_i k' c rest hc
      injection hc with hc1 hc2
      subst hc1
      subst hc2
      split at hf
      · rename_i hk
        subst hk
        have := hr.1.int_inv
        subst this
        rw [List.foldlM_cons]
        have ih := foldI_ok (b := b) hr.2 hf
        cases b with
        | true => simpa [Builtin.max2, maxI] using ih
        | false => simpa [Builtin.min2, minI] using ih
      · simp at hf
    · simp at hf
  | [], _ :: _, _, _, hr, _ => hr.elim
  | _ :: _, [], _, _, hr, _ => hr.elim

theorem evs_RV (h : Rel S I w0 E T st a w) (hL : ∀ q ∈ L, a.tmps.getD q.1 undef = .bool q.2) : ∀ xs : List Operand, AllR (fun c v => RV E (hget st.hp) w T c v) (xs.map (st.ev L)) (xs.map a.eval)
  | [] => trivial
  | x :: xs => ⟨ev_RV h hL x, evs_RV h hL xs⟩

theorem max_ok (h : Rel S I w0 E T st a w) (hL : ∀ q ∈ L, a.tmps.getD q.1 undef = .bool q.2) {b : Bool} {xs : Array Operand} {ts : Array TypeId} {k : IntKind} {m n : Int} {rest : List AV} (ho : o.op = .call { callee := .builtin (if b then .max else .min), args := xs, argTypes := ts })
    (hxs : xs.toList.map (st.ev L) = .val (.int k) m :: rest) (hv : foldI (if b then maxI else minI) k m rest = some n) : OpOk P S I w0 E T st a w o (vI k n) [] := by
  have hall := evs_RV h hL xs.toList
  rw [hxs] at hall
  have hev : (xs.map a.eval).toList = xs.toList.map a.eval := by simp
  generalize hus : xs.toList.map a.eval = us at hall hev
  cases us with
  | nil => exact hall.elim
  | cons u us =>
    have hu := hall.1.int_inv
    subst hu
    have hrun := foldI_ok (P := P) (b := b) hall.2 hv
    refine OpOk.pure h (v := .int k n) ?_ (RV_int _ _)
    obtain ⟨cs, hcs⟩ := exec_builtin (ρ := a.eval) ho
    rw [hcs]
    cases b with
    | true =>
      refine run_v ?_
      unfold Builtin.max_
      rw [hev]
      exact hrun
    | false =>
      refine run_v ?_
      unfold Builtin.min_
      rw [hev]
      exact hrun

theorem append_none (base : Nat) (t ty e : TypeId) (i : TypeInfo) (size : Nat) (ht : P.underlying t = some (.slice e)) (hi : P.info? e = some i)
    (v : Value) (n : Nat) (xs : List Value) (hown : w.ownsRow base e size v n xs) (c : Nat) :
    (Builtin.append_ #[t, t] ty #[v, .slice none 0 c]).run P w = .ok v w := by
  rcases hown.2 with ⟨rfl, rfl⟩ | ⟨g, cap, cur, rfl, _, _, hnc, _⟩
  · simp [Builtin.append_, run_underlying ht, sizeOf, typeInfo, hi, Builtin.lenOf, Builtin.firstCells]
  · simp [Builtin.append_, run_underlying ht, sizeOf, typeInfo, hi, Builtin.lenOf, Builtin.firstCells, hnc, storeCells]

theorem frz_rows {e : EK} {l : List e.T} {v : Value} (hr : RC w T (.sl e) l [v]) : ∃ x cap, v = .slice x l.length cap ∧ (0 < l.length → ∃ ad, x = some ad ∧ ∃ rows, AllR (fun x r => RC w T e x r) l rows ∧ ∀ j u, rows.flatten[j]? = some u → w.cell? (ad.add j) = some u) := by
  simp only [RC] at hr
  obtain ⟨x, cap, h2, h3, h4⟩ := hr
  injection h2 with h2
  refine ⟨x, cap, h2, fun hp => ?_⟩
  obtain ⟨ad, rfl, ht, h5⟩ := h4 hp
  refine ⟨ad, rfl, ?_⟩
  -- choose the rows
  have key : ∀ m, m ≤ l.length → ∃ rows, AllR (fun x r => RC w T e x r) (l.take m) rows ∧ ∀ j u, rows.flatten[j]? = some u → w.cell? (ad.add j) = some u := by
    intro m
    induction m with
    | zero => intro _; exact ⟨[], trivial, by simp⟩
    | succ m ih =>
      intro hm
      obtain ⟨rows, q1, q2⟩ := ih (by omega)
      have hlt : m < l.length := by omega
      obtain ⟨c, k1, k2⟩ := h5 m l[m] (List.getElem?_eq_getElem hlt)
      refine ⟨rows ++ [c], ?_, fun j u hj => ?_⟩
      · rw [List.take_succ_eq_append_getElem hlt]
        exact AllR.append q1 ⟨k1, trivial⟩
      · have hlen : rows.flatten.length = m * e.n := by
          rw [flatten_len (rows_len q1), ← q1.len, List.length_take, Nat.min_eq_left (by omega)]
        simp only [List.flatten_append, List.flatten_cons, List.flatten_nil, List.append_nil] at hj
        by_cases hjl : j < rows.flatten.length
        · rw [List.getElem?_append_left hjl] at hj
          exact q2 j u hj
        · rw [List.getElem?_append_right (by omega)] at hj
          have := k2 _ u hj
          rw [hlen] at this
          rw [show m * e.n + (j - m * e.n) = j by rw [hlen] at hjl; omega] at this
          exact this
  obtain ⟨rows, q1, q2⟩ := key l.length (Nat.le_refl _)
  rw [List.take_length] at q1
  exact ⟨rows, q1, q2⟩

theorem tail_ok (h : Rel S I w0 E T st a w) {look : Nat → Option Ent} {dst : Nat} (hk : LookOk st look dst) {e : EK} {x : AV} {u : Value} {l : List e.T} (hv : RV E (hget st.hp) w T x u) (ht : tailA look e x = some l) :
    ∃ q cap, u = .slice q l.length cap ∧ (0 < l.length → ∃ ad, q = some ad ∧ ∃ rows, AllR (fun x r => RC w T e x r) l rows ∧ ∀ j u, rows.flatten[j]? = some u → w.cell? (ad.add j) = some u) := by
  unfold tailA at ht
  split at ht
  · injection ht with ht
    subst ht
    cases hv
    exact ⟨none, 0, rfl, fun hp => by simp at hp⟩
  · rename_i hnn
    cases x with
    | val e' x' =>
      simp only [AV.toT] at ht
      split at ht
      · rename_i he
        subst he
        injection ht with ht
        subst ht
        cases hv with
        | val hr => exact frz_rows hr
      · simp at ht
    | nil => exact absurd rfl hnn
    | own d =>
      simp only [AV.toT] at ht
      split at ht
      · rename_i t e1 l1 hd
        split at ht
        · rename_i he
          subst he
          injection ht with ht
          subst ht
          have hdg := hk.get _ _ hd
          cases hv with
          | own he hq =>
            have hh := hq _ _ hdg rfl
            obtain ⟨rows, h1, h2⟩ := h.data.ent d _ hdg
            rw [hh]
            show ∃ q cap, E.hdr d = .slice q l1.length cap ∧ (0 < l1.length → ∃ ad, q = some ad ∧ ∃ rows, AllR (fun x r => RC w T e1 x r) l1 rows ∧ ∀ j u, rows.flatten[j]? = some u → w.cell? (ad.add j) = some u)
            rcases h2.2 with ⟨h3, h4⟩ | ⟨g, cap, cur, h3, _⟩
            · exact ⟨none, 0, by rw [h3, h4], fun hp => by omega⟩
            · refine ⟨_, cap, h3, fun _ => ⟨_, rfl, rows, h1, ?_⟩⟩
              exact h2.cells (by rw [h3]; rfl)
        · simp at ht
      · rename_i t e1 l1 hd
        split at ht
        · rename_i he
          subst he
          injection ht with ht
          subst ht
          have hdg := hk.get _ _ hd
          cases hv with
          | own he hq =>
            have hh := hq _ _ hdg rfl
            rw [hh]
            exact frz_rows (h.data.ent d _ hdg)
        · simp at ht
      · simp at ht
    | agg cs => simp [AV.toT] at ht
    | tup cs => simp [AV.toT] at ht
    | ptr d o => simp [AV.toT] at ht
    | elt d i o => simp [AV.toT] at ht
    | rel cs => simp [AV.toT] at ht
    | fn f cs => simp [AV.toT] at ht
    | mth f cs => simp [AV.toT] at ht
    | gd L v => simp [AV.toT] at ht
    | unk c b => simp [AV.toT] at ht
    | junk => simp [AV.toT] at ht

theorem kill_free (D : RelD w0.heap.size S I E T (hget st.hp) w) {d : Nat} {ent : Ent} (hd : hget st.hp d = some ent) {b : Nat} (hb : obk E d ent b) : ∀ d' ent', upd (hget st.hp) d .dead d' = some ent' → ¬ obk E d' ent' b := by
  intro d' ent' hd' hb'
  by_cases he : d' = d
  · subst he
    rw [upd_at] at hd'
    injection hd' with hd'
    subst hd'
    simp [obk] at hb'
  · rw [upd_ne he] at hd'
    exact he (D.inj d' d ent' ent b hd' hd hb' hb)

theorem appendRow (h : Rel S I w0 E T st a w) {look : Nat → Option Ent} {dst : Nat} (hk : LookOk st look dst) {t et ty : TypeId} {e : EK} {by_ : Nat} {x : AV} {v u : Value} {l l2 : List e.T} {rows : List (List Value)} (hr : rowT P t = some (et, e, by_))
    (hrows : AllR (fun x r => RC w T e x r) l rows) (hown : w.ownsRow 0 et e.n v l.length rows.flatten) (hv : RV E (hget st.hp) w T x u) (ht : tailA look e x = some l2) (hc : l.length + l2.length < 140737488355328 / by_) :
    ∃ v' w' rows', (Builtin.append_ #[t, t] ty #[v, u]).run P w = .ok v' w' ∧ AllR (fun x r => RC w T e x r) (l ++ l2) rows' ∧ w'.ownsRow 0 et e.n v' (l ++ l2).length rows'.flatten ∧ w.grownBy w' v.ownBlock ∧ (v'.ownBlock = v.ownBlock ∨ v'.ownBlock = some w.heap.size ∧ w.heap.size < w'.heap.size) := by
  obtain ⟨hu, i, z, hi, hz, hzz, hsz, hby, hb1, hn1⟩ := rowT_ok hr
  obtain ⟨zs, _⟩ := isZ_len hzz
  obtain ⟨q, cap, rfl, hq⟩ := tail_ok h hk hv ht
  have hmb : (l.length + l2.length) * by_ ≤ 140737488355328 := by
    have := Nat.mul_le_mul_right by_ (Nat.le_of_lt hc)
    exact Nat.le_trans this (Nat.div_mul_le_self _ _)
  have hm : l.length + l2.length ≤ maxLen := by
    have := Nat.le_trans (Nat.le_mul_of_pos_right (l.length + l2.length) hb1) hmb
    simp only [maxLen]
    omega
  have nothing : l2.length = 0 → rows.flatten ++ [] = rows.flatten ∧ l ++ l2 = l := fun h0 => by
    have : l2 = [] := List.eq_nil_of_length_eq_zero h0
    simp [this]
  have old : ∀ c, l2.length = 0 → ∃ v' w' rows', (Builtin.append_ #[t, t] ty #[v, .slice none 0 c]).run P w = .ok v' w' ∧ AllR (fun x r => RC w T e x r) (l ++ l2) rows' ∧ w'.ownsRow 0 et e.n v' (l ++ l2).length rows'.flatten ∧ w.grownBy w' v.ownBlock ∧ (v'.ownBlock = v.ownBlock ∨ v'.ownBlock = some w.heap.size ∧ w.heap.size < w'.heap.size) := by
    intro c h0
    refine ⟨v, w, rows, append_none 0 t ty et i e.n hu hi v l.length _ hown c, by rw [(nothing h0).2]; exact hrows, by rw [(nothing h0).2]; exact hown, ⟨rfl, rfl, rfl, Nat.le_refl _, fun _ _ _ => rfl⟩, .inl rfl⟩
  have main : ∀ ad news, AllR (fun x r => RC w T e x r) l2 news → (∀ j u, news.flatten[j]? = some u → w.cell? (ad.add j) = some u) → ∃ v' w' rows', (Builtin.append_ #[t, t] ty #[v, .slice (some ad) l2.length cap]).run P w = .ok v' w' ∧ AllR (fun x r => RC w T e x r) (l ++ l2) rows' ∧ w'.ownsRow 0 et e.n v' (l ++ l2).length rows'.flatten ∧ w.grownBy w' v.ownBlock ∧ (v'.ownBlock = v.ownBlock ∨ v'.ownBlock = some w.heap.size ∧ w.heap.size < w'.heap.size) := by
    intro ad news k1 k2
    obtain ⟨v', w', hrun, h1, h2, _, h4⟩ := run_append_own_at (P := P) w 0 t ty et i z e.n by_ hu hi hz hsz hby zs hn1 v l.length rows.flatten hown ad l2.length cap news.flatten (by rw [flatten_len (rows_len k1), k1.len]) k2 (fun u hu => by
      obtain ⟨row, hrow, hu'⟩ := List.mem_flatten.1 hu
      obtain ⟨j, hj⟩ := List.getElem?_of_mem hrow
      have hjl : j < l2.length := by rw [k1.len]; exact (List.getElem?_eq_some_iff.1 hj).1
      exact RC.one (allR_at k1 j l2[j] row (List.getElem?_eq_getElem hjl) hj) u hu') hm hmb (Nat.zero_le _)
    refine ⟨v', w', rows ++ news, hrun, AllR.append hrows k1, by rw [List.length_append, List.flatten_append]; exact h1, h2, ?_⟩
    by_cases he : v'.ownBlock = v.ownBlock
    · exact .inl he
    · rcases h4 with h4 | h4
      · exact absurd h4 he
      · exact .inr ⟨h4, (h1.lt _ h4).2⟩
  by_cases h0 : l2.length = 0
  · cases q with
    | none => rw [h0]; exact old cap h0
    | some ad =>
      have hl : l2 = [] := List.eq_nil_of_length_eq_zero h0
      exact main ad [] (by rw [hl]; trivial) (by simp)
  · obtain ⟨ad, rfl, rows2, k1, k2⟩ := hq (by omega)
    exact main ad rows2 k1 k2

theorem append_ok (h : Rel S I w0 E T st a w) (hL : ∀ q ∈ L, a.tmps.getD q.1 undef = .bool q.2) {look : Nat → Option Ent} {dst : Nat} (hk : LookOk st look dst) {xs : Array Operand} {ts : Array TypeId} {t : TypeId} {s x : AV} {cs : List Bool} {up : Heap} (ho : o.op = .call { callee := .builtin .append, args := xs, argTypes := ts })
    (hts : ts.toList = [t, t]) (hxs : xs.toList.map (st.ev L) = [s, x]) (hv : appendA P look dst t s x = some (cs, r, up)) (hc : ∀ b ∈ cs, b = true) : OpOk P S I w0 E T st a w o r up := by
  obtain ⟨y1, y2, hy, hy1, hy2⟩ := map_two hxs
  have hts' : ts = #[t, t] := Array.toList_inj.1 hts
  subst hts'
  have hr1 := ev_RV h hL y1
  rw [hy1] at hr1
  have hr2 := ev_RV h hL y2
  rw [hy2] at hr2
  obtain ⟨consts, hex⟩ := exec_builtin (ρ := a.eval) ho
  rw [args2 hy] at hex
  have D := h.data
  unfold appendA at hv
  split at hv
  · rename_i et e by_ hrow hnew
    split at hv
    · simp at hv
    · rename_i l2 ht
      have hnew' := hk.new hnew
      split at hv
      · -- onto nothing
        simp only [Option.some.injEq, Prod.mk.injEq] at hv
        obtain ⟨rfl, rfl, rfl⟩ := hv
        have hb : ([] : List e.T).length + l2.length < 140737488355328 / by_ := by simpa using hc
        generalize hv1 : a.eval y1 = v at hr1
        cases hr1
        obtain ⟨v', w', rows', hrun, q1, q2, q3, q4⟩ := appendRow (P := P) (ty := o.type) (v := .slice none 0 0) (l := []) (rows := []) h hk hrow trivial (World.ownsRow_nil w 0 et e.n) hr2 ht hb
        simp only [List.nil_append] at q1 q2
        have hM : Mod (fun _ => False) w w' := ⟨q3.os, q3.tape, q3.output, q3.size, fun k hk _ => q3.block k hk (by simp [Value.ownBlock])⟩
        have same : ∀ b, T b → w'.heap[b]? = w.heap[b]? := fun b hb => hM.block b (D.tb b hb).2 (fun z => z)
        obtain ⟨D2, s2, hv⟩ := (D.grow hM).addSl hnew' (q1.mono fun _ _ z => RC.mono same (fun _ z => z) z) q2 (fun b hb => by
          rcases q4 with q4 | ⟨q4, q5⟩
          · rw [q4] at hb
            simp [Value.ownBlock] at hb
          · rw [q4] at hb
            injection hb with hb
            subst hb
            exact ⟨fun ht => Nat.lt_irrefl _ (D.tb _ ht).2, .inr h.mod.size, q5, new_free D⟩)
        refine ⟨E.setHdr dst v', T, v', w', .inl ?_, ?_⟩
        · rw [hex, hv1]
          exact run_v hrun
        · rw [show hget ([(dst, Ent.sl et e l2)] ++ st.hp) = upd (hget st.hp) dst (.sl et e l2) from hget_cons _ _ _]
          exact ⟨s2, D2, same, fun _ z => z, hM.weaken fun _ _ z => z.elim, hv⟩
      · -- onto an own slice
        rename_i d
        split at hv
        · rename_i et' e' l hd
          split at hv
          · rename_i he
            have he' : e' = e := by injection he
            subst he'
            cases hbeq : Nat.beq et' et with
            | false => rw [hbeq] at hv; simp at hv
            | true =>
              have := Nat.eq_of_beq_eq_true hbeq
              subst this
              rw [hbeq] at hv
              simp only [cond_true, Option.some.injEq, Prod.mk.injEq] at hv
              obtain ⟨rfl, rfl, rfl⟩ := hv
              have hdg := hk.get _ _ hd
              have hb : l.length + l2.length < 140737488355328 / by_ := by simpa using hc
              obtain ⟨rows, h1, h2⟩ := D.ent d _ hdg
              have hv1 : a.eval y1 = E.hdr d := by
                generalize a.eval y1 = v at hr1
                cases hr1 with
                | own he hq => exact hq _ _ hdg rfl
              obtain ⟨v', w', rows', hrun, q1, q2, q3, q4⟩ := appendRow (P := P) (ty := o.type) h hk hrow h1 h2 hr2 ht hb
              have hM : Mod (fun k => obk E d (.sl et' e' l) k) w w' := ⟨q3.os, q3.tape, q3.output, q3.size, fun k hk hn => q3.block k hk (fun z => hn z.symm)⟩
              have same : ∀ b, T b → w'.heap[b]? = w.heap[b]? := fun b hb => hM.block b (D.tb b hb).2 fun hk => (D.own d _ b hdg hk).1 hb
              obtain ⟨D1, s1⟩ := D.kill hdg
              have D1' := D1.world hM (fun d' ent' b hd' hb' hm => kill_free D hdg hm d' ent' hd' hb') (fun b hb hm => (D.own d _ b hdg hm).1 hb)
              have hne : dst ≠ d := by rintro rfl; rw [hdg] at hnew'; simp at hnew'
              obtain ⟨D2, s2, hv⟩ := D1'.addSl (dst := dst) (by rw [upd_ne hne]; exact hnew') (q1.mono fun _ _ z => RC.mono same (fun _ z => z) z) q2 (fun b hb => by
                rcases q4 with q4 | ⟨q4, q5⟩
                · rw [q4] at hb
                  obtain ⟨k1, k2, k3⟩ := D.own d _ b hdg hb
                  exact ⟨k1, k2, Nat.lt_of_lt_of_le k3 hM.size, kill_free D hdg hb⟩
                · rw [q4] at hb
                  injection hb with hb
                  subst hb
                  exact ⟨fun ht => Nat.lt_irrefl _ (D.tb _ ht).2, .inr h.mod.size, q5, new_free D1⟩)
              refine ⟨E.setHdr dst v', T, v', w', .inl ?_, ?_⟩
              · rw [hex, hv1]
                exact run_v hrun
              · have e1 : hget ([(dst, Ent.sl et' e' ((castT he l : List e'.T) ++ l2)), (d, .dead)] ++ st.hp) = upd (upd (hget st.hp) d .dead) dst (.sl et' e' (l ++ l2)) := by
                  show hget ((dst, Ent.sl et' e' (l ++ l2)) :: (d, .dead) :: st.hp) = _
                  rw [hget_cons, hget_cons]
                rw [e1]
                exact ⟨s1.trans s2, D2, same, fun _ z => z, mod_own h hdg hM, hv⟩
          · simp at hv
        · simp at hv
      · simp at hv
  · simp at hv

end ops
end Go.Ra

namespace Go.Ra
set_option linter.unusedSectionVars false
variable [Known]

theorem fill_dense {n : Nat} : ∀ (us : List (Nat × Value)) (j : Nat) (vs : Array Value), (∀ p ∈ us, p.2.cells.size = n) → inOrder j (us.map (·.1)) = true → vs.size = (j + us.length) * n →
    Instr.fill (fun i => some (i * n, n)) vs us = some (vs.toList.take (j * n) ++ (us.map fun p => p.2.cells.toList).flatten).toArray
  | [], j, vs, _, _, hs => by
    have : vs.toList.take (j * n) = vs.toList := List.take_of_length_le (by simp at hs ⊢; omega)
    simp [Instr.fill, this]
  | (i, u) :: us, j, vs, hn, ho, hs => by
    simp only [List.map_cons, inOrder, Bool.and_eq_true] at ho
    have hij : j = i := Nat.eq_of_beq_eq_true ho.1
    subst hij
    have hu : u.cells.size = n := hn (j, u) (by simp)
    have hfit : j * n + n ≤ vs.size := by
      rw [hs, ← Nat.succ_mul]
      exact Nat.mul_le_mul_right _ (by simp)
    have hsz : ¬ ((decide (u.cells.size ≠ n) || decide (j * n + u.cells.size > vs.size)) = true) := by simp; omega
    unfold Instr.fill
    simp only
    rw [if_neg hsz, fill_cells u.cells vs (j * n) (by omega)]
    have hl : u.cells.toList.length = n := by simpa using hu
    have hvl : vs.toList.length = vs.size := by simp
    have ih := fill_dense us (j + 1) (vs.toList.take (j * n) ++ u.cells.toList ++ vs.toList.drop (j * n + u.cells.toList.length)).toArray (fun p hp => hn p (by simp [hp])) ho.2 (by
      simp only [List.size_toArray, List.length_append, List.length_take, List.length_drop, hl, hvl]
      simp only [List.length_cons] at hs
      rw [show j + 1 + us.length = j + (us.length + 1) by omega, ← hs]
      omega)
    rw [ih]
    congr 1
    simp only [List.map_cons, List.flatten_cons]
    congr 1
    rw [← List.append_assoc]
    congr 1
    rw [Nat.succ_mul, List.take_append_of_le_length (by simp only [List.length_append, List.length_take, hl, hvl]; omega)]
    rw [List.take_of_length_le (by simp only [List.length_append, List.length_take, hl, hvl]; omega)]

theorem mapO_ok {α β : Type} {f : α → Option β} : ∀ {xs : List α} {ys : List β}, mapO f xs = some ys → AllR (fun x y => f x = some y) xs ys
  | [], ys, h => by simp only [mapO, Option.some.injEq] at h; subst h; trivial
  | x :: xs, ys, h => by
    simp only [mapO] at h
    split at h
    · rename_i y s h1 h2
      injection h with h
      subst h
      exact ⟨h1, mapO_ok h2⟩
    · simp at h

section ops
variable {P : Program} {S I : Nat → Prop} {w0 : World} {E : Env} {T : Nat → Prop} {st : St} {a : Act} {w : World} {o : Oper} {r : AV} {L : Lits}

theorem toTT_all {look : Nat → Option Ent} {e : EK} {v : AV} {x : e.T} (h : v.toTT look e = some x) : v.cells.all (cellOk look) = true := by
  unfold AV.toTT at h
  cases hb : v.cells.all (cellOk look) with
  | false => rw [hb] at h; simp at h
  | true => rfl

theorem buildSlice_ok (h : Rel S I w0 E T st a w) (hL : ∀ q ∈ L, a.tmps.getD q.1 undef = .bool q.2) {look : Nat → Option Ent} {dst : Nat} (hk : LookOk st look dst) {t : TypeId} {len : Nat} {parts : Array (Nat × Operand)} {cs : List Bool} {up : Heap} (ho : o.op = .buildSlice t len parts)
    (hv : buildSliceA P look dst t len (parts.toList.map fun p => (p.1, st.ev L p.2)) = some (cs, r, up)) : OpOk P S I w0 E T st a w o r up := by
  unfold buildSliceA at hv
  split at hv
  · rename_i et e by_ hrow hnew
    split at hv
    · rename_i l hl
      cases hb : (inOrder 0 ((parts.toList.map fun p => (p.1, st.ev L p.2)).map (·.1)) && Nat.beq (parts.toList.map fun p => (p.1, st.ev L p.2)).length len && Nat.ble (len * e.n) 16777216) with
      | false => rw [hb] at hv; simp at hv
      | true =>
        rw [hb] at hv
        simp only [cond_true, Option.some.injEq, Prod.mk.injEq] at hv
        obtain ⟨rfl, rfl, rfl⟩ := hv
        simp only [Bool.and_eq_true] at hb
        obtain ⟨⟨b1, b2⟩, b3⟩ := hb
        have e2 := Nat.eq_of_beq_eq_true b2
        have e3 := Nat.le_of_ble_eq_true b3
        obtain ⟨hu, i, z, hi, hz, hzz, hsz, hby, hb1, hn1⟩ := rowT_ok hrow
        have hpr := parts_RV h hL parts.toList
        generalize hps : (parts.toList.map fun p => (p.1, st.ev L p.2)) = ps at *
        generalize hus : (parts.toList.map fun p => (p.1, a.eval p.2)) = us at hpr
        have D := h.data
        obtain ⟨T1, t1, D1, s1, t2, t3, t4, t5, t6⟩ := frzs_ok (ids := ps.flatMap fun p => p.2.owns) D hk.get
        have hnone : hget (frzs look (ps.flatMap fun p => p.2.owns) ++ st.hp) dst = none := by
          rw [t6 dst (fun t e l => by rw [hnew]; simp)]
          exact hk.new hnew
        have hmo := mapO_ok hl
        -- the rows
        have hrows : AllR (fun x r => RC w T1 e x r) l (us.map fun p => p.2.cells.toList) := by
          refine AllR.of_at (by rw [List.length_map, ← hpr.len, hmo.len]) fun j x row hx hrw => ?_
          have hj : j < ps.length := by rw [hmo.len]; exact (List.getElem?_eq_some_iff.1 hx).1
          have hp := allR_at hmo j ps[j] x (List.getElem?_eq_getElem hj) hx
          simp only [List.getElem?_map, Option.map_eq_some_iff] at hrw
          obtain ⟨u, hu', rfl⟩ := hrw
          have hru := (allR_at hpr j ps[j] u (List.getElem?_eq_getElem hj) hu').2
          have hci := (cells_inv h hk hru (toTT_all hp)).1.mono (R' := fun c v => RV E (hget st.hp) w T c v) fun _ _ z => z.1
          refine toTT_ok D hk.get t1 hci (fun d hd t e l b hkd hbb => ?_) hp
          exact t3 d (List.mem_flatMap.2 ⟨ps[j], List.getElem_mem hj, by rw [owns_cells]; exact hd⟩) t e l b hkd hbb
        have hlen : l.length = len := by rw [← hmo.len, e2]
        have huslen : us.length = len := by rw [← hpr.len, e2]
        have hcn : ∀ p ∈ us, p.2.cells.size = e.n := fun p hp => by
          have := rows_len hrows p.2.cells.toList (List.mem_map.2 ⟨p, hp, rfl⟩)
          simpa using this
        have hfst : us.map (·.1) = ps.map (·.1) := by
          rw [← hus, ← hps]
          simp
        have hfill := fill_dense us 0 ((Array.range (len * e.n)).map ((if len * e.n = 0 then #[] else z.cells)[· % (if len * e.n = 0 then #[] else z.cells).size]!)) hcn (by rw [hfst]; exact b1) (by simp [huslen])
        simp only [Nat.zero_mul, List.take_zero, List.nil_append] at hfill
        have hrun : (Instr.buildSlice t len (parts.map fun p => (p.1, a.eval p.2))).run P w = .ok (.slice (some ⟨w.heap.size, 0, none⟩) len len) (w.alloc (.cells (us.map fun p => p.2.cells.toList).flatten.toArray et)) := by
          have hpl : (parts.map fun p => (p.1, a.eval p.2)).toList = us := by rw [← hus]; simp
          unfold Instr.buildSlice
          rw [Sem.run_bind, run_underlying hu w]
          simp only [Result.andThen_ok]
          rw [Sem.run_bind]
          have hso : (sizeOf et).run P w = .ok e.n w := by simp [sizeOf, typeInfo, program, hi, Sem.run, hsz]
          rw [hso]
          simp only [Result.andThen_ok]
          rw [if_neg (by omega), hpl]
          by_cases h0 : len * e.n = 0
          · rw [if_pos h0] at hfill
            rw [if_pos h0]
            simp only [Sem.run_bind, Sem.run_pure, Result.andThen_ok]
            rw [hfill]
            simp [newRow]
          · rw [if_neg h0] at hfill
            rw [if_neg h0]
            simp only [Sem.run_bind, Sem.run_pure, Result.andThen_ok, zero_run hi hz w]
            rw [hfill]
            simp [newRow]
        have hM := mod_alloc (fun _ => False) w (.cells (us.map fun p => p.2.cells.toList).flatten.toArray et)
        have same1 : ∀ b, T1 b → (w.alloc (.cells (us.map fun p => p.2.cells.toList).flatten.toArray et)).heap[b]? = w.heap[b]? := fun b hb => hM.block b (D1.tb b hb).2 (fun z => z)
        obtain ⟨D2, s2, hv⟩ := (D1.grow hM).addSl (v := .slice (some ⟨w.heap.size, 0, none⟩) len len) (t := et) hnone (hrows.mono fun _ _ z => RC.mono same1 (fun _ z => z) z) (by
            have hml : l.length ≤ maxLen := by
              simp only [maxLen]
              have := Nat.le_mul_of_pos_right len hn1
              omega
            have := World.ownsRow_lit (base := 0) (e := et) (size := e.n) w (us.map fun p => p.2.cells.toList).flatten.toArray l.length (Nat.zero_le _) hml (by
              rw [List.size_toArray, flatten_len (rows_len hrows), List.length_map, huslen, hlen])
            rw [hlen] at this ⊢
            exact this)
          (fun b hb => by
            have : b = w.heap.size := by simpa [Value.ownBlock] using hb.symm
            subst this
            exact ⟨fun ht => Nat.lt_irrefl _ (D1.tb _ ht).2, .inr h.mod.size, by rw [alloc_size]; omega, new_free D1⟩)
        refine ⟨E.setHdr dst (.slice (some ⟨w.heap.size, 0, none⟩) len len), T1, .slice (some ⟨w.heap.size, 0, none⟩) len len, w.alloc (.cells (us.map fun p => p.2.cells.toList).flatten.toArray et), .inl ?_, ?_⟩
        · simp only [execOp, ho]
          exact run_v hrun
        · rw [List.cons_append, hget_cons]
          exact ⟨s1.trans s2, D2, fun b hb => same1 b (t1 b hb), t1, mod_alloc _ w _, hv⟩
    · simp at hv
  · simp at hv

theorem buildSliceF_ok (h : Rel S I w0 E T st a w) (hL : ∀ q ∈ L, a.tmps.getD q.1 undef = .bool q.2) {look : Nat → Option Ent} {dst : Nat} (hk : LookOk st look dst) {t : TypeId} {len : Nat} {parts : Array (Nat × Operand)} {cs : List Bool} {up : Heap} (ho : o.op = .buildSlice t len parts)
    (hv : buildSliceF P look t len (parts.toList.map fun p => (p.1, st.ev L p.2)) = some (cs, r, up)) : OpOk P S I w0 E T st a w o r up := by
  unfold buildSliceF at hv
  split at hv
  · rename_i et e by_ hrow
    split at hv
    · rename_i l hl
      cases hb : (inOrder 0 ((parts.toList.map fun p => (p.1, st.ev L p.2)).map (·.1)) && Nat.beq (parts.toList.map fun p => (p.1, st.ev L p.2)).length len && Nat.ble (len * e.n) 16777216 && (parts.toList.map fun p => (p.1, st.ev L p.2)).all fun p => nilN p.2.owns) with
      | false => rw [hb] at hv; simp at hv
      | true =>
        rw [hb] at hv
        simp only [cond_true, Option.some.injEq, Prod.mk.injEq] at hv
        obtain ⟨rfl, rfl, rfl⟩ := hv
        simp only [Bool.and_eq_true] at hb
        obtain ⟨⟨⟨b1, b2⟩, b3⟩, b4⟩ := hb
        have e2 := Nat.eq_of_beq_eq_true b2
        have e3 := Nat.le_of_ble_eq_true b3
        obtain ⟨hu, i, z, hi, hz, hzz, hsz, hby, hb1, hn1⟩ := rowT_ok hrow
        have hpr := parts_RV h hL parts.toList
        generalize hps : (parts.toList.map fun p => (p.1, st.ev L p.2)) = ps at *
        generalize hus : (parts.toList.map fun p => (p.1, a.eval p.2)) = us at hpr
        have D := h.data
        have hmo := mapO_ok hl
        -- the rows
        have hrows : AllR (fun x r => RC w T e x r) l (us.map fun p => p.2.cells.toList) := by
          refine AllR.of_at (by rw [List.length_map, ← hpr.len, hmo.len]) fun j x row hx hrw => ?_
          have hj : j < ps.length := by rw [hmo.len]; exact (List.getElem?_eq_some_iff.1 hx).1
          have hp := allR_at hmo j ps[j] x (List.getElem?_eq_getElem hj) hx
          simp only [List.getElem?_map, Option.map_eq_some_iff] at hrw
          obtain ⟨u, hu', rfl⟩ := hrw
          have hru := (allR_at hpr j ps[j] u (List.getElem?_eq_getElem hj) hu').2
          have hci := (cells_inv h hk hru (toTT_all hp)).1.mono (R' := fun c v => RV E (hget st.hp) w T c v) fun _ _ z => z.1
          refine toTT_ok D hk.get (fun _ z => z) hci (fun d hd t e l b hkd hbb => ?_) hp
          have h4 := List.all_eq_true.1 b4 ps[j] (List.getElem_mem hj)
          rw [← owns_cells] at hd
          cases ho4 : ps[j].2.owns with
          | nil => rw [ho4] at hd; simp at hd
          | cons q qs => rw [ho4] at h4; simp [nilN] at h4
        have hlen : l.length = len := by rw [← hmo.len, e2]
        have huslen : us.length = len := by rw [← hpr.len, e2]
        have hcn : ∀ p ∈ us, p.2.cells.size = e.n := fun p hp => by
          have := rows_len hrows p.2.cells.toList (List.mem_map.2 ⟨p, hp, rfl⟩)
          simpa using this
        have hfst : us.map (·.1) = ps.map (·.1) := by
          rw [← hus, ← hps]
          simp
        have hfill := fill_dense us 0 ((Array.range (len * e.n)).map ((if len * e.n = 0 then #[] else z.cells)[· % (if len * e.n = 0 then #[] else z.cells).size]!)) hcn (by rw [hfst]; exact b1) (by simp [huslen])
        simp only [Nat.zero_mul, List.take_zero, List.nil_append] at hfill
        have hrun : (Instr.buildSlice t len (parts.map fun p => (p.1, a.eval p.2))).run P w = .ok (.slice (some ⟨w.heap.size, 0, none⟩) len len) (w.alloc (.cells (us.map fun p => p.2.cells.toList).flatten.toArray et)) := by
          have hpl : (parts.map fun p => (p.1, a.eval p.2)).toList = us := by rw [← hus]; simp
          unfold Instr.buildSlice
          rw [Sem.run_bind, run_underlying hu w]
          simp only [Result.andThen_ok]
          rw [Sem.run_bind]
          have hso : (sizeOf et).run P w = .ok e.n w := by simp [sizeOf, typeInfo, program, hi, Sem.run, hsz]
          rw [hso]
          simp only [Result.andThen_ok]
          rw [if_neg (by omega), hpl]
          by_cases h0 : len * e.n = 0
          · rw [if_pos h0] at hfill
            rw [if_pos h0]
            simp only [Sem.run_bind, Sem.run_pure, Result.andThen_ok]
            rw [hfill]
            simp [newRow]
          · rw [if_neg h0] at hfill
            rw [if_neg h0]
            simp only [Sem.run_bind, Sem.run_pure, Result.andThen_ok, zero_run hi hz w]
            rw [hfill]
            simp [newRow]
        have hM := mod_alloc (fun _ => False) w (.cells (us.map fun p => p.2.cells.toList).flatten.toArray et)
        have same1 : ∀ b, T b → (w.alloc (.cells (us.map fun p => p.2.cells.toList).flatten.toArray et)).heap[b]? = w.heap[b]? := fun b hb => hM.block b (D.tb b hb).2 (fun z => z)
        have D2 := (D.grow hM).growT (T' := fun b => T b ∨ b = w.heap.size) (fun _ z => .inl z) (fun b hb => by
          rcases hb with hb | rfl
          · exact .inl hb
          · exact .inr ⟨h.mod.size, by rw [alloc_size]; omega, new_free D⟩)
        have hml : l.length ≤ maxLen := by
          simp only [maxLen]
          have := Nat.le_mul_of_pos_right len hn1
          omega
        have hown := World.ownsRow_lit (base := 0) (e := et) (size := e.n) w (us.map fun p => p.2.cells.toList).flatten.toArray l.length (Nat.zero_le _) hml (by
          rw [List.size_toArray, flatten_len (rows_len hrows), List.length_map, huslen, hlen])
        have hrc := own_RC (T' := fun b => T b ∨ b = w.heap.size) (hrows.mono fun _ _ z => RC.mono same1 (fun _ z => z) z) hown (fun _ z => .inl z) (fun b hb => .inr (by simpa [Value.ownBlock] using hb.symm))
        rw [hlen] at hrc
        refine ⟨E, fun b => T b ∨ b = w.heap.size, .slice (some ⟨w.heap.size, 0, none⟩) len len, w.alloc (.cells (us.map fun p => p.2.cells.toList).flatten.toArray et), .inl ?_, ?_⟩
        · simp only [execOp, ho]
          exact run_v hrun
        · exact ⟨HStep.refl _ _, D2, same1, fun _ z => .inl z, mod_alloc _ w _, RV.val hrc⟩
    · simp at hv
  · simp at hv

end ops
end Go.Ra

namespace Go.Ra
set_option linter.unusedSectionVars false
variable [Known]

def hiN (n : Nat) : Option Int → Nat
  | none => n
  | some b => b.toNat

theorem cutL_eq {α : Type} (l : List α) (a b : Option Int) : cutL l a b = (l.take (hiN l.length b)).drop (loI a).toNat := by
  cases a <;> cases b <;> simp [cutL, hiN, loI]

theorem cutC_ok {n : Nat} {a b : Option Int} (h : ∀ c ∈ cutC n a b, c = true) : 0 ≤ loI a ∧ (loI a).toNat ≤ hiN n b ∧ hiN n b ≤ n ∧ (∀ m, b = some m → 0 ≤ m) := by
  cases a <;> cases b <;> simp [cutC, hiN, loI] at h ⊢ <;> omega

section ops
variable {P : Program} {S I : Nat → Prop} {w0 : World} {E : Env} {T : Nat → Prop} {st : St} {a : Act} {w : World} {o : Oper} {r : AV} {L : Lits}

theorem optI_ok (h : Rel S I w0 E T st a w) (hL : ∀ q ∈ L, a.tmps.getD q.1 undef = .bool q.2) {x : Option Operand} {m : Option Int} (hx : optI (x.map (st.ev L)) = some m) :
    (m = none ∧ x.map a.eval = none) ∨ ∃ k n, m = some n ∧ x.map a.eval = some (.int k n) := by
  cases x with
  | none =>
    simp only [Option.map_none, optI, Option.some.injEq] at hx
    exact .inl ⟨hx.symm, rfl⟩
  | some y =>
    have hv := ev_RV h hL y
    simp only [Option.map_some] at hx
    unfold optI at hx
    split at hx
    · rename_i hn; simp at hn
    · rename_i k n hn
      injection hn with hn
      rw [hn] at hv
      injection hx with hx
      exact .inr ⟨k, n, hx.symm, by simp [hv.int_inv]⟩
    · simp at hx

theorem bounds_run {sl : Bool} {n cap : Nat} {lo hi : Option Int} {vlo vhi : Option Value} (hlo : (lo = none ∧ vlo = none) ∨ ∃ k x, lo = some x ∧ vlo = some (.int k x)) (hhi : (hi = none ∧ vhi = none) ∨ ∃ k x, hi = some x ∧ vhi = some (.int k x))
    (hc : ∀ c ∈ cutC n lo hi, c = true) (hcap : n ≤ cap) (w : World) : (Instr.sliceBounds sl n cap vlo vhi none).run P w = .ok ((loI lo).toNat, hiN n hi, cap) w := by
  obtain ⟨h1, h2, h3, h4⟩ := cutC_ok hc
  have hb : ∀ (k : IntKind) (x : Int) (y : Nat) (code : BoundsCode), 0 ≤ x → x ≤ y → (Instr.sliceBound (.int k x) y code).run P w = .ok x.toNat w := fun k x y code p q => run_sliceBound w k x y code p q
  unfold Instr.sliceBounds
  rcases hlo with ⟨rfl, rfl⟩ | ⟨k, x, rfl, rfl⟩ <;> rcases hhi with ⟨rfl, rfl⟩ | ⟨k', x', rfl, rfl⟩
  · simp [loI, hiN]
  · have h0 := h4 x' rfl
    simp only [hiN, loI] at h3 ⊢
    simp [hb k' x' cap _ h0 (by omega)]
  · simp only [hiN, loI] at h1 h2 ⊢
    simp [hb k x n _ h1 (by omega)]
  · have h0 := h4 x' rfl
    simp only [hiN, loI] at h1 h2 h3 ⊢
    simp [hb k' x' cap _ h0 (by omega), hb k x x'.toNat _ h1 (by omega)]

theorem slice_run {t et : TypeId} {m n cap : Nat} {q : Option Addr} {lo hi : Option Int} {vlo vhi : Option Value} (hu : P.underlying t = some (.slice et)) (hs : szT P et = some m) (hlo : (lo = none ∧ vlo = none) ∨ ∃ k x, lo = some x ∧ vlo = some (.int k x)) (hhi : (hi = none ∧ vhi = none) ∨ ∃ k x, hi = some x ∧ vhi = some (.int k x))
    (hc : ∀ c ∈ cutC n lo hi, c = true) (hcap : n ≤ cap) (w : World) :
    (Instr.sliceAt t (.slice q n cap) vlo vhi none).run P w = .ok (.slice (if cap = (loI lo).toNat then q else q.map (·.add ((loI lo).toNat * m))) (hiN n hi - (loI lo).toNat) (cap - (loI lo).toNat)) w := by
  unfold Instr.sliceAt
  rw [Sem.run_bind, run_underlying hu w]
  simp only [Result.andThen_ok]
  unfold Instr.slice
  rw [Sem.run_bind, run_underlying hu w]
  simp only [Result.andThen_ok]
  rw [Sem.run_bind, bounds_run hlo hhi hc hcap w]
  simp only [Result.andThen_ok]
  rw [Sem.run_bind, szT_run hs w]
  rfl

theorem cut_RC {e : EK} {l : List e.T} {q : Option Addr} {n cap : Nat} (hr : RC w T (.sl e) l [.slice q n cap]) {lo hi : Option Int} (hc : ∀ c ∈ cutC l.length lo hi, c = true) :
    RC w T (.sl e) (cutL l lo hi) [.slice (if cap = (loI lo).toNat then q else q.map (·.add ((loI lo).toNat * e.n))) (hiN l.length hi - (loI lo).toNat) (cap - (loI lo).toNat)] := by
  obtain ⟨h1, h2, h3, h4⟩ := cutC_ok hc
  simp only [RC] at hr ⊢
  obtain ⟨a0, cap0, k1, k2, k3⟩ := hr
  simp only [List.cons.injEq, Value.slice.injEq, and_true] at k1
  obtain ⟨rfl, rfl, rfl⟩ := k1
  have hlen : (cutL l lo hi).length = hiN l.length hi - (loI lo).toNat := by
    rw [cutL_eq, List.length_drop, List.length_take]
    omega
  refine ⟨_, _, by rw [hlen], by omega, fun hp => ?_⟩
  rw [hlen] at hp
  obtain ⟨ad, rfl, ht, k4⟩ := k3 (by omega)
  rw [if_neg (by omega)]
  refine ⟨ad.add ((loI lo).toNat * e.n), rfl, by rw [add_block]; exact ht, fun j x hj => ?_⟩
  rw [cutL_eq, List.getElem?_drop, List.getElem?_take] at hj
  split at hj
  · obtain ⟨c, m1, m2⟩ := k4 _ x hj
    refine ⟨c, m1, fun i u hu => ?_⟩
    rw [add_add]
    have := m2 i u hu
    rw [Nat.add_mul, Nat.add_assoc] at this
    exact this
  · simp at hj

theorem slice_ok (h : Rel S I w0 E T st a w) (hL : ∀ q ∈ L, a.tmps.getD q.1 undef = .bool q.2) {look : Nat → Option Ent} {dst : Nat} (hk : LookOk st look dst) {keep : Bool} {t : TypeId} {x : Operand} {lo hi mx : Option Operand} {cs : List Bool} {up : Heap} (ho : o.op = .slice t x lo hi mx)
    (hv : sliceA P look dst keep t (st.ev L x) (lo.map (st.ev L)) (hi.map (st.ev L)) (mx.map (st.ev L)) = some (cs, r, up)) (hc : ∀ b ∈ cs, b = true) : OpOk P S I w0 E T st a w o r up := by
  unfold sliceA at hv
  split at hv
  · rename_i m1 m2 m3 ma mb hma hmb hmc
    have hmx : mx = none := by
      cases mx with
      | none => rfl
      | some y => simp at hmc
    subst hmx
    have hlo := optI_ok h hL hma
    have hhi := optI_ok h hL hmb
    have hvx := ev_RV h hL x
    have D := h.data
    split at hv
    · rename_i s hx
      rw [hx] at hvx
      split at hv
      · rename_i hu
        simp only [Option.some.injEq, Prod.mk.injEq] at hv
        obtain ⟨rfl, rfl, rfl⟩ := hv
        refine OpOk.pure h (v := .string (s.extract (loI ma).toNat (hiN s.size mb))) ?_ ?_
        · simp only [execOp, ho]
          refine run_v ?_
          rw [hvx.str_inv]
          unfold Instr.sliceAt
          rw [Sem.run_bind, run_underlying hu w]
          simp only [Result.andThen_ok]
          unfold Instr.slice
          rw [Sem.run_bind, run_underlying hu w]
          simp only [Result.andThen_ok, Option.map_none, Option.isSome_none]
          have := bounds_run (P := P) (sl := false) hlo hhi hc (Nat.le_refl _) w
          simp [this]
        · cases mb with
          | none => exact RV_str _
          | some n => exact RV_str _
      · simp at hv
    · rename_i e l hx
      rw [hx] at hvx
      cases hs : sizeOk P t e.n with
      | false => rw [hs] at hv; simp at hv
      | true =>
        rw [hs] at hv
        simp only [cond_true, Option.some.injEq, Prod.mk.injEq] at hv
        obtain ⟨rfl, rfl, rfl⟩ := hv
        obtain ⟨et, hu, hsz⟩ := sizeOk_ok hs
        obtain ⟨q, cap, k1, k2, k3⟩ := hvx.sl_inv
        rw [k1] at k3
        refine OpOk.pure h ?_ (RV.val (cut_RC k3 hc))
        simp only [execOp, ho]
        refine run_v ?_
        rw [k1]
        exact slice_run hu hsz hlo hhi hc k2 w
    · rename_i d hx
      rw [hx] at hvx
      split at hv
      · rename_i t' e l hd
        cases hs : sizeOk P t e.n with
        | false => rw [hs] at hv; simp at hv
        | true =>
          rw [hs] at hv
          simp only [cond_true, Option.some.injEq, Prod.mk.injEq] at hv
          obtain ⟨rfl, rfl, rfl⟩ := hv
          obtain ⟨et, hu, hsz⟩ := sizeOk_ok hs
          have hdg := hk.get _ _ hd
          obtain ⟨q, cap, k1, k2⟩ := hdr_slice D hdg (q := (e, l.length)) rfl
          have hre : RC w T (.sl e) l [E.hdr d] := D.ent d _ hdg
          have hv1 : a.eval x = E.hdr d := by
            generalize a.eval x = v at hvx
            cases hvx with
            | own he hq => exact hq _ _ hdg rfl
          rw [k1] at hre
          refine OpOk.pure h ?_ (RV.val (cut_RC hre hc))
          simp only [execOp, ho]
          refine run_v ?_
          rw [hv1, k1]
          exact slice_run hu hsz hlo hhi hc k2 w
      · rename_i t' e l hd
        cases hs : sizeOk P t e.n with
        | false => rw [hs] at hv; simp at hv
        | true =>
          rw [hs] at hv
          simp only [cond_true] at hv
          obtain ⟨et, hu, hsz⟩ := sizeOk_ok hs
          have hdg := hk.get _ _ hd
          obtain ⟨q, cap, k1, k2⟩ := hdr_slice D hdg (q := (e, l.length)) rfl
          have hv1 : a.eval x = E.hdr d := by
            generalize a.eval x = v at hvx
            cases hvx with
            | own he hq => exact hq _ _ hdg rfl
          have fall : cs = cutC l.length ma mb → r = .val (.sl e) (cutL l ma mb) → up = [(d, .frz t' e l)] → OpOk P S I w0 E T st a w o r up := by
            rintro rfl rfl rfl
            obtain ⟨D1, s1⟩ := D.freeze hdg (T' := fun b => T b ∨ (E.hdr d).ownBlock = some b) (fun _ z => .inl z) (fun _ => Iff.rfl)
            have hre : RC w (fun b => T b ∨ (E.hdr d).ownBlock = some b) (.sl e) l [E.hdr d] := D1.ent d _ (upd_at _ _ _)
            have e2 : [E.hdr d] = [Value.slice q l.length cap] := by rw [k1]
            rw [e2] at hre
            refine ⟨E, fun b => T b ∨ (E.hdr d).ownBlock = some b, .slice (if cap = (loI ma).toNat then q else q.map (·.add ((loI ma).toNat * e.n))) (hiN l.length mb - (loI ma).toNat) (cap - (loI ma).toNat), w, .inl ?_, ?_⟩
            · simp only [execOp, ho]
              refine run_v ?_
              rw [hv1, k1]
              exact slice_run hu hsz hlo hhi hc k2 w
            · rw [show hget ([(d, Ent.frz t' e l)] ++ st.hp) = upd (hget st.hp) d (.frz t' e l) from hget_cons _ _ _]
              exact ⟨s1, D1, fun _ _ => rfl, fun _ z => .inl z, Mod.refl _ _, RV.val (cut_RC hre hc)⟩
          split at hv
          · rename_i hnew
            split at hv
            · rename_i b
              simp only [Option.some.injEq, Prod.mk.injEq] at hv
              obtain ⟨rfl, rfl, rfl⟩ := hv
              -- the slice stays own
              have hnew' := hk.new hnew
              obtain ⟨rows, h1, h2⟩ := D.ent d _ hdg
              have hne : dst ≠ d := by rintro rfl; rw [hdg] at hnew'; simp at hnew'
              have hb := cutC_ok hc
              simp only [hiN, loI] at hb
              have hrun := slice_run (P := P) (q := q) hu hsz hlo hhi hc k2 w
              obtain ⟨D1, s1⟩ := D.kill hdg
              have hown : w.ownsRow 0 t' e.n (.slice q b.toNat cap) (l.take b.toNat).length (rows.take b.toNat).flatten := by
                have hrl := rows_len h1
                have htl : (l.take b.toNat).length = b.toNat := by rw [List.length_take]; omega
                have hfl : (rows.take b.toNat).flatten.length = b.toNat * e.n := by
                  rw [flatten_len (fun r hr => hrl r (List.mem_of_mem_take hr)), List.length_take, ← h1.len]
                  congr 1
                  omega
                refine ⟨by rw [hfl, htl], ?_⟩
                rcases h2.2 with ⟨h3, h4⟩ | ⟨g, cap', cur, h3, h5, h6, h7, h8, h9, h10⟩
                · rw [h3] at k1
                  injection k1 with p1 p2 p3
                  subst p1
                  subst p3
                  refine .inl ⟨?_, by omega⟩
                  congr 1
                  omega
                · rw [h3] at k1
                  injection k1 with p1 p2 p3
                  subst p1
                  subst p3
                  refine .inr ⟨g, cap', cur, by rw [htl], h5, h6, by omega, h8, h9, ?_⟩
                  rw [flatten_take hrl, ← h10, List.take_take, htl]
                  congr 1
                  exact (Nat.min_eq_left (Nat.mul_le_mul_right _ (by omega))).symm
              have hob : (Value.slice q b.toNat cap).ownBlock = (E.hdr d).ownBlock := by rw [k1]; cases q <;> rfl
              obtain ⟨D2, s2, hv⟩ := D1.addSl (dst := dst) (by rw [upd_ne hne]; exact hnew') (h1.take b.toNat) hown (fun b' hb' => by
                rw [hob] at hb'
                obtain ⟨p1, p2, p3⟩ := D.own d _ b' hdg hb'
                exact ⟨p1, p2, p3, kill_free D hdg hb'⟩)
              refine ⟨E.setHdr dst (.slice q b.toNat cap), T, .slice q b.toNat cap, w, .inl ?_, ?_⟩
              · simp only [execOp, ho]
                refine run_v ?_
                rw [hv1, k1]
                refine hrun.trans ?_
                simp only [loI, hiN, Int.toNat_zero, Nat.zero_mul, Nat.sub_zero]
                congr 1
                congr 1
                split
                · rfl
                · cases q with
                  | none => rfl
                  | some ad => simp [Addr.add]
              · have e1 : hget ([(dst, Ent.sl t' e (l.take b.toNat)), (d, .dead)] ++ st.hp) = upd (upd (hget st.hp) d .dead) dst (.sl t' e (l.take b.toNat)) := by
                  show hget ((dst, Ent.sl t' e (l.take b.toNat)) :: (d, .dead) :: st.hp) = _
                  rw [hget_cons, hget_cons]
                rw [e1]
                exact ⟨s1.trans s2, D2, fun _ _ => rfl, fun _ z => z, Mod.refl _ _, hv⟩
            · simp at hv
          · simp only [Option.some.injEq, Prod.mk.injEq] at hv
            exact fall hv.1.symm hv.2.1.symm hv.2.2.symm
      · simp at hv
    · simp at hv
  · simp at hv

end ops
end Go.Ra

namespace Go.Ra
set_option linter.unusedSectionVars false
variable [Known]

section ops
variable {P : Program} {S I : Nat → Prop} {w0 : World} {E : Env} {T : Nat → Prop} {st : St} {a : Act} {w : World} {o : Oper} {r : AV} {L : Lits}

theorem toT_owns {look : Nat → Option Ent} {e : EK} {v : AV} {x : e.T} (h : v.toT look e = some x) (he : e.hasSl = false) : v.owns1 = [] := by
  cases v with
  | own d =>
    cases e <;> first | (simp [AV.toT] at h; done) | (simp [EK.hasSl] at he; done)
  | _ => rfl

theorem index_ok (h : Rel S I w0 E T st a w) (hL : ∀ q ∈ L, a.tmps.getD q.1 undef = .bool q.2) {look : Nat → Option Ent} {dst : Nat} (hk : LookOk st look dst) {t : TypeId} {x i : Operand} {cs : List Bool} {up : Heap} (ho : o.op = .index t x i)
    (hv : indexA P look t (st.ev L x) (st.ev L i) = some (cs, r, up)) (hc : ∀ b ∈ cs, b = true) : OpOk P S I w0 E T st a w o r up := by
  unfold indexA at hv
  split at hv
  · rename_i k n hi
    have hvi := ev_RV h hL i
    rw [hi] at hvi
    have hvx := ev_RV h hL x
    have hei := hvi.int_inv
    split at hv
    · rename_i s hx
      rw [hx] at hvx
      split at hv
      · rename_i hu
        simp only [Option.some.injEq, Prod.mk.injEq] at hv
        obtain ⟨rfl, rfl, rfl⟩ := hv
        have h0 : 0 ≤ n := by simpa using hc (decide (0 ≤ n)) (by simp)
        have h1 : n < s.size := by simpa using hc (decide (n < (s.size : Int))) (by simp)
        have h2 : n.toNat < s.size := (Int.toNat_lt h0).2 h1
        refine OpOk.pure h (v := .int .u8 (bt s n)) ?_ (RV_int _ _)
        simp only [execOp, ho]
        refine run_v ?_
        rw [hei, hvx.str_inv]
        unfold Instr.index
        simp [asIntOf, run_underlying hu, h0, h2, bt]
      · simp at hv
    · rename_i cells hx
      rw [hx] at hvx
      split at hv
      · rename_i len et hu
        split at hv
        · rename_i e he hag hsz
          split at hv
          · rename_i l hl
            cases hb : (Nat.beq l.length len && !e.hasSl) with
            | false => rw [hb] at hv; simp at hv
            | true =>
              rw [hb] at hv
              simp only [cond_true, Option.some.injEq, Prod.mk.injEq] at hv
              obtain ⟨rfl, rfl, rfl⟩ := hv
              simp only [Bool.and_eq_true, Bool.not_eq_true'] at hb
              have hll := Nat.eq_of_beq_eq_true hb.1
              have h0 : 0 ≤ n := by simpa using hc (decide (0 ≤ n)) (by simp)
              have h1 : n < len := by simpa using hc (decide (n < (len : Int))) (by simp)
              have hm := mapO_ok hl
              generalize hux : a.eval x = u at hvx
              cases hvx with
              | @agg _ vs hlen hq =>
                have hj : n.toNat < cells.length := by rw [hm.len, hll]; exact (Int.toNat_lt h0).2 h1
                have hgx : l[n.toNat]? = some (l.getD n.toNat e.d) := getD_some h0 (by rw [hll]; exact h1)
                have hvj : n.toNat < vs.length := by rw [← hlen]; exact hj
                have h5 := allR_at hm _ _ _ (List.getElem?_eq_getElem hj) hgx
                have h6 := hq _ _ _ (List.getElem?_eq_getElem hj) (List.getElem?_eq_getElem hvj)
                have hrc := toT_ok h.data hk.get (fun _ z => z) h6 (by rw [toT_owns h5 hb.2]; simp) h5
                refine OpOk.pure h ?_ (RV.val hrc)
                simp only [execOp, ho]
                refine run_v ?_
                rw [hei, hux]
                unfold Instr.index
                have hget : vs[n.toNat]? = some vs[n.toNat] := List.getElem?_eq_getElem hvj
                simp [asIntOf, run_underlying hu, h0, h1, part, isAggT_run hag, szT_run hsz, hget]
          · simp at hv
        · simp at hv
      · simp at hv
    · simp at hv
  · simp at hv

theorem byts_len (s : ByteArray) : (byts s).length = s.size := by simp [byts]

theorem bytes_rows {l : List Int} {rows : List (List Value)} (h : AllR (fun (x : Int) r => RC w T (.int .u8) x r) l rows) : rows.flatten = l.map (Value.int .u8) := by
  induction l generalizing rows with
  | nil => cases rows with
    | nil => rfl
    | cons => exact h.elim
  | cons x l ih => cases rows with
    | nil => exact h.elim
    | cons r rows =>
      have h1 := h.1
      simp only [RC] at h1
      subst h1
      simp [ih h.2]

theorem toT_tail {look : Nat → Option Ent} {e : EK} {v : AV} {l : List e.T} (h : v.toT look (.sl e) = some l) : tailA look e v = some l := by
  cases v with
  | nil => simpa [AV.toT, tailA] using h
  | _ => exact h

theorem conv_bytes (h : Rel S I w0 E T st a w) (hL : ∀ q ∈ L, a.tmps.getD q.1 undef = .bool q.2) {look : Nat → Option Ent} {dst : Nat} (hk : LookOk st look dst) {src dt et : TypeId} {x : Operand} {s : ByteArray} (ho : o.op = .convert src dt x)
    (h1 : P.underlying src = some .string) (h2 : P.underlying dt = some (.slice et)) (h3 : P.underlying et = some (.int .u8)) (hx : st.ev L x = .val .str s) (hn : look dst = none) :
    OpOk P S I w0 E T st a w o (.own dst) [(dst, .frz et (.int .u8) (byts s))] := by
  have hv := ev_RV h hL x
  rw [hx] at hv
  have D := h.data
  have hnew := hk.new hn
  have hrun := Lib.run_convert_string_bytes (P := P) w src dt et s h1 h2 h3
  have hM : Mod (fun _ => False) w (Lib.bytesWorld w et s) := ⟨rfl, rfl, rfl, by rw [Lib.bytesWorld_size]; omega, fun k hk _ => Lib.bytesWorld_at_old w et s k hk⟩
  have same : ∀ b, T b → (Lib.bytesWorld w et s).heap[b]? = w.heap[b]? := fun b hb => hM.block b (D.tb b hb).2 (fun z => z)
  have D1 := (D.grow hM).growT (T' := fun b => T b ∨ b = w.heap.size) (fun _ z => .inl z) (fun b hb => by
    rcases hb with hb | rfl
    · exact .inl hb
    · exact .inr ⟨h.mod.size, by rw [Lib.bytesWorld_size]; omega, fun d ent hd => new_free D d ent hd⟩)
  have hge := grownCap_ge w s.size 0 et
  obtain ⟨D2, s2⟩ := D1.add (E' := E.setHdr dst (.slice (some ⟨w.heap.size, 0, none⟩) s.size (grownCap w s.size 0 et))) (ent := .frz et (.int .u8) (byts s)) hnew (fun _ _ => rfl) (fun y hy => by simp [Env.setHdr, hy]) (fun _ _ => rfl) (by
    simp only [RE, RC, Env.setHdr, if_true]
    refine ⟨some ⟨w.heap.size, 0, none⟩, _, by rw [byts_len], by rw [byts_len]; exact hge, fun _ => ⟨_, rfl, .inr rfl, fun j y hj => ⟨_, rfl, fun i u hu => ?_⟩⟩⟩
    have hi : i = 0 ∧ u = .int .u8 y := by
      cases i with
      | zero => simp at hu; exact ⟨rfl, hu.symm⟩
      | succ i => simp at hu
    obtain ⟨rfl, rfl⟩ := hi
    have hjl : j < s.size := by
      have := (List.getElem?_eq_some_iff.1 hj).1
      rwa [byts_len] at this
    have hadd : (⟨w.heap.size, 0, none⟩ : Addr).add (j * (EK.int IntKind.u8).n + 0) = ⟨w.heap.size, j, none⟩ := by
      simp only [EK.n, Nat.mul_one, Nat.add_zero]
      unfold Addr.add
      split <;> simp_all
    rw [hadd, Lib.bytesWorld_cell w et s j hjl]
    have hj' : j < s.data.toList.length := by simpa using hjl
    have : y = ((s.data.toList[j]'hj').toNat : Int) := by
      have e1 : (byts s)[j]? = some ((s.data.toList[j]'hj').toNat : Int) := by simp [byts, List.getElem?_eq_getElem hj']
      rw [e1] at hj
      injection hj with hj
      exact hj.symm
    rw [this]
    simp [List.getD, List.getElem?_eq_getElem hj']) (fun b hb => by simp [obk] at hb)
  refine ⟨E.setHdr dst (.slice (some ⟨w.heap.size, 0, none⟩) s.size (grownCap w s.size 0 et)), fun b => T b ∨ b = w.heap.size, .slice (some ⟨w.heap.size, 0, none⟩) s.size (grownCap w s.size 0 et), Lib.bytesWorld w et s, .inl ?_, ?_⟩
  rotate_left
  · rw [show hget ([(dst, Ent.frz et (.int .u8) (byts s))] ++ st.hp) = upd (hget st.hp) dst (.frz et (.int .u8) (byts s)) from hget_cons _ _ _]
    exact ⟨s2, D2, same, fun _ z => .inl z, hM.weaken fun _ _ z => z.elim, RV.own (by simp [upd_at]) fun _ _ _ _ => by simp [Env.setHdr]⟩
  · simp only [execOp, ho]
    refine run_v ?_
    rw [hv.str_inv]
    exact hrun

theorem conv_cv (h : Rel S I w0 E T st a w) (hL : ∀ q ∈ L, a.tmps.getD q.1 undef = .bool q.2) {look : Nat → Option Ent} {dst : Nat} (hk : LookOk st look dst) {src dt et : TypeId} {x : Operand} {s : ByteArray} (ho : o.op = .convert src dt x)
    (h1 : P.underlying src = some .string) (h2 : P.underlying dt = some (.slice et)) (h3 : P.underlying et = some (.int .u8)) (hx : st.ev L x = .val .str s) (hn : look dst = none) :
    OpOk P S I w0 E T st a w o (.own dst) [(dst, .cv et (byts s))] := by
  have hv := ev_RV h hL x
  rw [hx] at hv
  have D := h.data
  have hnew := hk.new hn
  have hrun := Lib.run_convert_string_bytes (P := P) w src dt et s h1 h2 h3
  have hM : Mod (fun _ => False) w (Lib.bytesWorld w et s) := ⟨rfl, rfl, rfl, by rw [Lib.bytesWorld_size]; omega, fun k hk _ => Lib.bytesWorld_at_old w et s k hk⟩
  have same : ∀ b, T b → (Lib.bytesWorld w et s).heap[b]? = w.heap[b]? := fun b hb => hM.block b (D.tb b hb).2 (fun z => z)
  have hge := grownCap_ge w s.size 0 et
  obtain ⟨D2, s2⟩ := (D.grow hM).add (E' := E.setHdr dst (.slice (some ⟨w.heap.size, 0, none⟩) s.size (grownCap w s.size 0 et))) (ent := .cv et (byts s)) hnew (fun _ _ => rfl) (fun y hy => by simp [Env.setHdr, hy]) (fun _ _ => rfl) (by
    show CvAt _ et _ (byts s)
    simp only [Env.setHdr, if_true]
    refine ⟨w.heap.size, grownCap w s.size 0 et, Lib.bytesCells w et s, by rw [byts_len], Lib.bytesWorld_at_new w et s, by rw [byts_len]; exact hge, ?_, ?_⟩
    · have hd : s.data.size = s.size := rfl
      simp only [Lib.bytesCells, Array.size_append, Array.size_map, Array.size_replicate]
      omega
    · have hd : (s.data.toList.map fun b => Value.int .u8 (b.toNat : Int)).length = s.size := by rw [List.length_map, Array.length_toList]; rfl
      rw [byts_len]
      simp only [Lib.bytesCells, Array.toList_append, Array.toList_map]
      rw [List.take_append_of_le_length (Nat.le_of_eq hd.symm), List.take_of_length_le (Nat.le_of_eq hd)]
      simp [byts]) (fun b hb => by
    have hb' : b = w.heap.size := by
      have : (E.setHdr dst (.slice (some ⟨w.heap.size, 0, none⟩) s.size (grownCap w s.size 0 et))).hdr dst = .slice (some ⟨w.heap.size, 0, none⟩) s.size (grownCap w s.size 0 et) := by simp [Env.setHdr]
      simp only [obk, this, Value.ownBlock, Option.some.injEq] at hb
      exact hb.symm
    subst hb'
    exact ⟨fun ht => Nat.lt_irrefl _ (D.tb _ ht).2, .inr h.mod.size, by rw [Lib.bytesWorld_size]; omega, new_free D⟩)
  refine ⟨E.setHdr dst (.slice (some ⟨w.heap.size, 0, none⟩) s.size (grownCap w s.size 0 et)), T, .slice (some ⟨w.heap.size, 0, none⟩) s.size (grownCap w s.size 0 et), Lib.bytesWorld w et s, .inl ?_, ?_⟩
  rotate_left
  · rw [show hget ([(dst, Ent.cv et (byts s))] ++ st.hp) = upd (hget st.hp) dst (.cv et (byts s)) from hget_cons _ _ _]
    exact ⟨s2, D2, same, fun _ z => z, hM.weaken fun _ _ z => z.elim, RV.own (by simp [upd_at]) fun _ _ _ _ => by simp [Env.setHdr]⟩
  · simp only [execOp, ho]
    refine run_v ?_
    rw [hv.str_inv]
    exact hrun

theorem bytesOf_ok (h : Rel S I w0 E T st a w) {look : Nat → Option Ent} {dst : Nat} (hk : LookOk st look dst) {v : AV} {u : Value} {l : List Int} (hv : RV E (hget st.hp) w T v u) (hb : bytesOf look v = some l) :
    ∃ q cap, u = .slice q l.length cap ∧ (0 < l.length → ∃ ad, q = some ad ∧ ∀ j u, (l.map (Value.int .u8))[j]? = some u → w.cell? (ad.add j) = some u) := by
  have plain : v.toT look (.sl (.int .u8)) = some l → ∃ q cap, u = .slice q l.length cap ∧ (0 < l.length → ∃ ad, q = some ad ∧ ∀ j u, (l.map (Value.int .u8))[j]? = some u → w.cell? (ad.add j) = some u) := by
    intro ht
    obtain ⟨q, cap, hu, hq⟩ := tail_ok h hk hv (toT_tail ht)
    refine ⟨q, cap, hu, fun h0 => ?_⟩
    obtain ⟨ad, rfl, rows, k1, k2⟩ := hq h0
    rw [bytes_rows k1] at k2
    exact ⟨ad, rfl, k2⟩
  unfold bytesOf at hb
  split at hb
  · rename_i d
    split at hb
    · rename_i t l' hd
      injection hb with hb
      subst hb
      have hdg := hk.get _ _ hd
      obtain ⟨g, cap, cur, q1, q2, q3, q4, q5⟩ := h.data.ent d _ hdg
      have hu : u = E.hdr d := by
        cases hv with
        | own he hq => exact hq _ _ hdg rfl
      refine ⟨_, cap, by rw [hu, q1], fun _ => ⟨_, rfl, fun j u hj => ?_⟩⟩
      rw [← q5] at hj
      have hadd : (⟨g, 0, none⟩ : Addr).add j = ⟨g, j, none⟩ := by unfold Addr.add; split <;> simp_all
      rw [hadd]
      simp only [World.cell?, q2]
      rw [List.getElem?_take] at hj
      split at hj
      · simpa using hj
      · simp at hj
    · exact plain hb
  · exact plain hb

theorem convert_ok (h : Rel S I w0 E T st a w) (hL : ∀ q ∈ L, a.tmps.getD q.1 undef = .bool q.2) {look : Nat → Option Ent} {dst : Nat} (hk : LookOk st look dst) {src dt : TypeId} {x : Operand} {cs : List Bool} {up : Heap} (ho : o.op = .convert src dt x)
    {keep : Bool} (hv : convA P look dst keep src dt (st.ev L x) = some (cs, r, up)) : OpOk P S I w0 E T st a w o r up := by
  have hx := ev_RV h hL x
  unfold convA at hv
  split at hv
  · rename_i d k k' n h1 h2 hxe
    rw [hxe] at hx
    simp only [Option.some.injEq, Prod.mk.injEq] at hv
    obtain ⟨rfl, rfl, rfl⟩ := hv
    refine OpOk.pure h (v := .int k (k.wrap n)) ?_ (RV_int _ _)
    simp only [execOp, ho]
    refine run_v ?_
    rw [hx.int_inv]
    simp [convert, run_underlying h1, run_underlying h2, Conv.intToInt]
  · rename_i d k' n h1 h2 hxe
    rw [hxe] at hx
    simp only [Option.some.injEq, Prod.mk.injEq] at hv
    obtain ⟨rfl, rfl, rfl⟩ := hv
    refine OpOk.pure h (v := .string (Utf8.encode n)) ?_ (RV_str _)
    simp only [execOp, ho]
    refine run_v ?_
    rw [hx.int_inv]
    exact run_convert_int_string w src dt k' n (by simp [h1]) h2
  · rename_i d s h1 h2 hxe
    rw [hxe] at hx
    simp only [Option.some.injEq, Prod.mk.injEq] at hv
    obtain ⟨rfl, rfl, rfl⟩ := hv
    refine OpOk.pure h (v := .string s) ?_ (RV_str _)
    simp only [execOp, ho]
    refine run_v ?_
    rw [hx.str_inv]
    simp [convert, run_underlying h1, run_underlying h2]
  · rename_i et s h1 h2 hxe
    split at hv
    · rename_i h3 hn
      cases keep with
      | true =>
        simp only [cond_true, Option.some.injEq, Prod.mk.injEq] at hv
        obtain ⟨rfl, rfl, rfl⟩ := hv
        exact conv_cv h hL hk ho h1 h2 h3 hxe hn
      | false =>
        simp only [cond_false, Option.some.injEq, Prod.mk.injEq] at hv
        obtain ⟨rfl, rfl, rfl⟩ := hv
        exact conv_bytes h hL hk ho h1 h2 h3 hxe hn
    · simp at hv
  · rename_i et v h1 h2
    split at hv
    · rename_i l h3 ht
      simp only [Option.some.injEq, Prod.mk.injEq] at hv
      obtain ⟨rfl, rfl, rfl⟩ := hv
      obtain ⟨q, cap, hu, hq⟩ := bytesOf_ok h hk hx ht
      refine OpOk.pure h (v := .string (strOf l)) ?_ (RV_str _)
      simp only [execOp, ho]
      refine run_v ?_
      rw [hu, run_convert_bytes_string w src dt _ _ _ _ (by assumption) h3 (by assumption)]
      have main : ∀ ad, (∀ j u, (l.map (Value.int .u8))[j]? = some u → w.cell? (ad.add j) = some u) → (Conv.bytesToString (.slice (some ad) l.length cap)).run P w = .ok (.string (strOf l)) w := by
        intro ad k2
        have hl := run_loadCells_list (P := P) w ad (l.map (Value.int .u8)) k2
        rw [List.length_map] at hl
        rw [run_bytesToString w ad l.length cap l hl, foldl_push_bytes]
        simp [strOf, ByteArray.empty, ByteArray.emptyWithCapacity]
        rfl
      by_cases h0 : l.length = 0
      · have hl : l = [] := List.eq_nil_of_length_eq_zero h0
        cases q with
        | none =>
          rw [h0, hl]
          simp [Conv.bytesToString, strOf]
          rfl
        | some ad => exact main ad (by rw [hl]; simp)
      · obtain ⟨ad, rfl, k2⟩ := hq (by omega)
        exact main ad k2
    · simp at hv
  · simp at hv

end ops
end Go.Ra

namespace Go.Ra
set_option linter.unusedSectionVars false
variable [Known]

section ops
variable {P : Program} {S I : Nat → Prop} {w0 : World} {E : Env} {T : Nat → Prop} {st : St} {a : Act} {w : World} {o : Oper} {r : AV} {L : Lits}

def valOf (g : Bool) (us : List Value) : Value := match g with
  | true => .agg us.toArray
  | false => us.headD undef

theorem part_ok {t : TypeId} {g : Bool} {n off : Nat} {us : List Value} (h1 : isAggT P t = some g) (h2 : szT P t = some n) (hl : off + n ≤ us.length) (hg : (g || Nat.beq n 1) = true) :
    (part t us.toArray off).run P w = .ok (valOf g ((us.drop off).take n)) w := by
  unfold part
  rw [Sem.run_bind, isAggT_run h1 w]
  cases g with
  | true =>
    simp only [Result.andThen_ok, if_true, Sem.run_bind, szT_run h2 w]
    have hx : us.toArray.extract off (off + n) = ((us.drop off).take n).toArray := by simp [List.extract_toArray, List.extract]
    rw [hx]
    rfl
  | false =>
    have hn : n = 1 := Nat.eq_of_beq_eq_true (by simpa using hg)
    subst hn
    have hlt : off < us.length := by omega
    have hv : us[off]? = some us[off] := List.getElem?_eq_getElem hlt
    have hd : (us.drop off).take 1 = [us[off]] := by rw [List.drop_eq_getElem_cons hlt]; rfl
    rw [hd]
    simp only [Result.andThen_ok, Bool.false_eq_true, if_false]
    simp [hv, valOf]

theorem eqCells_ok {hp : Nat → Option Ent} : ∀ (d : Nat) (t : TypeId) (cs ds : List AV) (b : Bool) (us vs : List Value), eqCells P d t cs ds = some b → AllR (fun c v => RV E hp w T c v) cs us → AllR (fun c v => RV E hp w T c v) ds vs →
    ∀ g m, isAggT P t = some g → (Op.equalIn (d + m) t (valOf g us) (valOf g vs)).run P w = .ok b w
  | 0, _, _, _, _, _, _, h, _, _ => by simp [eqCells] at h
  | d + 1, t, cs, ds, b, us, vs, h, hx, hy => by
    intro g m hg
    rw [show d + 1 + m = (d + m) + 1 by omega]
    unfold eqCells at h
    split at h
    · rename_i k ht
      have hg0 : g = false := by unfold isAggT at hg; rw [ht] at hg; simpa using hg.symm
      subst hg0
      split at h
      · split at h
        · rename_i k1 x k2 y hk
          obtain ⟨rfl, rfl⟩ := hk
          injection h with h
          subst h
          match us, vs, hx, hy with
          | [u], [v], ⟨hu, _⟩, ⟨hv, _⟩ =>
            show (Op.equalIn _ t u v).run P w = _
            rw [hu.int_inv, hv.int_inv]
            exact run_equalIn_int w _ t _ _ _ _ ht
        · simp at h
      · simp at h
    · rename_i ht
      have hg0 : g = false := by unfold isAggT at hg; rw [ht] at hg; simpa using hg.symm
      subst hg0
      split at h
      · injection h with h
        subst h
        match us, vs, hx, hy with
        | [u], [v], ⟨hu, _⟩, ⟨hv, _⟩ =>
          show (Op.equalIn _ t u v).run P w = _
          rw [hu.bool_inv, hv.bool_inv]
          exact run_equalIn_bool' w _ t _ _ ht
      · simp at h
    · rename_i ht
      have hg0 : g = false := by unfold isAggT at hg; rw [ht] at hg; simpa using hg.symm
      subst hg0
      split at h
      · injection h with h
        subst h
        match us, vs, hx, hy with
        | [u], [v], ⟨hu, _⟩, ⟨hv, _⟩ =>
          show (Op.equalIn _ t u v).run P w = _
          rw [hu.str_inv, hv.str_inv]
          exact run_equalIn_string w _ t _ _ ht
      · simp at h
    · rename_i fs ht
      have hg0 : g = true := by unfold isAggT at hg; rw [ht] at hg; simpa using hg.symm
      subst hg0
      have hf : P.fieldsOf t = fs := by simp [Program.fieldsOf, ht]
      cases hs : P.stoodInHeld t with
      | true => rw [hs] at h; simp at h
      | false =>
        rw [hs] at h
        simp only [cond_false] at h
        show (Op.equalIn (d + m + 1) t (.agg us.toArray) (.agg vs.toArray)).run P w = _
        rw [run_equalIn_struct w (d + m) t _ _ (by rw [hf]; exact ht) hs, hf]
        revert h
        generalize fs.toList = fl
        intro h
        clear hf ht
        induction fl generalizing b with
        | nil =>
          simp only [eqFs, Option.some.injEq] at h
          subst h
          simp [Op.eqFields]
        | cons f fl ih =>
          unfold eqFs at h
          split at h
          · rename_i g' n h1 h2 h3
            have h3' : f.name ≠ "_" := of_decide_eq_true h3
            cases hb : (Nat.ble (f.offset + n) cs.length && Nat.ble (f.offset + n) ds.length && (g' || Nat.beq n 1)) with
            | false => rw [hb] at h; simp at h
            | true =>
              rw [hb] at h
              simp only [cond_true] at h
              simp only [Bool.and_eq_true] at hb
              have l1 := Nat.le_of_ble_eq_true hb.1.1
              have l2 := Nat.le_of_ble_eq_true hb.1.2
              rw [hx.len] at l1
              rw [hy.len] at l2
              cases h4 : eqCells P d f.type ((cs.drop f.offset).take n) ((ds.drop f.offset).take n) with
              | none => rw [h4] at h; simp at h
              | some b1 =>
                cases h5 : eqFs P (eqCells P d) cs ds fl with
                | none => rw [h4, h5] at h; simp at h
                | some b2 =>
                  rw [h4, h5] at h
                  simp only [Option.some.injEq] at h
                  subst h
                  have e1 := eqCells_ok d f.type _ _ b1 _ _ h4 ((hx.drop f.offset).take n) ((hy.drop f.offset).take n) g' m h1
                  unfold Op.eqFields
                  rw [if_pos h3', Sem.run_bind, part_ok h1 h2 l1 hb.2]
                  simp only [Result.andThen_ok, Sem.run_bind]
                  rw [part_ok h1 h2 l2 hb.2]
                  simp only [Result.andThen_ok]
                  rw [e1]
                  simp only [Result.andThen_ok]
                  cases b1 with
                  | false => simp
                  | true => simpa using ih _ h5
          · simp at h
    · simp at h

theorem slOf_some (h : Rel S I w0 E T st a w) {look : Nat → Option Ent} {dst : Nat} (hk : LookOk st look dst) {v : AV} {u : Value} (hv : RV E (hget st.hp) w T v u) {s : SlV} (hs : slOf look v = some s) :
    ∃ x n cap, u = .slice x n cap ∧ (s.l.isEmpty = false → x.isNone = false) := by
  have key : ∀ (d : Nat) (ent : Ent) (q : EK × Nat), hget st.hp d = some ent → ent.slInfo = some q → ∃ x n cap, E.hdr d = .slice x n cap ∧ (0 < q.2 → x.isNone = false) := by
    intro d ent q hd hq
    have hr := h.data.ent d ent hd
    cases ent with
    | box t cs => simp [Ent.slInfo] at hq
    | dead => simp [Ent.slInfo] at hq
    | bld t e s => simp [Ent.slInfo] at hq
    | bld0 t e => simp [Ent.slInfo] at hq
    | cv t l =>
      simp only [Ent.slInfo, Option.some.injEq] at hq
      subst hq
      obtain ⟨g, cap, cur, h1, _, h3, _⟩ := hr
      exact ⟨_, _, cap, h1, fun _ => rfl⟩
    | sl t e l =>
      simp only [Ent.slInfo, Option.some.injEq] at hq
      subst hq
      obtain ⟨rows, _, h2⟩ := hr
      rcases h2.2 with ⟨h3, h4⟩ | ⟨g, cap, cur, h3, _⟩
      · exact ⟨none, 0, 0, h3, fun z => absurd z (by simp at h4 ⊢; exact h4)⟩
      · exact ⟨_, _, cap, h3, fun _ => rfl⟩
    | frz t e l =>
      simp only [Ent.slInfo, Option.some.injEq] at hq
      subst hq
      simp only [RE, RC] at hr
      obtain ⟨x, cap, h1, h2, h3⟩ := hr
      injection h1 with h1
      exact ⟨x, _, cap, h1, fun z => by obtain ⟨ad, rfl, _⟩ := h3 z; rfl⟩
  have pos : ∀ {α : Type} (l : List α), l.isEmpty = false → 0 < l.length := by
    intro α l hl
    cases l with
    | nil => simp at hl
    | cons => simp
  unfold slOf at hs
  split at hs
  · injection hs with hs
    subst hs
    obtain ⟨x, cap, h1, h2, h3⟩ := hv.sl_inv
    simp only [RC] at h3
    obtain ⟨x', cap', h4, _, h5⟩ := h3
    refine ⟨x, _, cap, h1, fun z => ?_⟩
    obtain ⟨ad, h6, _⟩ := h5 (pos _ z)
    rw [h1] at h4
    injection h4 with h4
    injection h4 with h4
    rw [h4, h6]
    rfl
  · rename_i d
    split at hs
    · rename_i t e l hd
      injection hs with hs
      subst hs
      cases hv with
      | own he hq =>
        obtain ⟨x, n, cap, h1, h2⟩ := key _ _ (e, l.length) (hk.get _ _ hd) rfl
        exact ⟨x, n, cap, by rw [hq _ _ (hk.get _ _ hd) rfl, h1], fun z => h2 (pos _ z)⟩
    · rename_i t e l hd
      injection hs with hs
      subst hs
      cases hv with
      | own he hq =>
        obtain ⟨x, n, cap, h1, h2⟩ := key _ _ (e, l.length) (hk.get _ _ hd) rfl
        exact ⟨x, n, cap, by rw [hq _ _ (hk.get _ _ hd) rfl, h1], fun z => h2 (pos _ z)⟩
    · simp at hs
  · simp at hs

theorem eqGuard_slice (op : BinOp) (t : TypeId) (x y : Operand) (p : Option Addr) (n c : Nat) : (eqGuard op t x y (.slice p n c) (.slice none 0 0)).run P w = .ok () w := by
  cases op <;> simp [eqGuard]

theorem binC_ok (h : Rel S I w0 E T st a w) (hL : ∀ q ∈ L, a.tmps.getD q.1 undef = .bool q.2) {look : Nat → Option Ent} {dst : Nat} (hk : LookOk st look dst) {op : BinOp} {t u : TypeId} {x y : Operand} (ho : o.op = .binOp op t x y u)
    (hb : binC P look op t (st.ev L x) (st.ev L y) = some r) : OpOk P S I w0 E T st a w o r [] := by
  have hx := ev_RV h hL x
  have hy := ev_RV h hL y
  have done : ∀ z, (do eqGuard op t x y (a.eval x) (a.eval y); binOp op t (a.eval x) (a.eval y) : Sem Value).run P w = .ok z w → RV E (hget st.hp) w T r z → OpOk P S I w0 E T st a w o r [] := by
    intro z h1 h2
    refine OpOk.pure h ?_ h2
    simp only [execOp, ho]
    exact run_v h1
  have hagg : ∀ (cs ds : List AV) (b : Bool), RV E (hget st.hp) w T (.agg cs) (a.eval x) → RV E (hget st.hp) w T (.agg ds) (a.eval y) → P.eqGuardType P.depth t = false → isAggT P t = some true → eqCells P depthT t cs ds = some b →
      ∃ xs ys, a.eval x = .agg xs ∧ a.eval y = .agg ys ∧ (eqGuard op t x y (.agg xs) (.agg ys)).run P w = .ok () w ∧ (Op.equalIn 10000 t (.agg xs) (.agg ys)).run P w = .ok b w := by
    intro cs ds b h1 h2 h3 hg h4
    generalize a.eval x = u1 at h1
    generalize a.eval y = u2 at h2
    cases h1 with
    | @agg _ us l1 q1 =>
      cases h2 with
      | @agg _ vs l2 q2 =>
        exact ⟨_, _, rfl, rfl, run_eqGuard_agg w op t x y _ _ h3, eqCells_ok (E := E) (hp := hget st.hp) (w := w) (T := T) depthT t cs ds b us vs h4 (AllR.of_at l1 q1) (AllR.of_at l2 q2) true 9960 hg⟩
  have hnil : ∀ (av : AV) (s : SlV) (b0 : Bool), st.ev L x = av → st.ev L y = .nil → slOf look av = some s → ∃ z n c, a.eval x = .slice z n c ∧ a.eval y = .slice none 0 0 ∧ (s.l.isEmpty = false → z.isNone = false) := by
    intro av s b0 h1 h2 h3
    rw [h1] at hx
    rw [h2] at hy
    obtain ⟨z, n, c, q1, q2⟩ := slOf_some h hk hx h3
    generalize a.eval y = u2 at hy
    cases hy
    exact ⟨z, n, c, q1, rfl, q2⟩
  unfold binC at hb
  split at hb
  · rename_i cs ds e1 e2
    split at hb
    · rename_i b h1 h2 h3
      injection hb with hb
      subst hb
      rw [e1] at hx
      rw [e2] at hy
      obtain ⟨xs, ys, q1, q2, q3, q4⟩ := hagg cs ds b hx hy h1 h2 h3
      refine done (.bool b) ?_ (RV_bool _)
      rw [q1, q2, Sem.run_bind, q3]
      simp only [Result.andThen_ok]
      rw [run_eql_struct, q4]
      rfl
    · simp at hb
  · rename_i cs ds e1 e2
    split at hb
    · rename_i b h1 h2 h3
      injection hb with hb
      subst hb
      rw [e1] at hx
      rw [e2] at hy
      obtain ⟨xs, ys, q1, q2, q3, q4⟩ := hagg cs ds b hx hy h1 h2 h3
      refine done (.bool (!b)) ?_ (RV_bool _)
      rw [q1, q2, Sem.run_bind, q3]
      simp only [Result.andThen_ok]
      rw [run_neq_struct, q4]
      rfl
    · simp at hb
  · rename_i av av2 e2
    split at hb
    · rename_i et s h1 h2
      injection hb with hb
      subst hb
      obtain ⟨z, n, c, q1, q2, q3⟩ := hnil _ s true rfl e2 h2
      refine done (.bool z.isNone) ?_ (.unk q3)
      rw [q1, q2, Sem.run_bind, eqGuard_slice]
      simp only [Result.andThen_ok]
      exact Lib.run_eql_slice_nil w t et z n c 0 0 h1
    · simp at hb
  · rename_i av av2 e2
    split at hb
    · rename_i et s h1 h2
      injection hb with hb
      subst hb
      obtain ⟨z, n, c, q1, q2, q3⟩ := hnil _ s true rfl e2 h2
      refine done (.bool (!z.isNone)) ?_ (.unk fun hh => by rw [q3 hh]; rfl)
      rw [q1, q2, Sem.run_bind, eqGuard_slice]
      simp only [Result.andThen_ok]
      exact run_neq_slice_nil_any w t et z n c 0 0 h1
    · simp at hb
  · simp at hb
theorem RV.err_inv {hp : Nat → Option Ent} {b : Bool} {v : Value} (h : RV E hp w T (.val .err b) v) : (b = true ∧ v = .nilIface) ∨ (b = false ∧ ∃ t u, v = .iface t u) := by
  cases h with
  | val h =>
    simp only [RC] at h
    rcases h with ⟨h1, h2⟩ | ⟨h1, t, u, h2⟩
    · exact .inl ⟨h1, by injection h2⟩
    · exact .inr ⟨h1, t, u, by injection h2⟩

theorem binN_ok (h : Rel S I w0 E T st a w) (hL : ∀ q ∈ L, a.tmps.getD q.1 undef = .bool q.2) {op : BinOp} {t u : TypeId} {x y : Operand} (ho : o.op = .binOp op t x y u)
    (hb : binN P op t (isCon y) (st.ev L x) (st.ev L y) = some r) : OpOk P S I w0 E T st a w o r [] := by
  have hx := ev_RV h hL x
  have hy := ev_RV h hL y
  have done : ∀ z, (do eqGuard op t x y (a.eval x) (a.eval y); binOp op t (a.eval x) (a.eval y) : Sem Value).run P w = .ok z w → RV E (hget st.hp) w T r z → OpOk P S I w0 E T st a w o r [] := by
    intro z h1 h2
    refine OpOk.pure h ?_ h2
    simp only [execOp, ho]
    exact run_v h1
  have hm : ∀ {ms}, P.underlying t = some (.interface ms) → P.underlying t = some (.interface (P.methodsAt t)) := fun {ms} hu => by
    have : P.methodsAt t = ms := by unfold Program.methodsAt; rw [hu]
    rw [this]
    exact hu
  have guard : ∀ {op : BinOp} {u v : Value}, isCon y = true → (v = .nilIface) → (eqGuard op t x y u v).run P w = .ok () w := by
    intro op u v hc hv
    subst hv
    have hyc : ∃ c, y = .const c := by cases y <;> first | exact ⟨_, rfl⟩ | (simp [isCon] at hc)
    obtain ⟨c, rfl⟩ := hyc
    unfold eqGuard
    cases op <;> cases u <;> simp
  unfold binN at hb
  split at hb
  · rename_i b1 b2 e1 e2
    split at hb
    · rename_i ms hu
      cases hc : (isCon y && b2) with
      | false => rw [hc] at hb; simp at hb
      | true =>
        rw [hc] at hb
        simp only [cond_true, Option.some.injEq] at hb
        subst hb
        simp only [Bool.and_eq_true] at hc
        rw [e1] at hx
        rw [e2] at hy
        have hy' : a.eval y = .nilIface := by
          rcases hy.err_inv with ⟨_, h2⟩ | ⟨h2, _⟩
          · exact h2
          · rw [hc.2] at h2; simp at h2
        refine done (.bool b1) ?_ (RV_bool _)
        rw [Sem.run_bind, guard hc.1 hy', hy']
        simp only [Result.andThen_ok]
        rcases hx.err_inv with ⟨h1, h2⟩ | ⟨h1, t', u', h2⟩
        · rw [h1, h2]; exact run_eql_nil_nil w t (hm hu)
        · rw [h1, h2]; exact run_eql_held_nil w t t' u' (hm hu)
    · simp at hb
  · rename_i b1 b2 e1 e2
    split at hb
    · rename_i ms hu
      cases hc : (isCon y && b2) with
      | false => rw [hc] at hb; simp at hb
      | true =>
        rw [hc] at hb
        simp only [cond_true, Option.some.injEq] at hb
        subst hb
        simp only [Bool.and_eq_true] at hc
        rw [e1] at hx
        rw [e2] at hy
        have hy' : a.eval y = .nilIface := by
          rcases hy.err_inv with ⟨_, h2⟩ | ⟨h2, _⟩
          · exact h2
          · rw [hc.2] at h2; simp at h2
        refine done (.bool (!b1)) ?_ (RV_bool _)
        rw [Sem.run_bind, guard hc.1 hy', hy']
        simp only [Result.andThen_ok]
        rcases hx.err_inv with ⟨h1, h2⟩ | ⟨h1, t', u', h2⟩
        · rw [h1, h2]; exact run_neq_nil_nil w t (hm hu)
        · rw [h1, h2]; exact run_neq_held_nil w t t' u' (hm hu)
    · simp at hb
  · simp at hb

end ops
end Go.Ra

namespace Go.Ra
set_option linter.unusedSectionVars false
variable [Known]

section ops
variable {P : Program} {S I : Nat → Prop} {w0 : World} {E : Env} {T : Nat → Prop} {st : St} {a : Act} {w : World} {o : Oper} {r : AV} {L : Lits}

theorem sameOp_eq {x y : Operand} (h : sameOp x y = true) : x = y := by
  unfold sameOp at h
  split at h
  · rw [Nat.eq_of_beq_eq_true h]
  · simp at h

theorem storeA_ok (h : Rel S I w0 E T st a w) (hL : ∀ q ∈ L, a.tmps.getD q.1 undef = .bool q.2) {look : Nat → Option Ent} {dst : Nat} (hk : LookOk st look dst) {t : TypeId} {x y : Operand} {cs : List Bool} {up : Heap} (ho : o.op = .store t x y)
    (hv : storeA P look t (st.ev L x) (st.ev L y) = some (cs, r, up)) : OpOk P S I w0 E T st a w o r up := by
  unfold storeA at hv
  split at hv
  · simp at hv
  · rename_i n hn
    cases hb : (Nat.beq (st.ev L y).cells.length n && (st.ev L y).cells.all (cellOk look)) with
    | false => rw [hb] at hv; simp at hv
    | true =>
      rw [hb] at hv
      simp only [cond_true] at hv
      simp only [Bool.and_eq_true] at hb
      have e1 := Nat.eq_of_beq_eq_true hb.1
      split at hv
      · rename_i d of hx
        split at hv
        · rename_i t' bs hd
          cases hb2 : Nat.ble (of + n) bs.length with
          | false => rw [hb2] at hv; simp at hv
          | true =>
            rw [hb2] at hv
            simp only [cond_true, Option.some.injEq, Prod.mk.injEq] at hv
            obtain ⟨rfl, rfl, rfl⟩ := hv
            exact storeBox_ok h hL hk ho hn e1 hb.2 hx hd (Nat.le_of_ble_eq_true hb2)
        · simp at hv
      · rename_i d i of hx
        split at hv
        · rename_i t' e l hd
          split at hv
          · rename_i z hz
            cases hb2 : (Nat.ble (of + n) e.n && !memN d (st.ev L y).owns) with
            | false => rw [hb2] at hv; simp at hv
            | true =>
              rw [hb2] at hv
              simp only [cond_true, Option.some.injEq, Prod.mk.injEq] at hv
              obtain ⟨rfl, rfl, rfl⟩ := hv
              simp only [Bool.and_eq_true, Bool.not_eq_true'] at hb2
              exact storeElt_ok h hL hk ho hn e1 hb.2 hx hd hz (Nat.le_of_ble_eq_true hb2.1) hb2.2
          · simp at hv
        · rename_i t' l hd
          split at hv
          · rename_i z hy
            cases hb2 : (Nat.beq of 0 && Nat.beq n 1) with
            | false => rw [hb2] at hv; simp at hv
            | true =>
              rw [hb2] at hv
              simp only [cond_true, Option.some.injEq, Prod.mk.injEq] at hv
              obtain ⟨rfl, rfl, rfl⟩ := hv
              simp only [Bool.and_eq_true] at hb2
              have e2 := Nat.eq_of_beq_eq_true hb2.1
              have e3 := Nat.eq_of_beq_eq_true hb2.2
              subst e2
              subst e3
              exact storeCv_ok h hL hk ho hn hx hy hd
          · simp at hv
        · simp at hv
      · simp at hv

theorem buildA_ok (h : Rel S I w0 E T st a w) (hL : ∀ q ∈ L, a.tmps.getD q.1 undef = .bool q.2) {look : Nat → Option Ent} {dst : Nat} (hk : LookOk st look dst) {t : TypeId} {parts : Array (Nat × Operand)} {cs : List Bool} {up : Heap} (ho : o.op = .build t parts)
    (hv : buildA P look t (parts.toList.map fun p => (p.1, st.ev L p.2)) = some (cs, r, up)) : OpOk P S I w0 E T st a w o r up := by
  unfold buildA at hv
  split at hv
  · simp at hv
  · rename_i inf hi
    split at hv
    · simp at hv
    · rename_i z hz
      split at hv
      · rename_i cs' fs hcs hu
        cases hb : (fs.toList.all fun f => (szT P f.type).isSome) with
        | false => rw [hb] at hv; simp at hv
        | true =>
          rw [hb] at hv
          simp only [cond_true] at hv
          split at hv
          · rename_i cs2 hf
            simp only [Option.some.injEq, Prod.mk.injEq] at hv
            obtain ⟨rfl, rfl, rfl⟩ := hv
            exact buildStruct_ok h hL hk ho hi hz hcs hu hb hf
          · simp at hv
      · rename_i cs' m et hcs hu
        split at hv
        · rename_i n hn
          split at hv
          · rename_i cs2 hf
            simp only [Option.some.injEq, Prod.mk.injEq] at hv
            obtain ⟨rfl, rfl, rfl⟩ := hv
            exact buildArray_ok h hL hk ho hi hz hcs hu hn hf
          · simp at hv
        · simp at hv
      · simp at hv

theorem makeA_ok (h : Rel S I w0 E T st a w) (hL : ∀ q ∈ L, a.tmps.getD q.1 undef = .bool q.2) {look : Nat → Option Ent} {dst : Nat} (hk : LookOk st look dst) {t : TypeId} {x y : Operand} {cs : List Bool} {up : Heap} (ho : o.op = .makeSlice t x y)
    (hv : makeA P look dst t (sameOp x y) (st.ev L x) (st.ev L y) = some (cs, r, up)) (hc : ∀ b ∈ cs, b = true) : OpOk P S I w0 E T st a w o r up := by
  unfold makeA at hv
  split at hv
  · rename_i n m et e by_ hx hy hr hn
    simp only [Option.some.injEq, Prod.mk.injEq] at hv
    obtain ⟨rfl, rfl, rfl⟩ := hv
    have h0 : decide (0 ≤ n) = true := hc _ (by simp)
    have h2 : decide (m.toNat ≤ 140737488355328 / by_) = true := hc _ (by simp)
    have h1 : n ≤ m := by
      cases hs : sameOp x y with
      | true =>
        have := sameOp_eq hs
        subst this
        rw [hx] at hy
        injection hy with _ hy
        exact Int.le_of_eq hy
      | false =>
        have : decide (n ≤ m) = true := hc _ (by rw [hs]; simp)
        exact of_decide_eq_true this
    exact make_ok h hL hk ho hx hy hr hn (of_decide_eq_true h0) h1 (of_decide_eq_true h2)
  · simp at hv

theorem builtinA_ok (h : Rel S I w0 E T st a w) (hL : ∀ q ∈ L, a.tmps.getD q.1 undef = .bool q.2) {look : Nat → Option Ent} {dst : Nat} (hk : LookOk st look dst) {b : Builtin} {xs : Array Operand} {ts : Array TypeId} {cs : List Bool} {up : Heap} (ho : o.op = .call { callee := .builtin b, args := xs, argTypes := ts })
    (hv : builtinA P look dst b ts.toList (xs.toList.map (st.ev L)) = some (cs, r, up)) (hc : ∀ b ∈ cs, b = true) : OpOk P S I w0 E T st a w o r up := by
  unfold builtinA at hv
  split at hv
  · rename_i t tr x hts hxs
    split at hv
    · rename_i v hl
      simp only [Option.some.injEq, Prod.mk.injEq] at hv
      obtain ⟨rfl, rfl, rfl⟩ := hv
      exact len_ok h hL hk ho hts hxs hl
    · simp at hv
  · rename_i t t2 s x hts hxs
    cases hb : Nat.beq t t2 with
    | false => rw [hb] at hv; simp at hv
    | true =>
      rw [hb] at hv
      have := Nat.eq_of_beq_eq_true hb
      subst this
      exact append_ok h hL hk ho hts hxs hv hc
  · rename_i k m rest hxs
    split at hv
    · rename_i n hn
      simp only [Option.some.injEq, Prod.mk.injEq] at hv
      obtain ⟨rfl, rfl, rfl⟩ := hv
      exact max_ok (b := true) h hL ho hxs hn
    · simp at hv
  · rename_i k m rest hxs
    split at hv
    · rename_i n hn
      simp only [Option.some.injEq, Prod.mk.injEq] at hv
      obtain ⟨rfl, rfl, rfl⟩ := hv
      exact max_ok (b := false) h hL ho hxs hn
    · simp at hv
  · simp at hv

theorem opVal_ok (h : Rel S I w0 E T st a w) (hL : ∀ q ∈ L, a.tmps.getD q.1 undef = .bool q.2) {look : Nat → Option Ent} {dst : Nat} (hk : LookOk st look dst) {keep : Bool} {cs : List Bool} {up : Heap}
    (hv : opVal P look dst keep L st.ev o.op = some (cs, r, up)) (hc : ∀ b ∈ cs, b = true) : OpOk P S I w0 E T st a w o r up := by
  generalize ho : o.op = op at hv
  unfold opVal at hv
  split at hv
  · simp only [Option.some.injEq, Prod.mk.injEq] at hv
    obtain ⟨rfl, rfl, rfl⟩ := hv
    exact move_ok h hL (.inl ho)
  · simp only [Option.some.injEq, Prod.mk.injEq] at hv
    obtain ⟨rfl, rfl, rfl⟩ := hv
    exact move_ok h hL (.inr ho)
  · rename_i c x y
    split at hv
    · rename_i t
      split at hv
      · rename_i b hb
        split at hv
        · rename_i v hm
          simp only [Option.some.injEq, Prod.mk.injEq] at hv
          obtain ⟨rfl, rfl, rfl⟩ := hv
          exact pick_ok h hL ho hb hm
        · simp at hv
      · simp at hv
    · simp at hv
  · rename_i t
    split at hv
    · rename_i i hi hn
      split at hv
      · rename_i z hz
        split at hv
        · rename_i bs hb
          simp only [Option.some.injEq, Prod.mk.injEq] at hv
          obtain ⟨rfl, rfl, rfl⟩ := hv
          exact alloc_ok h hk ho hi hz hb hn
        · split at hv
          · rename_i e hb
            cases keep with
            | true =>
              simp only [cond_true, Option.some.injEq, Prod.mk.injEq] at hv
              obtain ⟨rfl, rfl, rfl⟩ := hv
              exact allocBld0_ok h hk ho hi hz hb hn
            | false =>
              simp only [cond_false, Option.some.injEq, Prod.mk.injEq] at hv
              obtain ⟨rfl, rfl, rfl⟩ := hv
              exact allocBld_ok h hk ho hi hz hb hn
          · simp at hv
      · simp at hv
    · simp at hv
  · rename_i t x
    split at hv
    · rename_i hn
      cases hb : (st.ev L x).cells.all (cellOk look) with
      | false => rw [hb] at hv; simp at hv
      | true =>
        rw [hb] at hv
        simp only [cond_true, Option.some.injEq, Prod.mk.injEq] at hv
        obtain ⟨rfl, rfl, rfl⟩ := hv
        exact box_ok h hL hk ho hb hn
    · simp at hv
  · rename_i t parts
    exact buildA_ok h hL hk ho hv
  · rename_i t len parts
    split at hv
    · exact buildSlice_ok h hL hk ho hv
    · exact buildSliceF_ok h hL hk ho hv
  · rename_i t x
    split at hv
    · rename_i g n bs h1 h2 h3
      split at hv
      · rename_i v h4
        simp only [Option.some.injEq, Prod.mk.injEq] at hv
        obtain ⟨rfl, rfl, rfl⟩ := hv
        exact loadOp_ok h hL hk ho h1 h2 h3 h4
      · simp at hv
    · simp at hv
  · rename_i t x y
    exact storeA_ok h hL hk ho hv
  · rename_i x
    split at hv
    · rename_i hp
      simp only [Option.some.injEq, Prod.mk.injEq] at hv
      obtain ⟨rfl, rfl, rfl⟩ := hv
      obtain ⟨ad, h1, _⟩ := isPtr_ok hk (ev_RV h hL x) hp
      exact nilCheck_ok h hL ho rfl ⟨ad, h1⟩
    · simp at hv
  · rename_i op t x y u
    split at hv
    · rename_i bs v hb
      simp only [Option.some.injEq, Prod.mk.injEq] at hv
      obtain ⟨rfl, rfl, rfl⟩ := hv
      exact binOp_ok h hL ho hb hc
    · split at hv
      · rename_i v hb
        simp only [Option.some.injEq, Prod.mk.injEq] at hv
        obtain ⟨rfl, rfl, rfl⟩ := hv
        exact binOpB_ok h hL ho hb
      · split at hv
        · rename_i v hb
          simp only [Option.some.injEq, Prod.mk.injEq] at hv
          obtain ⟨rfl, rfl, rfl⟩ := hv
          exact binN_ok h hL ho hb
        · split at hv
          · rename_i v hb
            simp only [Option.some.injEq, Prod.mk.injEq] at hv
            obtain ⟨rfl, rfl, rfl⟩ := hv
            exact binC_ok h hL hk ho hb
          · simp at hv
  · rename_i op t x
    split at hv
    · rename_i v hb
      simp only [Option.some.injEq, Prod.mk.injEq] at hv
      obtain ⟨rfl, rfl, rfl⟩ := hv
      exact unOp_ok h hL ho hb
    · simp at hv
  · exact convert_ok h hL hk ho hv
  · exact makeA_ok h hL hk ho hv hc
  · exact slice_ok h hL hk ho hv hc
  · rename_i s x f
    split at hv
    · rename_i fl hf
      split at hv
      · rename_i m hs hp
        simp only [Option.some.injEq, Prod.mk.injEq] at hv
        obtain ⟨rfl, rfl, rfl⟩ := hv
        exact fieldAddr_ok h hL ho hf hs hk hp
      · simp at hv
    · simp at hv
  · rename_i s x f
    split at hv
    · rename_i fl bs hf hx
      split at hv
      · rename_i g n h1 h2
        split at hv
        · rename_i v h4
          simp only [Option.some.injEq, Prod.mk.injEq] at hv
          obtain ⟨rfl, rfl, rfl⟩ := hv
          exact field_ok h hL ho hf hx h1 h2 h4
        · simp at hv
      · simp at hv
    · simp at hv
  · exact indexAddr_ok h hL hk ho hv hc
  · exact index_ok h hL hk ho hv hc
  · rename_i x i
    split at hv
    · rename_i vs hx
      split at hv
      · rename_i v hi
        simp only [Option.some.injEq, Prod.mk.injEq] at hv
        obtain ⟨rfl, rfl, rfl⟩ := hv
        exact extract_ok h hL ho hx hi
      · simp at hv
    · simp at hv
  · rename_i f first caps
    split at hv
    · rename_i hf
      simp only [Option.some.injEq, Prod.mk.injEq] at hv
      obtain ⟨rfl, rfl, rfl⟩ := hv
      exact makeFunc_ok h hL ho hf
    · split at hv
      · rename_i hc2
        simp only [Option.some.injEq, Prod.mk.injEq] at hv
        obtain ⟨rfl, rfl, rfl⟩ := hv
        exact makeMth_ok h hL ho hc2
      · simp at hv
  · exact builtinA_ok h hL hk ho hv hc
  · simp at hv

end ops
end Go.Ra
