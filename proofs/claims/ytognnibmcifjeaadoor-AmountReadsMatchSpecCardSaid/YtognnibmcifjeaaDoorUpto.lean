import Derived.Test.YtognnibmcifjeaaDoorK4
import Derived.JoinedCond
/-! RA: a law's row whose arguments are of bounded bulk; its first argument is a string. -/
namespace Go.Ra
set_option linter.unusedSectionVars false
variable [Known]
open Go.ChangeShapes Go.WideShapes Go.RowKit

/-- The first of the data, if it is a string, has at most so many bytes. -/
def HeadLe (N : Nat) (l : List DV) : Prop := ∀ s : ByteArray, l.head? = some ⟨.str, s⟩ → s.size ≤ N

theorem law_contract_upto {C : Checked} {A : An} {u n N : Nat} {fn : Func} {s : ChangeSpec} {es : ES} {rt t0 : TypeId} {ts : List TypeId} {ps : List PM} {H : Type} {enc : TypeId × Value → H} {kk : (H : Type) → List (DataW H) → Bool}
    (hmix : C.prog.follows .mixedOrders = true) (hgv : ∀ u g, A.gv u = some g → Sound C.prog (A.var u) g) (hpr : ∀ f p, A.pr f = some p → PrimOk C.prog f p)
    (hl : laidOutB C.prog = true) (hes : esL C.prog n (A.var u).par fn.params.toList = some es) (hrd : rdL C.prog fn.params.toList = true)
    (hret : (A.var u).ret = [.byv .bool]) (hrt : fn.resultTypes = #[rt]) (hb : C.prog.underlying rt = some .bool)
    (hvars : s.vars = []) (hvt : s.plain.varTypes C.prog = []) (hspec : ∀ ds : List (DataW H), ds.length = fn.params.size → (s.fn H (ds ++ [])).results = [.lit (.bool true)] ∧ (s.fn H (ds ++ [])).args = ds ∧ (s.fn H (ds ++ [])).vars = [])
    (hpar : fn.params.toList = t0 :: ts) (hstr : C.prog.underlying t0 = some .string) (hp0 : (A.var u).par = .byv .str :: ps) (hkk : ∀ (b : List UInt8) (ds : List (DataW H)), kk H (.lit (.string b) :: ds) = true → b.length ≤ N)
    (hpure : ∀ x, wfE es _ x → HeadLe N (unT (A.var u).parEs x) → ∃ k y, callA C.prog A k u x = some y ∧ unT (A.var u).retEs y = [⟨.bool, true⟩])
    {W : World} {base : Nat} {args : Array Value} {ds gs : List (DataW H)} {before : List MemPlace} (hval : ∀ (j : Nat) t v, fn.params[j]? = some t → args[j]? = some v → Value.okWide C.prog W .any base t v)
    (hW : DataW.Whole enc C.prog fn.params.toList s.vars false W args.toList ds gs before) (hk : kk H (ds ++ gs) = true) (hsz : (DataW.weightsEach C.prog (fn.params.toList ++ s.plain.varTypes C.prog) (ds ++ gs)).all (· ≤ reachBytes) = true)
    (hkn : Known.K W (fun b => Inside W b ∧ ¬ False)) : Calls C.prog (A.var u).f args W fun e W' => ∃ v, e = .returned v ∧ s.post enc C.prog fn false true false false W args v W' := by
  have hW' := hW
  obtain ⟨p, q, hA, hV, rfl, hfz, hnd⟩ := hW
  rw [hvars] at hV
  obtain ⟨rfl, rfl⟩ := trodVars_none hV
  rw [hvt] at hsz
  simp only [List.append_nil] at hsz
  obtain ⟨q1, ⟨x, q2, q3⟩, q4⟩ := hand_args hl hes hrd hA (fun j t v a b => ⟨_, _, hval j t v (by simpa using a) (by simpa using b)⟩) (fun m hm => by
    have := List.all_eq_true.1 hsz m hm
    simpa [reachBytes] using of_decide_eq_true this)
  have hle : HeadLe N (unT (A.var u).parEs x) := by
    intro z hz
    have hA' := hA
    rw [hpar] at hA'
    obtain ⟨v, vs', d, ds', p1, p2, e1, e2, e3, h1, h2⟩ := trodAll_cons hA'
    obtain ⟨fu, hf⟩ := h1
    obtain ⟨b, hb1, hb2, hb3⟩ := DataW.trod_string hstr hf
    have hv : v = .string b := by
      have ha0 : args[0]? = some v := by
        rw [← Array.getElem?_toList, e1]; rfl
      have ht0 : fn.params[0]? = some t0 := by
        rw [← Array.getElem?_toList, hpar]; rfl
      obtain ⟨b', hb'⟩ := okWide_string hstr (hval 0 t0 v ht0 ha0)
      subst hb'
      simpa [Value.cells] using hb1
    have hd : d = .lit (.string b.data.toList) := congrArg Prod.fst hb2
    rw [e2, hd] at hk
    have hbn := hkk b.data.toList (ds' ++ []) (by simpa using hk)
    have q3' : AllR3 (HandOk W (Inside W)) (A.var u).par (unT (A.var u).parEs x) args.toList := q3
    rw [hp0, e1] at q3'
    cases hu : unT (A.var u).parEs x with
    | nil => rw [hu] at hz; cases hz
    | cons d0 dr =>
      rw [hu] at hz
      have ed : d0 = ⟨.str, z⟩ := by simpa using hz
      rw [hu, ed] at q3'
      obtain ⟨⟨y, hy1, hy2⟩, _⟩ := q3'
      have hyz : z = y := by
        injection hy1 with _ h
      have hy3 : v = .string y := by
        have : RC W (Inside W) .str y [v] := hy2
        simpa only [RC, List.cons.injEq, and_true] using this
      rw [hv] at hy3
      have : b = y := by simpa using hy3
      rw [hyz, ← this]
      rw [Array.length_toList] at hbn
      exact hbn
  obtain ⟨k, y, h1, h2⟩ := hpure x q2 hle
  have hH : Handed W (Inside W) (fun _ => False) (A.var u).par (unT (A.var u).parEs x) args.toList := ⟨q3, by rw [q1]; simp, by rw [q1]; simp, fun _ z => z, hkn⟩
  refine (law_calls hmix hgv hpr hret h1 h2 hH).mono fun e W' ⟨he, bel⟩ => ?_
  subst he
  have hlen : ds.length = fn.params.size := by
    have := (trodAll_len hA)
    simpa using this
  obtain ⟨z1, z2, z3⟩ := hspec ds hlen
  refine ⟨_, rfl, _, _, _, [], p, [], hW', ?_, ?_, ?_, bel.frame _, fun h => by cases h⟩
  · rw [z1, hrt]
    exact trodAll_mk1 (shut_bool hb _)
  · rw [z2]
    exact q4 W' bel
  · rw [hvars, z3]
    exact rfl

theorem law_upto {C : Checked} {A : An} {u n N : Nat} {fn : Func} {s : ChangeSpec} {es : ES} {rt t0 : TypeId} {ts : List TypeId} {ps : List PM} {os : Os} {H : Type} {enc : TypeId × Value → H} {kk : (H : Type) → List (DataW H) → Bool} (laid : List (String × DataW Unit))
    (hmix : C.prog.follows .mixedOrders = true) (hgv : ∀ u g, A.gv u = some g → Sound C.prog (A.var u) g) (hpr : ∀ f p, A.pr f = some p → PrimOk C.prog f p)
    (own : ownKnob C.prog.godebug = none) (started : os.Started) (noInit : C.prog.inits.idxOf? (A.var u).f = none) (hfn : C.prog.funcs[(A.var u).f]? = some fn)
    (hl : laidOutB C.prog = true) (hes : esL C.prog n (A.var u).par fn.params.toList = some es) (hrd : rdL C.prog fn.params.toList = true)
    (hret : (A.var u).ret = [.byv .bool]) (hrt : fn.resultTypes = #[rt]) (hb : C.prog.underlying rt = some .bool)
    (hvars : s.vars = []) (hvt : s.plain.varTypes C.prog = []) (hspec : ∀ ds : List (DataW H), ds.length = fn.params.size → (s.fn H (ds ++ [])).results = [.lit (.bool true)] ∧ (s.fn H (ds ++ [])).args = ds ∧ (s.fn H (ds ++ [])).vars = [])
    (hpar : fn.params.toList = t0 :: ts) (hstr : C.prog.underlying t0 = some .string) (hp0 : (A.var u).par = .byv .str :: ps) (hkk : ∀ (b : List UInt8) (ds : List (DataW H)), kk H (.lit (.string b) :: ds) = true → b.length ≤ N)
    (hpure : ∀ x, wfE es _ x → HeadLe N (unT (A.var u).parEs x) → ∃ k y, callA C.prog A k u x = some y ∧ unT (A.var u).retEs y = [⟨.bool, true⟩]) (hkn : ∀ W : World, W.ShapedOpen C.prog → laidMetH C.prog laid W → Known.K W (fun b => Inside W b ∧ ¬ False))
    (witness : ∃ (w : World) (tape : Tape) (i : Input), w.os = os ∧ (w.forCall tape i).Shaped C.prog ∧ i.vars = [] ∧ Input.okWide C.prog (w.forCall tape i) .any w.heap.size (A.var u).f i ∧
      ((({ OpenSpec.ofChange s with cond := some kk } : OpenSpec).pre enc C.prog fn [] false (w.forCall tape i).memory i.args ∧ laidMetH C.prog laid (w.forCall tape i).memory) ∧ sizedMet enc C.prog fn ({ OpenSpec.ofChange s with cond := some kk } : OpenSpec) false (w.forCall tape i).memory i.args) ∧ Assume.holds {} C.prog (lone (Frame.enter C.prog (A.var u).f i.args .normal) [] (w.forCall tape i))) :
    ReturnsInHanded {} C os (A.var u).f .any (fun w args => (({ OpenSpec.ofChange s with cond := some kk } : OpenSpec).pre enc C.prog fn [] false w args ∧ laidMetH C.prog laid w) ∧ sizedMet enc C.prog fn ({ OpenSpec.ofChange s with cond := some kk } : OpenSpec) false w args) (s.post enc C.prog fn false true false false) := by
  refine returnsInHanded_of_calls own started noInit witness ?_
  intro w tape i _ hsh _ hok hpre hholds
  obtain ⟨_, _, _, fn', hfn', _, _, _, _, hval⟩ := hok
  have e : fn' = fn := Option.some.inj (hfn'.symm.trans hfn)
  subst e
  obtain ⟨⟨⟨ds, gs, before, hw, hc, hk⟩, hx⟩, hz⟩ := hpre
  have hw' := DataW.Whole.of_heap (w' := w.forCall tape i) (by rfl) hw
  have hx' : laidMetH C.prog laid (w.forCall tape i) := hx.of_heap (by rfl)
  have hz' : sizedMet enc C.prog fn' (OpenSpec.ofChange s) false (w.forCall tape i).memory i.args := hz
  refine (law_contract_upto (W := w.forCall tape i) (base := w.heap.size) (args := i.args) (ds := ds) (gs := gs) (before := before) (kk := kk) hmix hgv hpr hl hes hrd hret hrt hb hvars hvt hspec hpar hstr hp0 hkk hpure hval hw' hk (hz'.weights hw) (hkn _ hsh hx')).mono fun e W' ⟨v, he, hp⟩ => ?_
  subst he
  exact ChangeSpec.post_blind hp

theorem witness_upto {H : Type} {enc : TypeId × Value → H} {C : Checked} {os : Os} {f : FuncId} {fn : Func} {s : ChangeSpec} {kk : (H : Type) → List (DataW H) → Bool} {X : World → Array Value → Prop} (w0 : World) (args : Array Value) (fuel : Nat) (hos : w0.os = os)
    (hsh : (w0.forCall (fun _ _ => 0) ⟨#[], args, []⟩).Shaped C.prog)
    (hok : Input.okWideB C.prog (w0.forCall (fun _ _ => 0) ⟨#[], args, []⟩) f ⟨#[], args, []⟩ = true)
    (hpre : (match DataW.whole enc C.prog (w0.forCall (fun _ _ => 0) ⟨#[], args, []⟩).memory fn.params.toList s.vars false args.toList fuel with
      | some x => kk H (x.1 ++ x.2.1)
      | none => false) = true)
    (hsz : s.sizedB enc C.prog fn false (w0.forCall (fun _ _ => 0) ⟨#[], args, []⟩).memory args fuel = true)
    (hx : X (w0.forCall (fun _ _ => 0) ⟨#[], args, []⟩).memory args) :
    ∃ (w : World) (tape : Tape) (i : Input), w.os = os ∧ (w.forCall tape i).Shaped C.prog ∧ i.vars = [] ∧ Input.okWide C.prog (w.forCall tape i) .any w.heap.size f i ∧
      ((({ OpenSpec.ofChange s with cond := some kk } : OpenSpec).pre enc C.prog fn [] false (w.forCall tape i).memory i.args ∧ X (w.forCall tape i).memory i.args) ∧ sizedMet enc C.prog fn ({ OpenSpec.ofChange s with cond := some kk } : OpenSpec) false (w.forCall tape i).memory i.args) ∧ Assume.holds {} C.prog (lone (Frame.enter C.prog f i.args .normal) [] (w.forCall tape i)) := by
  refine ⟨w0, fun _ _ => 0, ⟨#[], args, []⟩, hos, hsh, (Input.okWide_of_okWideB (base := 0) hok).1, (Input.okWide_of_okWideB hok).2, ⟨⟨?_, hx⟩, ?_⟩, by
    simp only [Assume.holds]
    exact ⟨by simp, by simp, fun h => (by cases h), by simp, by simp, by simp⟩⟩
  · split at hpre
    · rename_i x hx2
      exact ⟨x.1, x.2.1, x.2.2, DataW.Whole_of_whole hx2, rfl, hpre⟩
    · cases hpre
  · have : sizedMet enc C.prog fn (OpenSpec.ofChange s) false (w0.forCall (fun _ _ => 0) ⟨#[], args, []⟩).memory args := sizedMet_of_sizedB hsz
    exact this

/-! ### strings.Split: a row of its own -/
theorem strs_rows {w : World} {T : Nat → Prop} : ∀ l : List ByteArray, AllR (fun (x : ByteArray) r => RC w T .str x r) l (l.map fun s => [Value.string s])
  | [] => trivial
  | s :: l => ⟨by simp only [RC], strs_rows l⟩
theorem strs_flat (l : List ByteArray) : (l.map fun s => [Value.string s]).flatten = l.map Value.string := by
  induction l with
  | nil => rfl
  | cons s l ih => rw [List.map_cons, List.flatten_cons, ih]; rfl
def gSplit : ByteArray × ByteArray → Option (List ByteArray) := fun (a, b) => cond (decide (a.size < 4294967281) && decide (1 ≤ b.size)) (some (Lib.splitB b 0 (Lib.countB a b) a)) none
section
open Go.Shelf Go.Proofs
variable {P : Program} {ρ : Ren} {c : Nat → Option (List (Nat × CM))} {kp : Nat → Nat → Bool} {cl : Nat → Nat → Option Nat} {al : Nat → List (Nat × Nat)}
theorem sound_split {g : Nat} (L : LaysM.n146 P ρ) (hg : ρ.g 1 = g) (hK : ∀ w S, Known.K w S → KnowMax g w S) : Sound P ⟨ρ.f 146, [.byv .str, .byv .str], [.own (ρ.t 9) .str], c, kp, cl, al, 0⟩ gSplit := by
  intro x y hy w T I args hH
  obtain ⟨x1, x2⟩ := x
  have hok := hH.ok
  rcases args with ⟨l⟩
  match l, hok with
  | [v1, v2], ⟨⟨z1, q1, r1⟩, ⟨z2, q2, r2⟩, _⟩ =>
    cases q1
    cases q2
    cases fv_of (e := .str) rfl r1
    cases fv_of (e := .str) rfl r2
    have hy' : cond (decide ((x1 : ByteArray).size < 4294967281) && decide (1 ≤ (x2 : ByteArray).size)) (some (Lib.splitB x2 0 (Lib.countB x1 x2) x1)) none = some y := hy
    cases hc : (decide ((x1 : ByteArray).size < 4294967281) && decide (1 ≤ (x2 : ByteArray).size)) with
    | false => rw [hc] at hy'; cases hy'
    | true =>
      rw [hc] at hy'
      cases hy'
      simp only [Bool.and_eq_true, decide_eq_true_eq] at hc
      obtain ⟨h1, h2⟩ := hc
      obtain ⟨_, m, hm⟩ := hK w _ hH.kn
      have hlen := Lib.splitB_all x2 h2 0 _ x1 rfl
      have hle := Lib.countB_le x2 h2 x1.size x1 (Nat.le_refl _)
      have hml : (4294967281 : Nat) ≤ maxLen := by decide
      refine (Any.strings_Split { L with } L.i9 x1 x2 m w h1 (by rw [hg]; exact hm) h2).mono ?_
      rintro e w' ⟨rfl, rfl⟩
      have hown := World.ownsRow_lit (base := 0) (e := ρ.t 9) (size := 1) w ((Lib.splitB x2 0 (Lib.countB x1 x2) x1).map Value.string).toArray (Lib.countB x1 x2 + 1) (Nat.zero_le _) (by omega) (by simp [hlen])
      refine ⟨[.slice (some ⟨w.heap.size, 0, none⟩) (Lib.countB x1 x2 + 1) (Lib.countB x1 x2 + 1)], T, rfl, ⟨⟨rfl, rfl, rfl, ?_, fun k hk hk2 => ?_⟩, fun _ z => z, fun b z => ⟨.inl z, ?_⟩, ⟨⟨_, rfl, _, strs_rows _, ?_⟩, trivial⟩, trivial, ?_, ?_⟩⟩
      · simp
      · exact heap_alloc_old w _ (by omega)
      · have := hH.tb b z
        simp
        omega
      · rw [strs_flat, hlen]
        have hn : EK.str.n = 1 := rfl
        rw [hn]
        simpa using hown
      · simp [resH, backH, Value.ownBlock]
      · intro b hb
        have : b = w.heap.size := by simpa [resH, backH, Value.ownBlock] using hb
        subst this
        refine ⟨fun z => ?_, .inr (Nat.le_refl _), ?_⟩
        · have := hH.tb _ z
          omega
        · simp
end
end Go.Ra
