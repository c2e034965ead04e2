/- An interpreter of the program's code over data without memory, and numbers as lists of digits: definitions and plain facts, of no program. -/
import Derived.Calls
import Derived.KernelRfl

namespace Go.Ra

inductive EK where
  | unit | int (k : IntKind) | bool | str | err | sl (e : EK) | pair (a b : EK)
  deriving DecidableEq

abbrev EK.T : EK → Type
  | .unit => Unit
  | .int _ => Int
  | .bool => Bool
  | .str => ByteArray
  | .err => Bool
  | .sl e => List e.T
  | .pair a b => a.T × b.T

def EK.d : (e : EK) → e.T
  | .unit => ()
  | .int _ => (0 : Int)
  | .bool => false
  | .str => (⟨#[]⟩ : ByteArray)
  | .err => true
  | .sl _ => []
  | .pair a b => (a.d, b.d)

def EK.n : EK → Nat
  | .unit => 0
  | .pair a b => a.n + b.n
  | _ => 1

def EK.hasSl : EK → Bool
  | .sl _ => true
  | .pair a b => a.hasSl || b.hasSl
  | _ => false

def tupEK : List EK → EK
  | [] => .unit
  | [e] => e
  | e :: f :: r => .pair e (tupEK (f :: r))

def strEK : List EK → EK
  | [] => .unit
  | [e] => .pair e .unit
  | e :: f :: r => tupEK (e :: f :: r)

abbrev Lits := List (Nat × Bool)

inductive AV where
  | val (e : EK) (x : e.T)
  | nil
  | agg (cs : List AV)
  | tup (vs : List AV)
  | ptr (d o : Nat)
  | own (d : Nat)
  | elt (d : Nat) (i : Int) (o : Nat)
  | rel (cs : List AV)
  | fn (f : FuncId) (caps : List AV)
  | mth (f : FuncId) (first : List AV)
  | gd (L : Lits) (v : AV)
  | unk (c b : Bool)
  | junk

inductive Ent where
  | box (t : TypeId) (cs : List AV)
  | sl (t : TypeId) (e : EK) (l : List e.T)
  | frz (t : TypeId) (e : EK) (l : List e.T)
  | bld (t e : TypeId) (s : ByteArray)
  | bld0 (t e : TypeId)
  | cv (t : TypeId) (l : List Int)
  | dead

abbrev Heap := List (Nat × Ent)

def hget : Heap → Nat → Option Ent
  | [], _ => none
  | (i, e) :: r, d => cond (Nat.beq i d) (some e) (hget r d)

structure St where
  sl : List AV
  hp : Heap

def EK.cells : (e : EK) → e.T → List AV
  | .unit, _ => []
  | .pair a b, x => a.cells x.1 ++ b.cells x.2
  | .int k, x => [.val (.int k) x]
  | .bool, x => [.val .bool x]
  | .str, x => [.val .str x]
  | .err, x => [.val .err x]
  | .sl e, x => [.val (.sl e) x]

def EK.av : (e : EK) → e.T → AV
  | .unit, _ => .agg []
  | .pair a b, x => .agg (EK.cells (.pair a b) x)
  | .int k, x => .val (.int k) x
  | .bool, x => .val .bool x
  | .str, x => .val .str x
  | .err, x => .val .err x
  | .sl e, x => .val (.sl e) x

def castT {a b : EK} (h : a = b) (x : a.T) : b.T := h ▸ x

def AV.toT (look : Nat → Option Ent) : (e : EK) → AV → Option e.T
  | e, .val e' x => if h : e' = e then some (castT h x) else none
  | .sl _, .nil => some []
  | .sl e, .own d => match look d with
    | some (.sl _ e' l) => if h : e' = e then some (castT (congrArg EK.sl h) l) else none
    | some (.frz _ e' l) => if h : e' = e then some (castT (congrArg EK.sl h) l) else none
    | _ => none
  | _, _ => none

def cellsT (look : Nat → Option Ent) : (e : EK) → List AV → Option (e.T × List AV)
  | .unit, cs => some ((), cs)
  | .pair a b, cs => match cellsT look a cs with
    | some (x, cs1) => match cellsT look b cs1 with
      | some (y, cs2) => some ((x, y), cs2)
      | none => none
    | none => none
  | e, v :: cs => match v.toT look e with
    | some x => some (x, cs)
    | none => none
  | _, [] => none

def AV.cells : AV → List AV
  | .agg cs => cs
  | v => [v]

def AV.isCell : AV → Bool
  | .val (.pair _ _) _ => false
  | .val .unit _ => false
  | .val _ _ => true
  | .nil => true
  | .own _ => true
  | _ => false

def cellOk (look : Nat → Option Ent) : AV → Bool
  | .own d => match look d with
    | some (.sl _ _ _) => true
    | some (.frz _ _ _) => true
    | _ => false
  | v => v.isCell

def AV.toTT (look : Nat → Option Ent) (e : EK) (v : AV) : Option e.T :=
  cond (v.cells.all (cellOk look)) (match cellsT look e v.cells with
  | some (x, []) => some x
  | _ => none) none

def AV.ids1 : AV → List Nat
  | .ptr d _ => [d]
  | .own d => [d]
  | .elt d _ _ => [d]
  | _ => []
def AV.ids : AV → List Nat
  | .agg cs => cs.flatMap AV.ids1
  | .fn _ caps => caps.flatMap AV.ids1
  | .ptr d _ => [d]
  | .own d => [d]
  | .elt d _ _ => [d]
  | _ => []
def AV.owns1 : AV → List Nat
  | .own d => [d]
  | _ => []
def AV.owns : AV → List Nat
  | .agg cs => cs.flatMap AV.owns1
  | .own d => [d]
  | _ => []

def memN (d : Nat) : List Nat → Bool
  | [] => false
  | i :: r => Nat.beq i d || memN d r
def memL (q : Nat × Bool) : Lits → Bool
  | [] => false
  | i :: r => (Nat.beq i.1 q.1 && (i.2 == q.2)) || memL q r
def subL : Lits → Lits → Bool
  | [], _ => true
  | q :: r, L => memL q L && subL r L

def AV.unG (L : Lits) : AV → AV
  | .gd L' v => cond (subL L' L) v .junk
  | v => v

def ofC : Value → AV
  | .int k n => .val (.int k) n
  | .bool b => .val .bool b
  | .string s => .val .str s
  | .slice none 0 0 => .nil
  | .nilIface => .val .err true
  | _ => .junk

def ofCs : Value → AV
  | .agg cs => .agg (cs.toList.map ofC)
  | v => ofC v

def St.ev (s : St) (L : Lits) : Operand → AV
  | .tmp t => (s.sl.getD t .junk).unG L
  | .const v => ofCs v
  | .func f => .fn f []
  | .global _ => .junk

section types
variable (P : Program)
def ekT : Nat → TypeId → Option EK
  | 0, _ => none
  | d + 1, t => match P.underlying t with
    | some .bool => some .bool
    | some (.int k) => some (.int k)
    | some .string => some .str
    | some (.slice e) => match ekT d e with
      | some c => some (.sl c)
      | none => none
    | some (.struct fs) => match fs.toList.mapM (fun f => ekT d f.type) with
      | some l => some (strEK l)
      | none => none
    | some (.interface _) => some .err
    | _ => none
def szT (t : TypeId) : Option Nat := match P.info? t with
  | some i => some i.size
  | none => none
def isAggT (t : TypeId) : Option Bool := match P.underlying t with
  | some (.struct _) => some true
  | some (.array _ _) => some true
  | some _ => some false
  | none => none
end types

def ofZ : Value → Option AV
  | .int k n => some (.val (.int k) n)
  | .bool b => some (.val .bool b)
  | .string s => some (.val .str s)
  | .slice none 0 0 => some .nil
  | .nilIface => some (.val .err true)
  | _ => none
def ofZs : List Value → Option (List AV)
  | [] => some []
  | v :: r => match ofZ v, ofZs r with
    | some a, some b => some (a :: b)
    | _, _ => none

def bitsI (op : BinOp) (k : IntKind) (x y : Int) : Int :=
  match op with
  | .and => k.wrap ((BitVec.ofInt k.bits x) &&& (BitVec.ofInt k.bits y)).toNat
  | .or => k.wrap ((BitVec.ofInt k.bits x) ||| (BitVec.ofInt k.bits y)).toNat
  | .xor => k.wrap ((BitVec.ofInt k.bits x) ^^^ (BitVec.ofInt k.bits y)).toNat
  | _ => k.wrap ((BitVec.ofInt k.bits x) &&& ~~~(BitVec.ofInt k.bits y)).toNat
def shlI (k : IntKind) (x y : Int) : Int := k.wrap (x * 2 ^ (min y.toNat k.bits))
def shrI (k : IntKind) (x y : Int) : Int := x / 2 ^ (min y.toNat k.bits)
def eqS (x y : ByteArray) : Bool := x.toList == y.toList
def ltS (x y : ByteArray) : Bool := Op.bytesLess x.toList y.toList

def vB (b : Bool) : AV := .val .bool b
def vI (k : IntKind) (n : Int) : AV := .val (.int k) n
def vS (s : ByteArray) : AV := .val .str s

def binI (op : BinOp) (k : IntKind) (a b : Int) : Option (List Bool × AV) :=
  match op with
  | .add => some ([], vI k (k.wrap (a + b)))
  | .sub => some ([], vI k (k.wrap (a - b)))
  | .mul => some ([], vI k (k.wrap (a * b)))
  | .quo => some ([!decide (b = 0)], vI k (k.wrap (a.tdiv b)))
  | .rem => some ([!decide (b = 0)], vI k (a.tmod b))
  | .and => some ([], vI k (bitsI .and k a b))
  | .or => some ([], vI k (bitsI .or k a b))
  | .xor => some ([], vI k (bitsI .xor k a b))
  | .andNot => some ([], vI k (bitsI .andNot k a b))
  | .eql => some ([], vB (a == b))
  | .neq => some ([], vB (a != b))
  | .lss => some ([], vB (decide (a < b)))
  | .leq => some ([], vB (decide (a ≤ b)))
  | .gtr => some ([], vB (decide (a > b)))
  | .geq => some ([], vB (decide (a ≥ b)))
  | _ => none

def binS (op : BinOp) (a b : ByteArray) : Option (List Bool × AV) :=
  match op with
  | .add => some ([decide (a.size + b.size ≤ 9223372036854775807)], vS (a ++ b))
  | .eql => some ([], vB (eqS a b))
  | .neq => some ([], vB (!eqS a b))
  | .lss => some ([], vB (ltS a b))
  | .leq => some ([], vB (ltS a b || eqS a b))
  | .gtr => some ([], vB (!(ltS a b || eqS a b)))
  | .geq => some ([], vB (!ltS a b))
  | _ => none

def bin (op : BinOp) (x y : AV) : Option (List Bool × AV) :=
  match x, y with
  | .val (.int k) a, .val (.int k') b =>
    match op with
    | .shl => some ([decide (0 ≤ b)], vI k (shlI k a b))
    | .shr => some ([decide (0 ≤ b)], vI k (shrI k a b))
    | _ => if k = k' then binI op k a b else none
  | .val .str a, .val .str b => binS op a b
  | _, _ => none
def binB (op : BinOp) (d : Option TypeDesc) (x y : AV) : Option AV :=
  match x, y, d with
  | .val .bool a, .val .bool b, some .bool => match op with
    | .eql => some (vB (a == b))
    | .neq => some (vB (!(a == b)))
    | _ => none
  | _, _, _ => none

def un (op : UnOp) (x : AV) : Option AV :=
  match op, x with
  | .neg, .val (.int k) n => some (vI k (k.wrap (0 - n)))
  | .xor, .val (.int k) n => some (vI k (bitsI .xor k (if k.signed then -1 else k.max) n))
  | .not, .val .bool b => some (vB (!b))
  | _, _ => none

def maxI (x y : Int) : Int := if y > x then y else x
def minI (x y : Int) : Int := if y < x then y else x

def byts (s : ByteArray) : List Int := s.data.toList.map fun b => (b.toNat : Int)
def strOf (l : List Int) : ByteArray := ⟨(l.map fun n => UInt8.ofNat n.toNat).toArray⟩
def bt (s : ByteArray) (i : Int) : Int := if h : i.toNat < s.size then ((s[i.toNat]'h).toNat : Int) else 0

abbrev Out := List Bool × AV × Heap

def Ent.freeze : Ent → Ent
  | .sl t e l => .frz t e l
  | x => x
def frzs (look : Nat → Option Ent) : List Nat → Heap
  | [] => []
  | d :: r => match look d with
    | some (.sl t e l) => (d, .frz t e l) :: frzs look r
    | _ => frzs look r

def splice (cs : List AV) (o : Nat) (xs : List AV) : List AV := cs.take o ++ xs ++ cs.drop (o + xs.length)

def cellsAt (look : Nat → Option Ent) : AV → Option (List AV)
  | .ptr d o => match look d with
    | some (.box _ cs) => some (cs.drop o)
    | _ => none
  | .elt d i o => match look d with
    | some (.sl _ e l) => some ((e.cells (l.getD i.toNat e.d)).drop o)
    | some (.frz _ e l) => some ((e.cells (l.getD i.toNat e.d)).drop o)
    | _ => none
  | .rel cs => some cs
  | _ => none

def loadA (agg : Bool) (n : Nat) (cs : List AV) : Option AV :=
  match agg with
  | true => cond (Nat.ble n cs.length) (some (.agg (cs.take n))) none
  | false => match cs with
    | c :: _ => some c
    | [] => none

def mergeA (b : Bool) : AV → AV → Option AV
  | .val e x, .val e' y => if h : e' = e then some (.val e (cond b x (castT h y))) else none
  | _, _ => none

def fillA (look : Nat → Option Ent) (place : Nat → Option (Nat × Nat)) (cs : List AV) : List (Nat × AV) → Option (List AV)
  | [] => some cs
  | (i, v) :: r => match place i with
    | some (off, n) => cond (Nat.beq v.cells.length n && Nat.ble (off + n) cs.length && v.cells.all (cellOk look)) (fillA look place (splice cs off v.cells) r) none
    | none => none

def mapO {α β : Type} (f : α → Option β) : List α → Option (List β)
  | [] => some []
  | x :: r => match f x, mapO f r with
    | some y, some s => some (y :: s)
    | _, _ => none

def inOrder : Nat → List Nat → Bool
  | _, [] => true
  | i, j :: r => Nat.beq i j && inOrder (i + 1) r

def isZ : EK → List Value → Option (List Value)
  | .unit, vs => some vs
  | .pair a b, vs => match isZ a vs with
    | some r => isZ b r
    | none => none
  | .int k, .int k' n :: r => if k = k' ∧ n = 0 then some r else none
  | .bool, .bool b :: r => cond b none (some r)
  | .str, .string s :: r => cond (Nat.beq s.size 0) (some r) none
  | .err, .nilIface :: r => some r
  | .sl _, .slice none 0 0 :: r => some r
  | _, _ => none

structure SlV where
  e : EK
  l : List e.T
def slOf (look : Nat → Option Ent) : AV → Option SlV
  | .val (.sl e) l => some ⟨e, l⟩
  | .own d => match look d with
    | some (.sl _ e l) => some ⟨e, l⟩
    | some (.frz _ e l) => some ⟨e, l⟩
    | _ => none
  | _ => none

def natOf : AV → Option Int
  | .val (.int _) n => some n
  | _ => none

section op
variable (P : Program)

def lenA (look : Nat → Option Ent) (t : TypeId) (v : AV) : Option AV :=
  match P.underlying t, v with
  | some .string, .val .str s => some (vI .i64 s.size)
  | some (.slice _), .nil => some (vI .i64 0)
  | some (.slice _), v => match slOf look v with
    | some s => some (vI .i64 s.l.length)
    | none => none
  | _, _ => none

def elemT (t : TypeId) : Option TypeId := match P.underlying t with
  | some (.slice e) => some e
  | _ => none
def depthT : Nat := 40
def sizeOk (t : TypeId) (n : Nat) : Bool := match elemT P t with
  | some et => match szT P et with
    | some m => Nat.beq m n
    | none => false
  | none => false
def rowT (t : TypeId) : Option (TypeId × EK × Nat) := match elemT P t with
  | some et => match ekT P depthT et, P.info? et with
    | some e, some i => match i.zero with
      | some z => match isZ e z.cells.toList with
        | some [] => cond (Nat.beq i.size e.n && Nat.ble 1 i.bytes && Nat.ble 1 e.n) (some (et, e, i.bytes)) none
        | _ => none
      | none => none
    | _, _ => none
  | none => none

def tailA (look : Nat → Option Ent) (e : EK) : AV → Option (List e.T)
  | .nil => some []
  | v => v.toT look (.sl e)

def appendA (look : Nat → Option Ent) (dst : Nat) (t : TypeId) (s x : AV) : Option Out :=
  match rowT P t, look dst with
  | some (et, e, by_), none => match tailA look e x with
    | none => none
    | some l2 => match s with
      | .nil => some ([decide (0 + l2.length < 140737488355328 / by_)], .own dst, [(dst, .sl et e l2)])
      | .own d => match look d with
        | some (.sl et' e' l) => if h : EK.sl e' = EK.sl e then
            cond (Nat.beq et' et) (some ([decide (l.length + l2.length < 140737488355328 / by_)], .own dst, [(dst, .sl et e ((castT h l : List e.T) ++ l2)), (d, .dead)])) none
          else none
        | _ => none
      | _ => none
  | _, _ => none

def foldI (f : Int → Int → Int) (k : IntKind) : Int → List AV → Option Int
  | a, [] => some a
  | a, .val (.int k') b :: r => if k = k' then foldI f k (f a b) r else none
  | _, _ :: _ => none

def builtinA (look : Nat → Option Ent) (dst : Nat) (b : Builtin) (ts : List TypeId) (xs : List AV) : Option Out :=
  match b, ts, xs with
  | .len, t :: _, [x] => match lenA P look t x with
    | some v => some ([], v, [])
    | none => none
  | .append, [t, t2], [s, x] => cond (Nat.beq t t2) (appendA P look dst t s x) none
  | .max, _, .val (.int k) a :: r => match foldI maxI k a r with
    | some n => some ([], vI k n, [])
    | none => none
  | .min, _, .val (.int k) a :: r => match foldI minI k a r with
    | some n => some ([], vI k n, [])
    | none => none
  | _, _, _ => none

def bytesOf (look : Nat → Option Ent) : AV → Option (List Int)
  | .own d => match look d with
    | some (.cv _ l) => some l
    | _ => AV.toT look (.sl (.int .u8)) (.own d)
  | v => AV.toT look (.sl (.int .u8)) v

def convA (look : Nat → Option Ent) (dst : Nat) (keep : Bool) (src dt : TypeId) (x : AV) : Option Out :=
  match P.underlying src, P.underlying dt, x with
  | some _, some (.int k), .val (.int _) n => some ([], vI k (k.wrap n), [])
  | some _, some .string, .val (.int _) n => some ([], vS (Utf8.encode n), [])
  | some _, some .string, .val .str s => some ([], vS s, [])
  | some .string, some (.slice et), .val .str s => match P.underlying et, look dst with
    | some (.int .u8), none => cond keep (some ([], .own dst, [(dst, .cv et (byts s))])) (some ([], .own dst, [(dst, .frz et (.int .u8) (byts s))]))
    | _, _ => none
  | some (.slice et), some .string, v => match P.underlying et, bytesOf look v with
    | some (.int .u8), some l => some ([], vS (strOf l), [])
    | _, _ => none
  | _, _, _ => none

def optI : Option AV → Option (Option Int)
  | none => some none
  | some (.val (.int _) n) => some (some n)
  | _ => none

def loI : Option Int → Int
  | none => 0
  | some n => n
def loC : Option Int → List Bool
  | none => []
  | some n => [decide (0 ≤ n)]
def cutL {α : Type} (l : List α) : Option Int → Option Int → List α
  | none, none => l
  | some a, none => l.drop a.toNat
  | none, some b => l.take b.toNat
  | some a, some b => (l.take b.toNat).drop a.toNat
def cutC (n : Nat) : Option Int → Option Int → List Bool
  | none, none => []
  | some a, none => [decide (0 ≤ a), decide (a ≤ (n : Int))]
  | none, some b => [decide (0 ≤ b), decide (b ≤ (n : Int))]
  | some a, some b => [decide (0 ≤ a), decide (a ≤ b), decide (b ≤ (n : Int))]

def sliceA (look : Nat → Option Ent) (dst : Nat) (keep : Bool) (t : TypeId) (x : AV) (lo hi mx : Option AV) : Option Out :=
  match optI lo, optI hi, mx with
  | some a, some b, none => match x with
    | .val .str s => match P.underlying t with
      | some .string => some (cutC s.size a b, vS (s.extract (loI a).toNat (match b with | none => s.size | some n => n.toNat)), [])
      | _ => none
    | .val (.sl e) l => cond (sizeOk P t e.n) (some (cutC l.length a b, .val (.sl e) (cutL l a b), [])) none
    | .own d => match look d with
      | some (.frz _ e l) => cond (sizeOk P t e.n) (some (cutC l.length a b, .val (.sl e) (cutL l a b), [])) none
      | some (.sl t' e l) => cond (sizeOk P t e.n) (match a, keep, look dst with
        | none, true, none => match b with
          | some n => some (cutC l.length none (some n), .own dst, [(dst, .sl t' e (l.take n.toNat)), (d, .dead)])
          | none => none
        | _, _, _ => some (cutC l.length a b, .val (.sl e) (cutL l a b), [(d, .frz t' e l)])) none
      | _ => none
    | _ => none
  | _, _, _ => none

def makeA (look : Nat → Option Ent) (dst : Nat) (t : TypeId) (same : Bool) (l c : AV) : Option Out :=
  match l, c, rowT P t, look dst with
  | .val (.int .i64) n, .val (.int .i64) m, some (et, e, by_), none =>
    some ((cond same [] [decide (n ≤ m)]) ++ [decide (0 ≤ n), decide (m.toNat ≤ 140737488355328 / by_)], .own dst, [(dst, .sl et e (List.replicate n.toNat e.d))])
  | _, _, _, _ => none

def fieldOf (s : TypeId) (f : Nat) : Option Field := match P.underlying s with
  | some (.struct fs) => fs[f]?
  | _ => none

def indexAddrA (look : Nat → Option Ent) (t : TypeId) (x i : AV) : Option Out :=
  match i with
  | .val (.int _) n => match x with
    | .val (.sl e) l => cond (sizeOk P t e.n) (some ([decide (0 ≤ n), decide (n < (l.length : Int))], .rel (e.cells (l.getD n.toNat e.d)), [])) none
    | .own d => match look d with
      | some (.sl _ e l) => cond (sizeOk P t e.n) (some ([decide (0 ≤ n), decide (n < (l.length : Int))], .elt d n 0, [])) none
      | some (.frz _ e l) => cond (sizeOk P t e.n) (some ([decide (0 ≤ n), decide (n < (l.length : Int))], .rel (e.cells (l.getD n.toNat e.d)), [])) none
      | some (.cv _ l) => cond (sizeOk P t 1) (some ([decide (0 ≤ n), decide (n < (l.length : Int))], .elt d n 0, [])) none
      | _ => none
    | _ => none
  | _ => none

def indexA (look : Nat → Option Ent) (t : TypeId) (x i : AV) : Option Out :=
  match i with
  | .val (.int _) n => match x with
    | .val .str s => match P.underlying t with
      | some .string => some ([decide (0 ≤ n), decide (n < (s.size : Int))], vI .u8 (bt s n), [])
      | _ => none
    | .agg cs => match P.underlying t with
      | some (.array len et) => match ekT P depthT et, isAggT P et, szT P et with
        | some e, some false, some 1 => match mapO (AV.toT look e) cs with
          | some l => cond (Nat.beq l.length len && !e.hasSl) (some ([decide (0 ≤ n), decide (n < (len : Int))], .val e (l.getD n.toNat e.d), [])) none
          | none => none
        | _, _, _ => none
      | _ => none
    | _ => none
  | _ => none

def storeA (look : Nat → Option Ent) (t : TypeId) (a x : AV) : Option Out :=
  match szT P t with
  | none => none
  | some n => cond (Nat.beq x.cells.length n && x.cells.all (cellOk look)) (match a with
    | .ptr d o => match look d with
      | some (.box t' cs) => cond (Nat.ble (o + n) cs.length) (some ([], .junk, [(d, .box t' (splice cs o x.cells))])) none
      | _ => none
    | .elt d i o => match look d with
      | some (.sl t' e l) => match cellsT look e (splice (e.cells (l.getD i.toNat e.d)) o x.cells) with
        | some (y, []) => cond (Nat.ble (o + n) e.n && !memN d x.owns) (some ([], .junk, (d, .sl t' e (l.set i.toNat y)) :: frzs look x.owns)) none
        | _ => none
      | some (.cv t' l) => match x with
        | .val (.int .u8) y => cond (Nat.beq o 0 && Nat.beq n 1) (some ([], .junk, [(d, .cv t' (l.set i.toNat y))])) none
        | _ => none
      | _ => none
    | _ => none) none

def buildA (look : Nat → Option Ent) (t : TypeId) (parts : List (Nat × AV)) : Option Out :=
  match P.info? t with
  | none => none
  | some inf => match inf.zero with
    | none => none
    | some z => match ofZs z.cells.toList, P.underlying t with
      | some cs, some (.struct fs) =>
        cond (fs.toList.all fun f => (szT P f.type).isSome) (match fillA look (fun i => match fs[i]? with | some f => (match szT P f.type with | some n => some (f.offset, n) | none => none) | none => none) cs parts with
        | some cs' => some ([], .agg cs', [])
        | none => none) none
      | some cs, some (.array _ et) => match szT P et with
        | some n => match fillA look (fun i => some (i * n, n)) cs parts with
          | some cs' => some ([], .agg cs', [])
          | none => none
        | none => none
      | _, _ => none

def buildSliceA (look : Nat → Option Ent) (dst : Nat) (t : TypeId) (len : Nat) (parts : List (Nat × AV)) : Option Out :=
  match rowT P t, look dst with
  | some (et, e, _), none => match mapO (fun p : Nat × AV => p.2.toTT look e) parts with
    | some l => cond (inOrder 0 (parts.map (·.1)) && Nat.beq parts.length len && Nat.ble (len * e.n) 16777216)
        (some ([], .own dst, (dst, .sl et e l) :: frzs look (parts.flatMap fun p => p.2.owns))) none
    | none => none
  | _, _ => none

def isPtr (look : Nat → Option Ent) : AV → Bool
  | .ptr d _ => match look d with
    | some (.box _ _) => true
    | _ => false
  | .elt d _ _ => match look d with
    | some (.sl _ _ _) => true
    | some (.frz _ _ _) => true
    | some (.cv _ _) => true
    | _ => false
  | .rel _ => true
  | _ => false
def shiftA : AV → Nat → AV
  | .ptr d o, n => .ptr d (o + n)
  | .elt d i o, n => .elt d i (o + n)
  | .rel cs, n => .rel (cs.drop n)
  | v, _ => v

def sameOp : Operand → Operand → Bool
  | .tmp a, .tmp b => Nat.beq a b
  | _, _ => false

def eqFs (rec : TypeId → List AV → List AV → Option Bool) (cs ds : List AV) : List Field → Option Bool
  | [] => some true
  | f :: fs => match isAggT P f.type, szT P f.type, decide (f.name ≠ "_") with
    | some g, some n, true => cond (Nat.ble (f.offset + n) cs.length && Nat.ble (f.offset + n) ds.length && (g || Nat.beq n 1)) (match rec f.type ((cs.drop f.offset).take n) ((ds.drop f.offset).take n), eqFs rec cs ds fs with
      | some a, some b => some (a && b)
      | _, _ => none) none
    | _, _, _ => none
def eqCells : Nat → TypeId → List AV → List AV → Option Bool
  | 0, _, _, _ => none
  | d + 1, t, cs, ds => match P.underlying t with
    | some (.int k) => match cs, ds with
      | [.val (.int k1) a], [.val (.int k2) b] => if k1 = k ∧ k2 = k then some (a == b) else none
      | _, _ => none
    | some .bool => match cs, ds with
      | [.val .bool a], [.val .bool b] => some (a == b)
      | _, _ => none
    | some .string => match cs, ds with
      | [.val .str a], [.val .str b] => some (eqS a b)
      | _, _ => none
    | some (.struct fs) => cond (P.stoodInHeld t) none (eqFs P (eqCells d) cs ds fs.toList)
    | _ => none
def binC (look : Nat → Option Ent) (op : BinOp) (t : TypeId) (x y : AV) : Option AV :=
  match op, x, y with
  | .eql, .agg cs, .agg ds => match P.eqGuardType P.depth t, isAggT P t, eqCells P depthT t cs ds with
    | false, some true, some b => some (vB b)
    | _, _, _ => none
  | .neq, .agg cs, .agg ds => match P.eqGuardType P.depth t, isAggT P t, eqCells P depthT t cs ds with
    | false, some true, some b => some (vB (!b))
    | _, _, _ => none
  | .eql, x, .nil => match P.underlying t, slOf look x with
    | some (.slice _), some s => some (.unk s.l.isEmpty false)
    | _, _ => none
  | .neq, x, .nil => match P.underlying t, slOf look x with
    | some (.slice _), some s => some (.unk s.l.isEmpty true)
    | _, _ => none
  | _, _, _ => none

def nilN : List Nat → Bool
  | [] => true
  | _ :: _ => false
def buildSliceF (look : Nat → Option Ent) (t : TypeId) (len : Nat) (parts : List (Nat × AV)) : Option Out :=
  match rowT P t with
  | some (_, e, _) => match mapO (fun p : Nat × AV => p.2.toTT look e) parts with
    | some l => cond (inOrder 0 (parts.map (·.1)) && Nat.beq parts.length len && Nat.ble (len * e.n) 16777216 && parts.all fun p => nilN p.2.owns)
        (some ([], .val (.sl e) l, [])) none
    | none => none
  | none => none

def bldT (t : TypeId) (z : List Value) : Option TypeId := match z, P.underlying t with
  | [.pointer none, .slice none 0 0], some (.struct fs) => match fs.toList with
    | [_, f1] => elemT P f1.type
    | _ => none
  | _, _ => none

def isCon : Operand → Bool
  | .const _ => true
  | _ => false
def binN (op : BinOp) (t : TypeId) (c : Bool) (x y : AV) : Option AV :=
  match op, x, y with
  | .eql, .val .err (a : Bool), .val .err (b : Bool) => match P.underlying t with
    | some (.interface _) => cond (c && b) (some (vB a)) none
    | _ => none
  | .neq, .val .err (a : Bool), .val .err (b : Bool) => match P.underlying t with
    | some (.interface _) => cond (c && b) (some (vB (!a))) none
    | _ => none
  | _, _, _ => none

def opVal (look : Nat → Option Ent) (dst : Nat) (keep : Bool) (L : Lits) (ev : Lits → Operand → AV) : Op → Option Out
  | .move x | .assign x => some ([], ev L x, [])
  | .pick c a b => match c with
    | .tmp t => match ev L c with
      | .val .bool x => match mergeA x (ev ((t, true) :: L) a) (ev ((t, false) :: L) b) with
        | some v => some ([], v, [])
        | none => none
      | _ => none
    | _ => none
  | .alloc t => match P.info? t, look dst with
    | some i, none => match i.zero with
      | some z => match ofZs z.cells.toList with
        | some cs => some ([], .ptr dst 0, [(dst, .box t cs)])
        | none => match bldT P t z.cells.toList with
          | some e => cond keep (some ([], .ptr dst 0, [(dst, .bld0 t e)])) (some ([], .ptr dst 0, [(dst, .bld t e ⟨#[]⟩)]))
          | none => none
      | none => none
    | _, _ => none
  | .box t x => match look dst with
    | none => cond ((ev L x).cells.all (cellOk look)) (some ([], .ptr dst 0, [(dst, .box t (ev L x).cells)])) none
    | some _ => none
  | .build t parts => buildA P look t (parts.toList.map fun p => (p.1, ev L p.2))
  | .buildSlice t len parts => match L with
    | [] => buildSliceA P look dst t len (parts.toList.map fun p => (p.1, ev L p.2))
    | _ :: _ => buildSliceF P look t len (parts.toList.map fun p => (p.1, ev L p.2))
  | .load t a => match isAggT P t, szT P t, cellsAt look (ev L a) with
    | some g, some n, some cs => match loadA g n cs with
      | some v => some ([], v, [])
      | none => none
    | _, _, _ => none
  | .store t a x => storeA P look t (ev L a) (ev L x)
  | .nilCheck x => match isPtr look (ev L x) with
    | true => some ([], ev L x, [])
    | false => none
  | .binOp o t x y _ => match bin o (ev L x) (ev L y) with
    | some (c, v) => some (c, v, [])
    | none => match binB o (P.underlying t) (ev L x) (ev L y) with
      | some v => some ([], v, [])
      | none => match binN P o t (isCon y) (ev L x) (ev L y) with
        | some v => some ([], v, [])
        | none => match binC P look o t (ev L x) (ev L y) with
          | some v => some ([], v, [])
          | none => none
  | .unOp o _ x => match un o (ev L x) with
    | some v => some ([], v, [])
    | none => none
  | .convert s d x => convA P look dst keep s d (ev L x)
  | .makeSlice t l c => makeA P look dst t (sameOp l c) (ev L l) (ev L c)
  | .slice t x lo hi mx => sliceA P look dst keep t (ev L x) (lo.map (ev L)) (hi.map (ev L)) (mx.map (ev L))
  | .fieldAddr s x f => match fieldOf P s f with
    | some fl => match szT P fl.type, isPtr look (ev L x) with
      | some (_ + 1), true => some ([], shiftA (ev L x) fl.offset, [])
      | _, _ => none
    | none => none
  | .field s x f => match fieldOf P s f, ev L x with
    | some fl, .agg cs => match isAggT P fl.type, szT P fl.type with
      | some g, some n => match loadA g n (cs.drop fl.offset) with
        | some v => some ([], v, [])
        | none => none
      | _, _ => none
    | _, _ => none
  | .indexAddr t x i => indexAddrA P look t (ev L x) (ev L i)
  | .index t x i => indexA P look t (ev L x) (ev L i)
  | .extract x i => match ev L x with
    | .tup vs => match vs[i]? with
      | some v => some ([], v, [])
      | none => none
    | _ => none
  | .makeFunc (.func f) first caps => match first.toList with
    | [] => some ([], .fn f (caps.toList.map (ev L)), [])
    | _ :: _ => match caps.toList with
      | [] => some ([], .mth f (first.toList.map (ev L)), [])
      | _ :: _ => none
  | .call { callee := .builtin b, args := xs, argTypes := ts } => builtinA P look dst b ts.toList (xs.toList.map (ev L))
  | _ => none
end op

structure DV where
  e : EK
  x : e.T

def DV.as (v : DV) (e : EK) : Option e.T := if h : v.e = e then some (castT h v.x) else none

def mkT : (es : List EK) → List DV → Option (tupEK es).T
  | [], [] => some ()
  | [e], [v] => v.as e
  | e :: f :: r, v :: vs => match v.as e, mkT (f :: r) vs with
    | some x, some y => some (x, y)
    | _, _ => none
  | _, _ => none
def unT : (es : List EK) → (tupEK es).T → List DV
  | [], _ => []
  | [e], x => [⟨e, x⟩]
  | e :: f :: r, x => ⟨e, x.1⟩ :: unT (f :: r) x.2

inductive PM where
  | byv (e : EK)
  | mv (t : TypeId) (e : EK) (back : Bool)
  | bx (t : TypeId) (e : EK)
  | rp (e : EK)
  | fn (f : FuncId) (es : List EK)
inductive RM where
  | byv (e : EK)
  | own (t : TypeId) (e : EK)
  | tl (a : EK) (t : TypeId) (e : EK)
inductive CM where
  | byv (e : EK)
  | own (t : TypeId) (e : EK)
  | box (t : TypeId) (cs : List CM)
  | rp (e : EK)
  | fn (f : FuncId) (es : List EK)
  | bld (t e : TypeId)

def PM.ek : PM → EK
  | .byv e => e
  | .mv _ e _ => .sl e
  | .bx _ e => e
  | .rp e => e
  | .fn _ es => tupEK es
def PM.outs : PM → List EK
  | .mv _ e true => [.sl e]
  | .bx _ e => [e]
  | _ => []
def RM.ek : RM → EK
  | .byv e => e
  | .own _ e => .sl e
  | .tl a _ e => .pair a (.sl e)

structure Var where
  f : FuncId
  par : List PM
  ret : List RM
  cut : Nat → Option (List (Nat × CM))
  keep : Nat → Nat → Bool
  callee : Nat → Nat → Option Nat
  als : Nat → List (Nat × Nat) := fun _ => []
  off : Nat := 0

def Var.parEs (v : Var) : List EK := v.par.map PM.ek
def Var.retEs (v : Var) : List EK := v.ret.map RM.ek ++ v.par.flatMap PM.outs
abbrev Var.PT (v : Var) : Type := (tupEK v.parEs).T
abbrev Var.RT (v : Var) : Type := (tupEK v.retEs).T

inductive Prim where
  | wStr (t e : TypeId)
  | bStr (t e : TypeId)
  | bLen (t e : TypeId)
  | bGr (t e : TypeId)

structure An where
  var : Nat → Var
  dv : FuncId → Nat
  gv : (u : Nat) → Option ((var u).PT → Option (var u).RT)
  pr : FuncId → Option Prim := fun _ => none

def rpT (look : Nat → Option Ent) (e : EK) : AV → Option e.T
  | .ptr d 0 => match look d with
    | some (.box _ cs) => match cellsT look e cs with
      | some (x, []) => some x
      | _ => none
    | _ => none
  | .rel cs => cond (cs.all fun c => nilN c.owns1) (match cellsT look e cs with
    | some (x, []) => some x
    | _ => none) none
  | _ => none
def zipO {α β γ : Type} (f : α → β → Option γ) : List α → List β → Option (List γ)
  | [], [] => some []
  | a :: r, b :: s => match f a b, zipO f r s with
    | some c, some t => some (c :: t)
    | _, _ => none
  | _, _ => none

def shp : EK → AV → Bool
  | .pair _ _, .agg _ => true
  | .pair _ _, _ => false
  | .unit, .agg _ => true
  | .unit, _ => false
  | _, .agg _ => false
  | _, _ => true
def byvT (look : Nat → Option Ent) (e : EK) (v : AV) : Option DV := cond (shp e v) (match v.toTT look e with
  | some x => some ⟨e, x⟩
  | none => none) none
def expArg (look : Nat → Option Ent) : PM → AV → Option DV
  | .byv e, v => byvT look e v
  | .mv t e _, .own d => match look d with
    | some (.sl t' e' l) => if h : EK.sl e' = EK.sl e then cond (Nat.beq t' t) (some ⟨.sl e, castT h l⟩) none else none
    | _ => none
  | .mv _ e false, .nil => some ⟨.sl e, []⟩
  | .bx t e, .ptr d 0 => match look d with
    | some (.box t' cs) => match cellsT look e cs with
      | some (x, []) => cond (Nat.beq t' t) (some ⟨e, x⟩) none
      | _ => none
    | _ => none
  | .rp e, v => match rpT look e v with
    | some x => some ⟨e, x⟩
    | none => none
  | .fn f es, .fn f' caps => cond (Nat.beq f' f) (match zipO (fun e v => match rpT look e v with | some x => some (⟨e, x⟩ : DV) | none => none) es caps with
    | some vs => match mkT es vs with
      | some x => some ⟨tupEK es, x⟩
      | none => none
    | none => none) none
  | _, _ => none

def boxOwns (look : Nat → Option Ent) (d : Nat) : List Nat := match look d with
  | some (.box _ cs) => cs.flatMap AV.owns1
  | _ => []
def AV.shows (look : Nat → Option Ent) : AV → List Nat
  | .ptr d _ => boxOwns look d
  | .fn _ caps => caps.flatMap fun c => match c with
    | .ptr d _ => boxOwns look d
    | _ => []
  | v => v.owns
def PM.isMv : PM → Bool
  | .mv _ _ _ => true
  | _ => false
def showsAll (look : Nat → Option Ent) : List PM → List AV → List Nat
  | p :: ps, v :: vs => (cond p.isMv [] (v.shows look)) ++ showsAll look ps vs
  | _, _ => []
def movesAll : List PM → List AV → List Nat
  | p :: ps, v :: vs => (cond p.isMv v.owns []) ++ movesAll ps vs
  | _, _ => []
def boxesAll : List PM → List AV → List Nat
  | .bx _ _ :: ps, .ptr d _ :: vs => d :: boxesAll ps vs
  | _ :: ps, _ :: vs => boxesAll ps vs
  | _, _ => []
def nodupN : List Nat → Bool
  | [] => true
  | d :: r => !memN d r && nodupN r
def apartN : List Nat → List Nat → Bool
  | [], _ => true
  | d :: r, s => !memN d s && apartN r s
def AV.reads : AV → List Nat
  | .ptr d _ => [d]
  | .fn _ caps => caps.flatMap AV.ids1
  | _ => []
def readsAll : List PM → List AV → List Nat
  | .bx _ _ :: ps, _ :: vs => readsAll ps vs
  | _ :: ps, v :: vs => v.reads ++ readsAll ps vs
  | _, _ => []

def backAll : List PM → List AV → List DV → Heap
  | .mv _ _ false :: ps, v :: vs, os => (v.owns.map fun d => (d, Ent.dead)) ++ backAll ps vs os
  | .mv t e true :: ps, .own d :: vs, o :: os => (match o.as (.sl e) with | some l => [(d, Ent.sl t e l)] | none => [(d, .dead)]) ++ backAll ps vs os
  | .bx t e :: ps, .ptr d _ :: vs, o :: os => (match o.as e with | some x => [(d, Ent.box t (e.cells x))] | none => [(d, .dead)]) ++ backAll ps vs os
  | .byv _ :: ps, _ :: vs, os => backAll ps vs os
  | .rp _ :: ps, _ :: vs, os => backAll ps vs os
  | .fn _ _ :: ps, _ :: vs, os => backAll ps vs os
  | _, _, _ => []

def leafId (dst j : Nat) : Nat := 100000 * (j + 1) + dst
def resAll (dst : Nat) (one : Bool) : Nat → List RM → List DV → List AV × Heap
  | j, .byv e :: rs, v :: vs => match v.as e with
    | some x => let r := resAll dst one (j + 1) rs vs; (e.av x :: r.1, r.2)
    | none => ([], [])
  | j, .own t e :: rs, v :: vs => match v.as (.sl e) with
    | some l => let r := resAll dst one (j + 1) rs vs; (.own (cond one dst (leafId dst j)) :: r.1, (cond one dst (leafId dst j), Ent.sl t e l) :: r.2)
    | none => ([], [])
  | j, .tl a t e :: rs, v :: vs => match v.as (.pair a (.sl e)) with
    | some x => let r := resAll dst one (j + 1) rs vs; (.agg (a.cells x.1 ++ [.own (cond one dst (leafId dst j))]) :: r.1, (cond one dst (leafId dst j), Ent.sl t e x.2) :: r.2)
    | none => ([], [])
  | _, _, _ => ([], [])
def oneOf : List AV → AV
  | [v] => v
  | vs => .tup vs
def isOne {α : Type} : List α → Bool
  | [_] => true
  | _ => false
def RM.sh : RM → Bool
  | .byv e => e.hasSl
  | .own _ e => e.hasSl
  | .tl a _ e => a.hasSl || e.hasSl
def PM.sh : PM → Bool
  | .bx _ e => e.hasSl
  | .mv _ e true => e.hasSl
  | _ => false
def anyB {α : Type} (f : α → Bool) : List α → Bool
  | [] => false
  | a :: r => f a || anyB f r

def rels (es : List EK) (x : (tupEK es).T) : List AV := (unT es x).map fun v => .rel (v.e.cells v.x)
def initAll : Nat → List PM → List DV → Option (List AV × Heap)
  | _, [], [] => some ([], [])
  | i, p :: ps, v :: vs => match initAll (i + 1) ps vs with
    | none => none
    | some r => match p with
      | .byv e => match v.as e with
        | some x => some (e.av x :: r.1, r.2)
        | none => none
      | .mv t e _ => match v.as (.sl e) with
        | some l => some (.own i :: r.1, (i, .sl t e l) :: r.2)
        | none => none
      | .bx t e => match v.as e with
        | some x => some (.ptr i 0 :: r.1, (i, .box t (e.cells x)) :: r.2)
        | none => none
      | .rp e => match v.as e with
        | some x => some (.rel (e.cells x) :: r.1, r.2)
        | none => none
      | .fn f es => match v.as (tupEK es) with
        | some x => some (.fn f (rels es x) :: r.1, r.2)
        | none => none
  | _, _, _ => none

def expRet (look : Nat → Option Ent) : RM → AV → Option DV
  | .byv e, v => byvT look e v
  | .own t e, .own d => match look d with
    | some (.sl t' e' l) => if h : EK.sl e' = EK.sl e then cond (Nat.beq t' t) (some ⟨.sl e, castT h l⟩) none else none
    | _ => none
  | .own _ e, .nil => some ⟨.sl e, []⟩
  | .tl a t e, .agg cs => match cellsT (fun _ => none) a cs with
    | some (x, [.own d]) => match look d with
      | some (.sl t' e' l) => if h : EK.sl e' = EK.sl e then cond (Nat.beq t' t) (some ⟨.pair a (.sl e), (x, castT h l)⟩) none else none
      | _ => none
    | some (x, [.nil]) => some ⟨.pair a (.sl e), (x, [])⟩
    | _ => none
  | _, _ => none
def tlOwn (a : EK) : AV → List Nat
  | .agg cs => match cellsT (fun _ => none) a cs with
    | some (_, rest) => rest.flatMap AV.owns1
    | none => []
  | _ => []
def retOwns : List RM → List AV → List Nat
  | .own _ _ :: rs, v :: vs => v.owns ++ retOwns rs vs
  | .tl a _ _ :: rs, v :: vs => tlOwn a v ++ retOwns rs vs
  | _ :: rs, _ :: vs => retOwns rs vs
  | _, _ => []
def retShows : List RM → List AV → List Nat
  | .byv _ :: rs, v :: vs => v.owns ++ retShows rs vs
  | _ :: rs, _ :: vs => retShows rs vs
  | _, _ => []
def backs (look : Nat → Option Ent) : Nat → List PM → Option (List DV)
  | _, [] => some []
  | i, .mv t e true :: ps => match look i, backs look (i + 1) ps with
    | some (.sl t' e' l), some r => if h : EK.sl e' = EK.sl e then cond (Nat.beq t' t) (some (⟨.sl e, castT h l⟩ :: r)) none else none
    | _, _ => none
  | i, .bx t e :: ps => match look i, backs look (i + 1) ps with
    | some (.box t' cs), some r => match cellsT look e cs with
      | some (x, []) => cond (Nat.beq t' t) (some (⟨e, x⟩ :: r)) none
      | _ => none
    | _, _ => none
  | i, _ :: ps => backs look (i + 1) ps
def backIds : Nat → List PM → List Nat
  | _, [] => []
  | i, .mv _ _ true :: ps => i :: backIds (i + 1) ps
  | i, .bx _ _ :: ps => i :: backIds (i + 1) ps
  | i, _ :: ps => backIds (i + 1) ps
def backShows (look : Nat → Option Ent) : Nat → List PM → List Nat
  | _, [] => []
  | i, .bx _ _ :: ps => boxOwns look i ++ backShows look (i + 1) ps
  | i, _ :: ps => backShows look (i + 1) ps

def St.slot (st : St) (s : Nat) : AV := st.ev [] (.tmp s)
def resVar (P : Program) (st : St) : ResultVar → Option AV
  | .tmp t => some (st.slot t)
  | .cell a t => match isAggT P t, szT P t, cellsAt (hget st.hp) (st.slot a) with
    | some g, some n, some cs => loadA g n cs
    | _, _, _ => none

def retX (P : Program) (v : Var) (st : St) : Option v.RT :=
  match P.funcs[v.f]? with
  | none => none
  | some fn => match mapO (resVar P st) fn.results.toList with
    | none => none
    | some avs => match zipO (expRet (hget st.hp)) v.ret avs, backs (hget st.hp) 0 v.par with
      | some ds, some bs =>
        cond (nodupN (retOwns v.ret avs) && apartN (retOwns v.ret avs) (retShows v.ret avs) && apartN (retOwns v.ret avs) (backIds 0 v.par)
            && apartN (retShows v.ret avs ++ backShows (hget st.hp) 0 v.par) (backIds 0 v.par) && apartN (retOwns v.ret avs) (backShows (hget st.hp) 0 v.par))
          (mkT v.retEs (ds ++ bs)) none
      | _, _ => none

def CM.ek : CM → EK
  | .byv e => e
  | .own _ e => .sl e
  | .box _ cs => tupEK (ekL cs)
  | .rp e => e
  | .fn _ es => tupEK es
  | .bld _ _ => .str
  where ekL : List CM → List EK
  | [] => []
  | c :: r => c.ek :: ekL r

def relT (e : EK) : AV → Option e.T
  | .rel cs => rpT (fun _ => none) e (.rel cs)
  | _ => none
def canC (look : Nat → Option Ent) : CM → AV → Option DV
  | .byv e, v => byvT look e v
  | .own t e, .own d => match look d with
    | some (.sl t' e' l) => if h : EK.sl e' = EK.sl e then cond (Nat.beq t' t) (some ⟨.sl e, castT h l⟩) none else none
    | _ => none
  | .own _ e, .nil => some ⟨.sl e, []⟩
  | _, _ => none
def canV (look : Nat → Option Ent) (s : Nat) : CM → AV → Option DV
  | .box t cs, .ptr d 0 => match look d with
    | some (.box t' vs) => match zipO (canC look) cs vs with
      | some ds => match mkT (CM.ek.ekL cs) ds with
        | some x => cond (Nat.beq t' t && Nat.beq d s) (some ⟨tupEK (CM.ek.ekL cs), x⟩) none
        | none => none
      | none => none
    | _ => none
  | .bld t e, .ptr d 0 => match look d with
    | some (.bld t' e' x) => cond (Nat.beq t' t && Nat.beq e' e && Nat.beq d s) (some ⟨.str, x⟩) none
    | _ => none
  | .rp e, v => match relT e v with
    | some x => some ⟨e, x⟩
    | none => none
  | .fn f es, .fn f' caps => cond (Nat.beq f' f) (match zipO (fun e v => match relT e v with | some x => some (⟨e, x⟩ : DV) | none => none) es caps with
    | some vs => match mkT es vs with
      | some x => some ⟨tupEK es, x⟩
      | none => none
    | none => none) none
  | c, v => canC look c v
def canOwns1 : CM → AV → List Nat
  | .own _ _, v => v.owns
  | _, _ => []
def canShows1 : CM → AV → List Nat
  | .byv _, v => v.owns
  | _, _ => []
def zipF (f : CM → AV → List Nat) : List CM → List AV → List Nat
  | c :: cs, v :: vs => f c v ++ zipF f cs vs
  | _, _ => []
def canOwns (look : Nat → Option Ent) : CM → AV → List Nat
  | .box _ cs, .ptr d _ => d :: (match look d with
    | some (.box _ vs) => zipF canOwns1 cs vs
    | _ => [])
  | .bld _ _, .ptr d _ => [d]
  | c, v => canOwns1 c v
def canShows (look : Nat → Option Ent) : CM → AV → List Nat
  | .box _ cs, .ptr d _ => match look d with
    | some (.box _ vs) => zipF canShows1 cs vs
    | _ => []
  | c, v => canShows1 c v

def cutEs (lv : List (Nat × CM)) : List EK := lv.map fun p => p.2.ek
def pinOk (st : St) (lv : List (Nat × CM)) : List Nat → Bool
  | [] => true
  | i :: r => anyB (fun p : Nat × CM => Nat.beq p.1 i && (match p.2 with | .own _ _ => true | .box _ _ => true | _ => false)) lv && (match st.slot i with
    | .own d => Nat.beq d i
    | .ptr d _ => Nat.beq d i
    | _ => false) && pinOk st lv r
def canon (st : St) (n : Nat) (pins : List Nat) (lv : List (Nat × CM)) : Option (tupEK (cutEs lv)).T :=
  match mapO (fun p : Nat × CM => canV (hget st.hp) p.1 p.2 (st.slot p.1)) lv with
  | none => none
  | some ds =>
    cond (nodupN (lv.flatMap fun p => canOwns (hget st.hp) p.2 (st.slot p.1))
      && apartN (lv.flatMap fun p => canOwns (hget st.hp) p.2 (st.slot p.1)) (lv.flatMap fun p => canShows (hget st.hp) p.2 (st.slot p.1))
      && pinOk st lv pins && nodupN (lv.map fun p => p.1) && Nat.beq st.sl.length n && Nat.ble n 100000 && (lv.all fun p => Nat.blt p.1 n))
      (mkT (cutEs lv) ds) none

def mkC (id : Nat) : CM → DV → AV × Heap
  | .own t e, v => match v.as (.sl e) with
    | some l => (.own id, [(id, .sl t e l)])
    | none => (.junk, [])
  | .byv e, v => match v.as e with
    | some x => (e.av x, [])
    | none => (.junk, [])
  | _, _ => (.junk, [])
def mkCs (s : Nat) : Nat → List CM → List DV → List AV × Heap
  | j, c :: cs, v :: vs => ((mkC (leafId s j) c v).1 :: (mkCs s (j + 1) cs vs).1, (mkC (leafId s j) c v).2 ++ (mkCs s (j + 1) cs vs).2)
  | _, _, _ => ([], [])
def mkV (s : Nat) : CM → DV → AV × Heap
  | .box t cs, v => match v.as (tupEK (CM.ek.ekL cs)) with
    | some x => (.ptr s 0, (s, .box t (mkCs s 0 cs (unT (CM.ek.ekL cs) x)).1) :: (mkCs s 0 cs (unT (CM.ek.ekL cs) x)).2)
    | none => (.junk, [])
  | .rp e, v => match v.as e with
    | some x => (.rel (e.cells x), [])
    | none => (.junk, [])
  | .fn f es, v => match v.as (tupEK es) with
    | some x => (.fn f (rels es x), [])
    | none => (.junk, [])
  | .bld t e, v => match v.as .str with
    | some (x : ByteArray) => (.ptr s 0, [(s, .bld t e x)])
    | none => (.junk, [])
  | c, v => mkC s c v
def mkSt (n : Nat) : List (Nat × CM) → List DV → St
  | p :: lv, v :: vs => ⟨(mkSt n lv vs).sl.set p.1 (mkV p.1 p.2 v).1, (mkV p.1 p.2 v).2 ++ (mkSt n lv vs).hp⟩
  | _, _ => ⟨List.replicate n .junk, []⟩
def alV (q : Nat) : AV := cond (Nat.blt q 100000) (.own q) (.ptr (q - 100000) 0)
def addAl (als : List (Nat × Nat)) (st : St) : St := ⟨als.foldl (fun sl p => sl.set p.1 (alV p.2)) st.sl, st.hp⟩
def alOk (st : St) (lv : List (Nat × CM)) : List (Nat × Nat) → Bool
  | [] => true
  | p :: r => cond (Nat.blt p.2 100000)
      ((match st.slot p.1, st.slot p.2 with
      | .own d, .own d' => Nat.beq d d'
      | _, _ => false) && anyB (fun q : Nat × CM => Nat.beq q.1 p.2 && (match q.2 with | .own _ _ => true | _ => false)) lv)
      ((match st.slot p.1 with
      | .ptr d o => Nat.beq d (p.2 - 100000) && Nat.beq o 0
      | _ => false) && anyB (fun q : Nat × CM => Nat.beq q.1 (p.2 - 100000) && (match q.2 with | .box _ _ => true | .bld _ _ => true | _ => false)) lv) && alOk st lv r
def alsOf (v : Var) : List Item → List (Nat × Nat)
  | .code (.region id _ _) :: _ => v.als id
  | _ => []
def initSt (n : Nat) (ps : List PM) (vs : List DV) : St :=
  match initAll 0 ps vs with
  | some r => ⟨r.1 ++ List.replicate (n - r.1.length) .junk, r.2⟩
  | none => ⟨List.replicate n .junk, []⟩

def beqE : (e : EK) → e.T → e.T → Bool
  | .unit, _, _ => true
  | .int _, (x : Int), (y : Int) => x == y
  | .bool, (x : Bool), (y : Bool) => x == y
  | .err, (x : Bool), (y : Bool) => x == y
  | .str, (x : ByteArray), (y : ByteArray) => decide (x = y)
  | .pair a b, x, y => beqE a x.1 y.1 && beqE b x.2 y.2
  | .sl e, x, y => beqL (beqE e) x y
  where beqL {α : Type} (f : α → α → Bool) : List α → List α → Bool
  | [], [] => true
  | a :: r, b :: s => f a b && beqL f r s
  | _, _ => false
def bothA (e : EK) (x y : Option e.T) : Option e.T := match x, y with
  | some a, some b => cond (beqE e a b) (some a) none
  | _, _ => none

section run
variable (P : Program) (A : An)

def gLits (ops : Array Oper) (st : St) : Option (Nat × Bool) → Option Lits
  | none => some []
  | some (j, b) => match ops[j]? with
    | some o => match o.dst with
      | some d => some ((d, b) :: (match st.sl.getD d .junk with | .gd L _ => L | _ => []))
      | none => none
    | none => none
def gVal (st : St) : Lits → Option Bool
  | [] => some true
  | (d, b) :: r => match (st.sl.getD d .junk).unG r with
    | .val .bool x => match r with
      | [] => some (cond b x (!x))
      | _ :: _ => match gVal st r with
        | some y => some (y && cond b x (!x))
        | none => none
    | _ => none
def chk (L : Lits) (g b : Bool) : Bool := match L with
  | [] => b
  | _ :: _ => !g || b
def wrapG (L : Lits) (v : AV) : AV := match L with
  | [] => (match v with
    | .gd _ _ => .junk
    | w => w)
  | _ :: _ => .gd L v
def St.put (st : St) (dst : Option Nat) (v : AV) (up : Heap) : St :=
  ⟨match dst with | some d => st.sl.set d v | none => st.sl, up ++ st.hp⟩
def noG (dst : Option Nat) (sl : List AV) : Bool := match dst with
  | none => true
  | some d => sl.all fun v => match v with
    | .gd L _ => !(L.any fun q => Nat.beq q.1 d)
    | _ => true
def noL : Option Nat → Lits → Bool
  | _, [] => true
  | none, _ => true
  | some d, q :: r => !Nat.beq q.1 d && noL (some d) r
def dstOf (off : Nat) : Option Nat → Nat
  | some d => off + d
  | none => off
def touched (st : St) (avs : List AV) : List Nat :=
  let a := avs.flatMap AV.ids
  let b := a.flatMap fun d => match hget st.hp d with
    | some (.box _ cs) => cs.flatMap AV.ids1
    | _ => []
  a ++ b
def readsOf (op : Op) (avs : List AV) : List AV := match op with
  | .move _ => []
  | .assign _ => []
  | _ => avs
def lookIn (st : St) (ids : List Nat) (d : Nat) : Option Ent := cond (memN d ids) (hget st.hp d) none
def checks {R : Type} (L : Lits) (g : Bool) : List Bool → Option R → Option R
  | [], k => k
  | b :: r, k => cond (chk L g b) (checks L g r k) none

def fnCall (op : Op) (ev : Operand → AV) : Option (FuncId × List AV) := match op with
  | .call { callee := .value f, args := xs, .. } => match ev f with
    | .fn f caps => some (f, xs.toList.map ev ++ caps)
    | .mth f first => some (f, first ++ xs.toList.map ev)
    | _ => none
  | _ => none

def enterOk (f : FuncId) : Bool := match P.funcs[f]? with
  | some fn => fn.body.isSome && !(fn.name == "runtime.NumGoroutine")
  | none => false
def callFin (v : Var) (look : Nat → Option Ent) (dst : Nat) (avs : List AV) (y : v.RT) : AV × Heap :=
  let os := unT v.retEs y
  let r := resAll dst (isOne v.ret) 0 v.ret (os.take v.ret.length)
  (oneOf r.1, r.2 ++ (backAll v.par avs (os.drop v.ret.length) ++ cond (anyB RM.sh v.ret || anyB PM.sh v.par) (frzs look (showsAll look v.par avs)) []))

def callX {R : Type} (call : (u : Nat) → (A.var u).PT → Option (A.var u).RT) (u : Nat) (L : Lits) (g : Bool) (look : Nat → Option Ent) (dst : Nat) (avs : List AV) (k : AV → Heap → Option R) : Option R :=
  match zipO (expArg look) (A.var u).par avs with
  | none => none
  | some ds => match mkT (A.var u).parEs ds with
    | none => none
    | some x =>
      cond (nodupN (movesAll (A.var u).par avs) && apartN (movesAll (A.var u).par avs) (showsAll look (A.var u).par avs) && nodupN (boxesAll (A.var u).par avs) && apartN (boxesAll (A.var u).par avs) (readsAll (A.var u).par avs)
          && Nat.ble (A.var u).ret.length 5 && (!(anyB RM.sh (A.var u).ret || anyB PM.sh (A.var u).par) || nilN (readsAll (A.var u).par avs)) && enterOk P (A.var u).f)
        (match L with
          | [] => (call u x).bind fun y => k (callFin (A.var u) look dst avs y).1 (callFin (A.var u) look dst avs y).2
          | _ :: _ => (cond g (call u x) (some (tupEK (A.var u).retEs).d)).bind fun y => match (callFin (A.var u) look dst avs y).2 with
            | [] => k (callFin (A.var u) look dst avs y).1 []
            | _ :: _ => none) none

def resIds (dst : Nat) : List Nat := [leafId dst 0, leafId dst 1, leafId dst 2, leafId dst 3, leafId dst 4]

def primA (look : Nat → Option Ent) : Prim → List AV → Option Out
  | .wStr t e, [.ptr d 0, .val .str (s : ByteArray)] => match look d with
    | some (.bld t' e' s0) => cond (Nat.beq t' t && Nat.beq e' e) (some ([decide (s0.size + s.size ≤ 140737488355328)], .tup [vI .i64 s.size, .val .err true], [(d, .bld t e (s0 ++ s))])) none
    | _ => none
  | .bLen t e, [.ptr d 0] => match look d with
    | some (.bld t' e' s0) => cond (Nat.beq t' t && Nat.beq e' e) (some ([], vI .i64 s0.size, [])) none
    | _ => none
  | .bStr t e, [.ptr d 0] => match look d with
    | some (.bld t' e' s0) => cond (Nat.beq t' t && Nat.beq e' e) (some ([], vS s0, [(d, .dead)])) none
    | _ => none
  | .bGr t e, [.ptr d 0, .val (.int .i64) n] => match look d with
    | some (.bld0 t' e') => cond (Nat.beq t' t && Nat.beq e' e) (some ([decide (0 ≤ n), decide (n ≤ 140737488355328)], .tup [], [(d, .bld t e ⟨#[]⟩)])) none
    | _ => none
  | _, _ => none

def pickU (v : Var) (rid idx : Nat) (f : FuncId) : Nat := match v.callee rid idx with
  | some u => u
  | none => A.dv f

def opY {R : Type} (call : (u : Nat) → (A.var u).PT → Option (A.var u).RT) (v : Var) (rid : Nat) (ops : Array Oper) (idx : Nat) (o : Oper) (st : St) (k : AV → Heap → Option R) : Option R :=
  match gLits ops st o.guard with
  | none => none
  | some L => match gVal st L with
    | none => none
    | some g => cond (noG o.dst st.sl && noL o.dst L) (match fnCall o.op (st.ev L) with
      | some (f, avs) => match A.pr f with
        | some p => cond (enterOk P f) (match primA (lookIn st (dstOf v.off o.dst :: resIds (dstOf v.off o.dst) ++ touched st avs)) p avs with
          | none => none
          | some (cs, r, up) => match L, up with
            | _ :: _, _ :: _ => none
            | _, _ => checks L g cs (k (wrapG L r) up)) none
        | none =>
        let dst := dstOf v.off o.dst
        let look := lookIn st (dst :: resIds dst ++ touched st avs)
        cond (isNone (look dst) && (resIds dst).all (fun d => isNone (look d)))
          (match o.dst with
          | some _ => cond (Nat.beq (A.var (pickU A v rid idx f)).f f) (callX P A call (pickU A v rid idx f) L g look dst avs fun r up => k (wrapG L r) up) none
          | none => none) none
      | none =>
        let look := lookIn st (dstOf v.off o.dst :: touched st (readsOf o.op (o.op.operands.toList.map (st.ev L))))
        match opVal P look (dstOf v.off o.dst) (v.keep rid idx) L (st.ev) o.op with
        | none => none
        | some (cs, r, up) => match L, up with
          | _ :: _, _ :: _ => none
          | _, _ => checks L g cs (k (wrapG L r) up)) none
  where isNone : Option Ent → Bool
  | none => true
  | some _ => false

def clrG (st : St) : St := ⟨st.sl.map fun v => match v with | .gd _ _ => .junk | v => v, st.hp⟩

structure CI (A : An) where
  call : (u : Nat) → (A.var u).PT → Option (A.var u).RT
  inl : (R : Type) → Nat → List AV → Heap → (AV → Heap → Option R) → Option R

def inlOf (v : Var) (rid idx : Nat) (o : Oper) (st : St) : Option (Nat × List AV × Nat) := match o.guard with
  | some _ => none
  | none => match fnCall o.op (st.ev []) with
    | none => none
    | some (f, avs) => match o.dst with
      | none => none
      | some d => cond (Nat.blt 0 (A.var (pickU A v rid idx f)).off && Nat.beq (A.var (pickU A v rid idx f)).f f && enterOk P f && noG (some d) st.sl) (some (pickU A v rid idx f, avs, d)) none

def opsX {R : Type} (ci : CI A) (v : Var) (rid : Nat) (ops : Array Oper) : Nat → List Oper → St → (St → Option R) → Option R
  | _, [], st, k => k (clrG st)
  | i, o :: r, st, k => match inlOf P A v rid i o st with
    | some (u, avs, d) => ci.inl R u avs st.hp fun rv hp => opsX ci v rid ops (i + 1) r ⟨st.sl.set d rv, hp⟩ k
    | none => opY P A ci.call v rid ops i o st fun a up => opsX ci v rid ops (i + 1) r (st.put o.dst a up) k

structure Foot where
  rd : List Nat
  wr : Option Nat
  ids : List Nat
  w : Bool
def tmpOf : Operand → List Nat
  | .tmp t => [t]
  | _ => []
def writesE : Op → Bool
  | .move _ | .assign _ | .pick .. | .build .. | .load .. | .nilCheck _ | .binOp .. | .unOp .. | .fieldAddr .. | .field .. | .indexAddr .. | .index .. | .extract .. | .makeFunc .. => false
  | .call { callee := .builtin .len, .. } => false
  | .call { callee := .builtin .max, .. } => false
  | .call { callee := .builtin .min, .. } => false
  | _ => true
def footOf (v : Var) (ops : Array Oper) (o : Oper) (st : St) : Option Foot :=
  match gLits ops st o.guard with
  | none => none
  | some L =>
    let avs := match fnCall o.op (st.ev L) with
      | some (_, avs) => avs
      | none => readsOf o.op (o.op.operands.toList.map (st.ev L))
    some ⟨L.map (·.1) ++ o.op.operands.toList.flatMap tmpOf, o.dst, dstOf v.off o.dst :: resIds (dstOf v.off o.dst) ++ touched st avs, writesE o.op⟩
def hasN : Option Nat → List Nat → Bool
  | some d, l => memN d l
  | none, _ => false
def sameN : Option Nat → Option Nat → Bool
  | some a, some b => Nat.beq a b
  | _, _ => false
def apartF (a b : Foot) : Bool :=
  !hasN a.wr b.rd && !hasN b.wr a.rd && !sameN a.wr b.wr && ((!a.w && !b.w) || apartN a.ids b.ids)
def clearF (bits : Nat) (f : Foot) : Nat → List Foot → Bool
  | _, [] => true
  | i, g :: r => (bits.testBit i || apartF g f) && clearF bits f (i + 1) r

def chkUp (f : Foot) (up : Heap) : Bool := match up with
  | [] => true
  | _ :: _ => f.w && up.all fun p => memN p.1 f.ids

def opsD {R : Type} (call : (u : Nat) → (A.var u).PT → Option (A.var u).RT) (v : Var) (rid : Nat) (ops : Array Oper) (bef : List Nat) : Nat → List Foot → List Oper → St → (St → Option R) → Option R
  | _, _, [], st, k => k (clrG st)
  | i, fs, o :: r, st, k => match footOf v ops o st with
    | none => none
    | some f => cond (clearF (bef.getD i 0) f 0 fs) (opY P A call v rid ops i o st fun a up => cond (chkUp f up) (opsD call v rid ops bef (i + 1) (fs ++ [f]) r (st.put o.dst a up) k) none) none

def bitsOf (B : List Nat) : List Edge → Nat
  | [] => 0
  | e :: r => cond (Region.binds .any e) (Nat.lor (Nat.lor (2 ^ e.on) (B.getD e.on 0)) (bitsOf B r)) (bitsOf B r)
def befOk (B : List Nat) : Nat → List Oper → Bool
  | _, [] => true
  | i, o :: r => Nat.beq (B.getD i 0) (bitsOf B o.after.toList) && o.after.toList.all (fun e => !Region.binds .any e || Nat.blt e.on i) && befOk B (i + 1) r
def dstsOf : List Oper → List Nat
  | [] => []
  | o :: r => match o.dst with
    | some d => d :: dstsOf r
    | none => dstsOf r

def regionX {R : Type} (ci : CI A) (v : Var) (rid : Nat) (ops : Array Oper) (draw : Bool) (st : St) (k : St → Option R) : Option R :=
  match draw with
  | false => opsX P A ci v rid ops 0 ops.toList st k
  | true => cond (befOk (Region.before ops).toList 0 ops.toList && nodupN (dstsOf ops.toList)) (opsD P A ci.call v rid ops (Region.before ops).toList 0 [] ops.toList (clrG st) k) none

def nTmps (v : Var) : Nat := match P.funcs[v.f]? with
  | some fn => fn.ntmps
  | none => 0
def retI {R : Type} (v : Var) (fin : AV → Heap → Option R) (st : St) : Option R :=
  match P.funcs[v.f]? with
  | none => none
  | some fn => match mapO (resVar P st) fn.results.toList with
    | none => none
    | some avs => fin (oneOf avs) st.hp
def goI {R : Type} (ci : CI A) (v : Var) (fin : AV → Heap → Option R) : Nat → List Item → St → Option R
  | 0, _, _ => none
  | N + 1, todo, st => match todo with
    | [] => retI P v fin st
    | .inBlock _ :: k => goI ci v fin N k st
    | .code c :: k => match c with
      | .skip => goI ci v fin N k st
      | .seq a b => goI ci v fin N (.code a :: .code b :: k) st
      | .block id a => goI ci v fin N (.code a :: .inBlock id :: k) st
      | .exit id => match exitTo id k with
        | some k' => goI ci v fin N k' st
        | none => none
      | .ret => retI P v fin st
      | .cond x a b => match st.ev [] x with
        | .val .bool t => cond t (goI ci v fin N (.code a :: k) st) (goI ci v fin N (.code b :: k) st)
        | .unk c t => cond c none (cond t (goI ci v fin N (.code a :: k) st) (goI ci v fin N (.code b :: k) st))
        | _ => none
      | .region id ops draw => regionX P A ci v id ops draw st fun st' => goI ci v fin N k st'
      | _ => none
    | _ => none
def bodyOf (v : Var) : List Item := match P.funcs[v.f]? with
  | some fn => match fn.body with
    | some c => [.code c]
    | none => [.code (.refuse "")]
  | none => [.code (.refuse "")]
def deep : Nat := 100000
def inlD (call : (u : Nat) → (A.var u).PT → Option (A.var u).RT) : Nat → (R : Type) → Nat → List AV → Heap → (AV → Heap → Option R) → Option R
  | 0, _, _, _, _, _ => none
  | n + 1, _, u, avs, hp, fin => goI P A ⟨call, inlD call n⟩ (A.var u) fin deep (bodyOf P (A.var u)) ⟨avs ++ List.replicate (nTmps P (A.var u) - avs.length) .junk, hp⟩

def go (ci : CI A) (v : Var) (cut : List Item → (lv : List (Nat × CM)) → (tupEK (cutEs lv)).T → Option v.RT) : Nat → Bool → List Item → St → Option v.RT
  | 0, _, _, _ => none
  | N + 1, first, todo, st => match todo with
    | [] => retX P v st
    | .inBlock _ :: k => go ci v cut N first k st
    | .inLoop c :: k => go ci v cut N first (.code c :: .inLoop c :: k) st
    | .code c :: k => match c with
      | .skip => go ci v cut N first k st
      | .seq a b => go ci v cut N first (.code a :: .code b :: k) st
      | .block id a => go ci v cut N first (.code a :: .inBlock id :: k) st
      | .loop a => go ci v cut N first (.code a :: .inLoop a :: k) st
      | .exit id => match exitTo id k with
        | some k' => go ci v cut N first k' st
        | none => none
      | .ret => retX P v st
      | .cond x a b => match st.ev [] x with
        | .val .bool t => cond t (go ci v cut N first (.code a :: k) st) (go ci v cut N first (.code b :: k) st)
        | .unk c t => cond c (bothA (tupEK v.retEs) (go ci v cut N first (.code a :: k) st) (go ci v cut N first (.code b :: k) st)) (cond t (go ci v cut N first (.code a :: k) st) (go ci v cut N first (.code b :: k) st))
        | _ => none
      | .region id ops draw => match first, v.cut id with
        | false, some lv => match canon st (nTmps P v) (backIds 0 v.par) lv with
          | some x => cond (alOk st lv (v.als id)) (cut (.code (.region id ops draw) :: k) lv x) none
          | none => none
        | _, _ => regionX P A ci v id ops draw st fun st' => go ci v cut N false k st'
      | _ => none
    | _ => none

def runA : Nat → (u : Nat) → Bool → List Item → St → Option (A.var u).RT
  | 0, _, _, _, _ => none
  | k + 1, u, first, todo, st => go P A
      ⟨fun w x => match A.gv w with
        | some g => g x
        | none => runA k w false (bodyOf P (A.var w)) (initSt (nTmps P (A.var w)) (A.var w).par (unT (A.var w).parEs x)),
      inlD P A (fun w x => match A.gv w with
        | some g => g x
        | none => runA k w false (bodyOf P (A.var w)) (initSt (nTmps P (A.var w)) (A.var w).par (unT (A.var w).parEs x))) 6⟩
      (A.var u) (fun todo lv x => runA k u true todo (addAl (alsOf (A.var u) todo) (mkSt (nTmps P (A.var u)) lv (unT (cutEs lv) x)))) deep first todo st

def callA (k : Nat) (u : Nat) (x : (A.var u).PT) : Option (A.var u).RT :=
  match A.gv u with
  | some g => g x
  | none => runA P A k u false (bodyOf P (A.var u)) (initSt (nTmps P (A.var u)) (A.var u).par (unT (A.var u).parEs x))
def cutA (k : Nat) (u : Nat) (todo : List Item) (lv : List (Nat × CM)) (x : (tupEK (cutEs lv)).T) : Option (A.var u).RT :=
  runA P A k u true todo (addAl (alsOf (A.var u) todo) (mkSt (nTmps P (A.var u)) lv (unT (cutEs lv) x)))

def todoC (r : Nat) : Code → List Item → Option (List Item)
  | .region id ops d, k => cond (Nat.beq id r) (some (.code (.region id ops d) :: k)) none
  | .seq a b, k => match todoC r a (.code b :: k) with
    | some t => some t
    | none => todoC r b k
  | .cond _ a b, k => match todoC r a k with
    | some t => some t
    | none => todoC r b k
  | .block id a, k => todoC r a (.inBlock id :: k)
  | .loop a, k => todoC r a (.inLoop a :: k)
  | _, _ => none
def todoAt (u r : Nat) : List Item := match bodyOf P (A.var u) with
  | [.code c] => match todoC r c [] with
    | some t => t
    | none => []
  | _ => []
end run

end Go.Ra

namespace Go.Ra

def wi8 (x : Int) : Int := IntKind.i8.wrap x
def wi16 (x : Int) : Int := IntKind.i16.wrap x
def wi32 (x : Int) : Int := IntKind.i32.wrap x
def wi64 (x : Int) : Int := IntKind.i64.wrap x
def wu8 (x : Int) : Int := IntKind.u8.wrap x
def wu16 (x : Int) : Int := IntKind.u16.wrap x
def wu32 (x : Int) : Int := IntKind.u32.wrap x
def wu64 (x : Int) : Int := IntKind.u64.wrap x
def bs (l : List Nat) : ByteArray := ⟨(l.map UInt8.ofNat).toArray⟩

def Ev {α : Type} (f : Nat → Option α) (y : α) : Prop := ∃ K, ∀ k, K ≤ k → f k = some y

theorem Ev.pure {α : Type} (y : α) : Ev (fun _ => some y) y := ⟨0, fun _ _ => rfl⟩
theorem Ev.step {α : Type} {f g : Nat → Option α} {y : α} (h : ∀ k, f (k + 1) = g k) (hg : Ev g y) : Ev f y := by
  obtain ⟨K, hK⟩ := hg
  refine ⟨K + 1, fun k hk => ?_⟩
  obtain ⟨m, rfl⟩ : ∃ m, k = m + 1 := ⟨k - 1, by omega⟩
  rw [h]
  exact hK m (by omega)
theorem Ev.bind {α β : Type} {f : Nat → Option α} {x : α} {g : Nat → α → Option β} {y : β} (hf : Ev f x) (hg : Ev (fun k => g k x) y) : Ev (fun k => (f k).bind (g k)) y := by
  obtain ⟨K, hK⟩ := hf
  obtain ⟨M, hM⟩ := hg
  refine ⟨K + M, fun k hk => ?_⟩
  show (f k).bind (g k) = some y
  rw [hK k (by omega)]
  exact hM k (by omega)
theorem Ev.cond {α : Type} {c : Bool} {a b : Nat → Option α} {y : α} (h1 : c = true → Ev a y) (h2 : c = false → Ev b y) : Ev (fun k => _root_.cond c (a k) (b k)) y := by
  cases c with
  | true => exact h1 rfl
  | false => exact h2 rfl
theorem Ev.tt {α : Type} {c : Bool} {a b : Nat → Option α} {y : α} (h : c = true) (h1 : Ev a y) : Ev (fun k => _root_.cond c (a k) (b k)) y := by
  subst h; exact h1
theorem Ev.ff {α : Type} {c : Bool} {a b : Nat → Option α} {y : α} (h : c = false) (h1 : Ev b y) : Ev (fun k => _root_.cond c (a k) (b k)) y := by
  subst h; exact h1
theorem Ev.ck {α : Type} {p : Prop} [Decidable p] {a b : Nat → Option α} {y : α} (h : p) (h1 : Ev a y) : Ev (fun k => _root_.cond (decide p) (a k) (b k)) y := .tt (by simpa using h) h1
theorem Ev.nk {α : Type} {p : Prop} [Decidable p] {a b : Nat → Option α} {y : α} (h : ¬ p) (h1 : Ev b y) : Ev (fun k => _root_.cond (decide p) (a k) (b k)) y := .ff (by simpa using h) h1
theorem Ev.dec {α : Type} {p : Prop} [Decidable p] {a b : Nat → Option α} {y : α} (h1 : p → Ev a y) (h2 : ¬ p → Ev b y) : Ev (fun k => _root_.cond (decide p) (a k) (b k)) y :=
  .cond (fun h => h1 (by simpa using h)) (fun h => h2 (by simpa using h))
theorem Ev.to {α : Type} {f : Nat → Option α} {x y : α} (h : Ev f x) (e : x = y) : Ev f y := e ▸ h
theorem Ev.ret {α : Type} {f : Nat → Option α} {x y : α} (h : Ev f x) (e : x = y) : Ev (fun k => (f k).bind fun z => some z) y := .bind h (e ▸ .pure _)
theorem Ev.off {α : Type} {f : Nat → Option α} {y : α} {n : Nat} (h : ∀ k, f (k + n) = some y) : Ev f y :=
  ⟨n, fun k hk => by obtain ⟨m, rfl⟩ : ∃ m, k = m + n := ⟨k - n, by omega⟩; exact h m⟩
theorem Ev.ex {α : Type} {f : Nat → Option α} {y : α} (h : Ev f y) : ∃ k, f k = some y := by
  obtain ⟨K, hK⟩ := h
  exact ⟨K, hK K (Nat.le_refl _)⟩

theorem wi64_id {x : Int} (h1 : -9223372036854775808 ≤ x) (h2 : x < 9223372036854775808) : wi64 x = x := by
  unfold wi64 IntKind.wrap
  simp [IntKind.signed, IntKind.bits]
  omega
theorem wu64_mod (x : Int) : wu64 x = x % 18446744073709551616 := by
  unfold wu64 IntKind.wrap
  simp [IntKind.signed, IntKind.bits]
theorem wu32_mod (x : Int) : wu32 x = x % 4294967296 := by
  unfold wu32 IntKind.wrap
  simp [IntKind.signed, IntKind.bits]
theorem wu8_mod (x : Int) : wu8 x = x % 256 := by
  unfold wu8 IntKind.wrap
  simp [IntKind.signed, IntKind.bits]
theorem wu64_id {x : Int} (h1 : 0 ≤ x) (h2 : x < 18446744073709551616) : wu64 x = x := by rw [wu64_mod]; omega
theorem wu32_id {x : Int} (h1 : 0 ≤ x) (h2 : x < 4294967296) : wu32 x = x := by rw [wu32_mod]; omega
theorem wu8_id {x : Int} (h1 : 0 ≤ x) (h2 : x < 256) : wu8 x = x := by rw [wu8_mod]; omega
theorem shr32 (x : Int) : shrI .u64 x 32 = x / 4294967296 := by
  simp [shrI, IntKind.bits]
theorem bv_of {n : Nat} {x : Int} (hx : 0 ≤ x) (hx2 : x < 2 ^ n) : (BitVec.ofInt n x).toNat = x.toNat := by
  rw [BitVec.toNat_ofInt, Int.emod_eq_of_lt hx (by simpa using hx2)]
theorem uwrap_nat {k : IntKind} (hk : k.signed = false) {m : Nat} (hm : m < 2 ^ k.bits) : k.wrap (m : Int) = m := by
  unfold IntKind.wrap
  simp only [hk, Bool.false_and, Bool.false_eq_true, if_false]
  rw [Int.emod_eq_of_lt (by omega)]
  exact_mod_cast hm
theorem toNat_lt {x : Int} {n : Nat} (hx : 0 ≤ x) (hx2 : x < 2 ^ n) : x.toNat < 2 ^ n := by
  have : ((x.toNat : Nat) : Int) < ((2 ^ n : Nat) : Int) := by
    rw [Int.toNat_of_nonneg hx]
    simpa using hx2
  exact_mod_cast this
theorem bits_and {k : IntKind} {x y : Int} (hk : k.signed = false) (hx : 0 ≤ x) (hx2 : x < 2 ^ k.bits) (hy : 0 ≤ y) (hy2 : y < 2 ^ k.bits) : bitsI .and k x y = ((x.toNat &&& y.toNat : Nat) : Int) := by
  have h := Nat.and_lt_two_pow x.toNat (toNat_lt hy hy2)
  show k.wrap (((BitVec.ofInt k.bits x) &&& (BitVec.ofInt k.bits y)).toNat : Int) = _
  rw [BitVec.toNat_and, bv_of hx hx2, bv_of hy hy2, uwrap_nat hk h]
theorem bits_or {k : IntKind} {x y : Int} (hk : k.signed = false) (hx : 0 ≤ x) (hx2 : x < 2 ^ k.bits) (hy : 0 ≤ y) (hy2 : y < 2 ^ k.bits) : bitsI .or k x y = ((x.toNat ||| y.toNat : Nat) : Int) := by
  have h := Nat.or_lt_two_pow (toNat_lt hx hx2) (toNat_lt hy hy2)
  show k.wrap (((BitVec.ofInt k.bits x) ||| (BitVec.ofInt k.bits y)).toNat : Int) = _
  rw [BitVec.toNat_or, bv_of hx hx2, bv_of hy hy2, uwrap_nat hk h]
theorem and1 {k : IntKind} {x : Int} (hk : k.signed = false) (hb : 1 ≤ k.bits) (hx : 0 ≤ x) (hx2 : x < 2 ^ k.bits) : bitsI .and k x 1 = x % 2 := by
  have : (1 : Int) < 2 ^ k.bits := by
    have h : 2 ^ 1 ≤ 2 ^ k.bits := Nat.pow_le_pow_right (by omega) hb
    have h2 : ((2 ^ 1 : Nat) : Int) ≤ ((2 ^ k.bits : Nat) : Int) := by exact_mod_cast h
    simp at h2
    omega
  rw [bits_and hk hx hx2 (by omega) this]
  show ((x.toNat &&& 1 : Nat) : Int) = _
  rw [Nat.and_one_is_mod]
  omega
theorem or_add {k : IntKind} {x y : Int} {i : Nat} (hk : k.signed = false) (hx : 0 ≤ x) (hy : 0 ≤ y) (hx2 : x * 2 ^ i + y < 2 ^ k.bits) (hi : y < 2 ^ i) : bitsI .or k (x * 2 ^ i) y = x * 2 ^ i + y := by
  have hp : (0 : Int) < 2 ^ i := Int.pow_pos (by omega)
  have h0 : 0 ≤ x * 2 ^ i := Int.mul_nonneg hx (by omega)
  rw [bits_or hk h0 (by omega) hy (by omega)]
  have e1 : (x * 2 ^ i).toNat = 2 ^ i * x.toNat := by
    have : ((x * 2 ^ i).toNat : Int) = ((2 ^ i * x.toNat : Nat) : Int) := by
      rw [Int.toNat_of_nonneg h0]
      push_cast
      rw [Int.toNat_of_nonneg hx, Int.mul_comm]
    exact_mod_cast this
  rw [e1, ← Nat.two_pow_add_eq_or_of_lt (toNat_lt hy hi)]
  push_cast
  rw [Int.toNat_of_nonneg hx, Int.toNat_of_nonneg hy, Int.mul_comm]
end Go.Ra

namespace Go.Ra

def Vb (b : Int) : List Int → Int
  | [] => 0
  | d :: l => d + b * Vb b l
def Dg (b : Int) (l : List Int) : Prop := ∀ d ∈ l, 0 ≤ d ∧ d < b
def digsF (b : Nat) : Nat → Nat → List Int
  | 0, _ => []
  | f + 1, n => if n = 0 then [] else ((n % b : Nat) : Int) :: digsF b f (n / b)
def digs (b n : Nat) : List Int := digsF b n n

theorem digsF_more {b : Nat} (hb : 2 ≤ b) : ∀ (f g n : Nat), n ≤ f → n ≤ g → digsF b f n = digsF b g n
  | 0, 0, _, _, _ => rfl
  | 0, g + 1, n, h, _ => by
    have : n = 0 := by omega
    subst this; simp [digsF]
  | f + 1, 0, n, _, h => by
    have : n = 0 := by omega
    subst this; simp [digsF]
  | f + 1, g + 1, n, h1, h2 => by
    unfold digsF
    split
    · rfl
    · rename_i hn
      have : n / b < n := Nat.div_lt_self (by omega) hb
      rw [digsF_more hb f g (n / b) (by omega) (by omega)]
theorem digs_zero (b : Nat) : digs b 0 = [] := rfl
theorem digs_pos {b n : Nat} (hb : 2 ≤ b) (hn : 0 < n) : digs b n = ((n % b : Nat) : Int) :: digs b (n / b) := by
  unfold digs
  obtain ⟨m, rfl⟩ : ∃ m, n = m + 1 := ⟨n - 1, by omega⟩
  have : (m + 1) / b < m + 1 := Nat.div_lt_self (by omega) hb
  rw [digsF, if_neg (by omega), digsF_more hb m ((m + 1) / b) _ (by omega) (Nat.le_refl _)]

theorem digs_V {b : Nat} (hb : 2 ≤ b) (n : Nat) : Vb b (digs b n) = n := by
  induction n using Nat.strongRecOn with
  | ind n ih =>
    rcases Nat.eq_zero_or_pos n with rfl | hn
    · rfl
    · rw [digs_pos hb hn, Vb, ih _ (Nat.div_lt_self hn hb)]
      have := Nat.mod_add_div n b
      exact_mod_cast this
theorem digs_dg {b : Nat} (hb : 2 ≤ b) (n : Nat) : Dg b (digs b n) := by
  induction n using Nat.strongRecOn with
  | ind n ih =>
    rcases Nat.eq_zero_or_pos n with rfl | hn
    · intro d hd; simp [digs_zero] at hd
    · rw [digs_pos hb hn]
      intro d hd
      rcases List.mem_cons.1 hd with rfl | hd
      · have := Nat.mod_lt n (show 0 < b by omega)
        exact ⟨by omega, by exact_mod_cast this⟩
      · exact ih _ (Nat.div_lt_self hn hb) d hd
theorem digs_ne {b n : Nat} (hb : 2 ≤ b) (hn : 0 < n) : digs b n ≠ [] := by rw [digs_pos hb hn]; simp
theorem digs_last {b : Nat} (hb : 2 ≤ b) (n : Nat) : (digs b n).getLast? ≠ some 0 := by
  induction n using Nat.strongRecOn with
  | ind n ih =>
    rcases Nat.eq_zero_or_pos n with rfl | hn
    · simp [digs_zero]
    · rw [digs_pos hb hn]
      have := ih _ (Nat.div_lt_self hn hb)
      rcases Nat.eq_zero_or_pos (n / b) with h0 | h0
      · rw [h0, digs_zero]
        simp only [List.getLast?_singleton, ne_eq, Option.some.injEq]
        intro hz
        have := Nat.mod_add_div n b
        rw [h0] at this
        have hz' : n % b = 0 := by exact_mod_cast hz
        omega
      · cases hd : digs b (n / b) with
        | nil => exact absurd hd (digs_ne hb h0)
        | cons x l => rw [hd] at this; simpa [List.getLast?_cons_cons] using this

theorem Vb_nonneg {b : Int} (hb : 0 ≤ b) : ∀ {l : List Int}, Dg b l → 0 ≤ Vb b l
  | [], _ => Int.le_refl _
  | d :: l, h => by
    have h1 := (h d (by simp)).1
    have h2 := Int.mul_nonneg hb (Vb_nonneg hb (l := l) fun x hx => h x (by simp [hx]))
    simp only [Vb]
    omega
theorem Vb_lt {b : Int} (hb : 0 < b) : ∀ {l : List Int}, Dg b l → Vb b l < b ^ l.length
  | [], _ => by simp [Vb]
  | d :: l, h => by
    have h1 := (h d (by simp)).2
    have h2 := Vb_lt hb (l := l) fun x hx => h x (by simp [hx])
    have h3 : b * (Vb b l + 1) ≤ b * b ^ l.length := Int.mul_le_mul_of_nonneg_left (by omega) (by omega)
    have h4 : b ^ (d :: l).length = b * b ^ l.length := by rw [List.length_cons, Int.pow_succ, Int.mul_comm]
    rw [h4]
    simp only [Vb]
    rw [Int.mul_add] at h3
    omega
theorem Dg.cons {b d : Int} {l : List Int} (h : Dg b (d :: l)) : (0 ≤ d ∧ d < b) ∧ Dg b l := ⟨h d (by simp), fun x hx => h x (by simp [hx])⟩
theorem Dg.mk {b d : Int} {l : List Int} (h : 0 ≤ d) (h2 : d < b) (hl : Dg b l) : Dg b (d :: l) := by
  intro x hx
  rcases List.mem_cons.1 hx with rfl | hx
  · exact ⟨h, h2⟩
  · exact hl x hx
theorem Dg.append {b : Int} {l m : List Int} (hl : Dg b l) (hm : Dg b m) : Dg b (l ++ m) := by
  intro x hx
  rcases List.mem_append.1 hx with h | h
  · exact hl x h
  · exact hm x h
theorem Dg.nil {b : Int} : Dg b [] := by intro x hx; simp at hx
theorem Dg.take {b : Int} {l : List Int} (h : Dg b l) (n : Nat) : Dg b (l.take n) := fun x hx => h x (List.mem_of_mem_take hx)
theorem Dg.drop {b : Int} {l : List Int} (h : Dg b l) (n : Nat) : Dg b (l.drop n) := fun x hx => h x (List.mem_of_mem_drop hx)
theorem Dg.at {b : Int} (hb : 0 < b) {l : List Int} (h : Dg b l) (i : Nat) : 0 ≤ l.getD i 0 ∧ l.getD i 0 < b := by
  rw [List.getD_eq_getElem?_getD]
  cases hi : l[i]? with
  | none => simp; exact hb
  | some x => exact h x (List.mem_of_getElem? hi)
theorem Dg.set {b : Int} {l : List Int} (h : Dg b l) (i : Nat) {x : Int} (h1 : 0 ≤ x) (h2 : x < b) : Dg b (l.set i x) := by
  intro y hy
  rcases List.mem_or_eq_of_mem_set hy with hy | rfl
  · exact h y hy
  · exact ⟨h1, h2⟩
theorem Vb_append (b : Int) : ∀ (l m : List Int), Vb b (l ++ m) = Vb b l + b ^ l.length * Vb b m
  | [], m => by simp [Vb]
  | d :: l, m => by
    simp only [List.cons_append, Vb, Vb_append b l m, List.length_cons, Int.pow_succ]
    rw [Int.mul_add, ← Int.mul_assoc, Int.mul_comm b (b ^ l.length), Int.add_assoc]
theorem Vb_one (b d : Int) : Vb b [d] = d := by simp [Vb]
theorem Vb_zeros (b : Int) (n : Nat) : Vb b (List.replicate n 0) = 0 := by
  induction n with
  | zero => rfl
  | succ n ih => simp [List.replicate_succ, Vb, ih]
theorem Dg.zeros {b : Int} (hb : 0 < b) (n : Nat) : Dg b (List.replicate n 0) := by
  intro x hx
  have := List.eq_of_mem_replicate hx
  subst this
  exact ⟨Int.le_refl _, hb⟩
theorem Vb_set (b : Int) : ∀ (l : List Int) (i : Nat) (x : Int), i < l.length → Vb b (l.set i x) = Vb b l + b ^ i * (x - l.getD i 0)
  | [], _, _, h => by simp at h
  | d :: l, 0, x, _ => by simp [Vb]; omega
  | d :: l, i + 1, x, h => by
    have := Vb_set b l i x (by simpa using h)
    simp only [List.set_cons_succ, Vb, this, List.getD_cons_succ, Int.pow_succ]
    rw [Int.mul_add, ← Int.mul_assoc, Int.mul_comm b (b ^ i), Int.add_assoc]

theorem digs_eq {b : Nat} (hb : 2 ≤ b) : ∀ {l : List Int}, Dg b l → l.getLast? ≠ some 0 → l = digs b (Vb b l).toNat
  | [], _, _ => rfl
  | d :: l, h, hz => by
    obtain ⟨⟨h1, h2⟩, h3⟩ := h.cons
    have hl : l.getLast? ≠ some 0 := by
      cases l with
      | nil => simp
      | cons x l => simpa [List.getLast?_cons_cons] using hz
    have ih := digs_eq hb h3 hl
    have hv := Vb_nonneg (b := (b : Int)) (by omega) h3
    obtain ⟨m, hm⟩ : ∃ m : Nat, Vb b l = m := ⟨(Vb b l).toNat, by omega⟩
    obtain ⟨e, rfl⟩ : ∃ e : Nat, d = e := ⟨d.toNat, by omega⟩
    have he : e < b := by exact_mod_cast h2
    have hn : (Vb b ((e : Int) :: l)).toNat = e + b * m := by
      simp only [Vb, hm]
      have : ((e : Int) + b * m) = ((e + b * m : Nat) : Int) := by push_cast; rfl
      rw [this]
      exact Int.toNat_natCast _
    rw [hn]
    have hpos : 0 < e + b * m := by
      rcases Nat.eq_zero_or_pos e with rfl | h0
      · rcases Nat.eq_zero_or_pos m with rfl | hm0
        · exfalso
          have : l = [] := by rw [ih, hm]; rfl
          subst this
          simp at hz
        · have := Nat.mul_pos (show 0 < b by omega) hm0
          omega
      · omega
    rw [digs_pos hb hpos, Nat.add_mul_mod_self_left, Nat.mod_eq_of_lt he, Nat.add_mul_div_left _ _ (show 0 < b by omega), Nat.div_eq_of_lt he, Nat.zero_add]
    rw [hm] at ih
    rw [ih]
    simp

theorem digs_len {b : Nat} (hb : 2 ≤ b) : ∀ (m n : Nat), n < b ^ m → (digs b n).length ≤ m
  | 0, n, h => by
    have : n = 0 := by simpa using h
    subst this
    simp [digs_zero]
  | m + 1, n, h => by
    rcases Nat.eq_zero_or_pos n with rfl | hn
    · simp [digs_zero]
    · rw [digs_pos hb hn, List.length_cons]
      have : n / b < b ^ m := by
        rw [Nat.div_lt_iff_lt_mul (by omega), ← Nat.pow_succ]
        exact h
      have := digs_len hb m _ this
      omega
theorem digs_len_ge {b : Nat} (hb : 2 ≤ b) {n m : Nat} (h : b ^ m ≤ n) : m < (digs b n).length := by
  have h1 := Vb_lt (b := (b : Int)) (by omega) (digs_dg hb n)
  rw [digs_V hb n] at h1
  have h2 : n < b ^ (digs b n).length := by exact_mod_cast h1
  have h3 : b ^ m < b ^ (digs b n).length := Nat.lt_of_le_of_lt h h2
  exact (Nat.pow_lt_pow_iff_right (by omega)).1 h3
theorem digs_lt_of_len {b : Nat} (hb : 2 ≤ b) {m n : Nat} (h : (digs b m).length < (digs b n).length) : m < n := by
  rcases Nat.lt_or_ge m n with z | z
  · exact z
  · exfalso
    have h1 := Vb_lt (b := (b : Int)) (by omega) (digs_dg hb m)
    rw [digs_V hb m] at h1
    have h2 : m < b ^ (digs b m).length := by exact_mod_cast h1
    have := digs_len hb (digs b m).length n (by omega)
    omega

theorem lset_eq (l : List Int) (i : Nat) (x : Int) (h : i < l.length) : (l.set i x).getD i 0 = x := by
  rw [List.getD_eq_getElem?_getD, List.getElem?_set_self h]; rfl
theorem lset_ne (l : List Int) {i j : Nat} (x : Int) (h : i ≠ j) : (l.set i x).getD j 0 = l.getD j 0 := by
  rw [List.getD_eq_getElem?_getD, List.getElem?_set_ne h, ← List.getD_eq_getElem?_getD]
theorem getD_zeros (n p : Nat) : (List.replicate n (0 : Int)).getD p 0 = 0 := by
  rw [List.getD_eq_getElem?_getD, List.getElem?_replicate]
  split <;> rfl
theorem drop_consI {l : List Int} {i : Nat} (h : i < l.length) : l.drop i = l.getD i 0 :: l.drop (i + 1) := by
  rw [List.drop_eq_getElem_cons h, List.getD_eq_getElem?_getD, List.getElem?_eq_getElem h]
  rfl
theorem digs_at {b : Nat} (hb : 2 ≤ b) : ∀ (i n : Nat), (digs b n).getD i 0 = ((n / b ^ i % b : Nat) : Int)
  | 0, n => by
    rcases Nat.eq_zero_or_pos n with rfl | hn
    · simp [digs_zero]
    · rw [digs_pos hb hn]
      simp
  | i + 1, n => by
    rcases Nat.eq_zero_or_pos n with rfl | hn
    · simp [digs_zero]
    · rw [digs_pos hb hn, List.getD_cons_succ, digs_at hb i, Nat.div_div_eq_div_mul, ← Nat.pow_succ']
theorem digs_drop {b : Nat} (hb : 2 ≤ b) : ∀ (i n : Nat), (digs b n).drop i = digs b (n / b ^ i)
  | 0, n => by simp
  | i + 1, n => by
    rcases Nat.eq_zero_or_pos n with rfl | hn
    · simp [digs_zero]
    · rw [digs_pos hb hn, List.drop_succ_cons, digs_drop hb i, Nat.div_div_eq_div_mul, ← Nat.pow_succ']
theorem div_step {b h q r t : Nat} (hb : 0 < b) (h1 : h / b = q) (h2 : h % b = r) (ht : t < 2) : (2 * h + t) / b = (if b ≤ 2 * r + t then 2 * q + 1 else 2 * q) ∧ (2 * h + t) % b = (if b ≤ 2 * r + t then 2 * r + t - b else 2 * r + t) := by
  have hh := Nat.div_add_mod h b
  rw [h1, h2] at hh
  have hr : r < b := h2 ▸ Nat.mod_lt h hb
  split
  · rename_i hc
    have e : 2 * h + t = b * (2 * q + 1) + (2 * r + t - b) := by
      rw [← hh, Nat.mul_add, Nat.mul_add, Nat.mul_left_comm]
      omega
    rw [e, Nat.mul_add_div hb, Nat.mul_add_mod, Nat.div_eq_of_lt (by omega), Nat.mod_eq_of_lt (by omega)]
    omega
  · rename_i hc
    have e : 2 * h + t = b * (2 * q) + (2 * r + t) := by
      rw [← hh, Nat.mul_add, Nat.mul_left_comm]
      omega
    rw [e, Nat.mul_add_div hb, Nat.mul_add_mod, Nat.div_eq_of_lt (by omega), Nat.mod_eq_of_lt (by omega)]
    omega
end Go.Ra
