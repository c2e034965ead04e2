/- The functions that these laws reach: how their calls are read, and the equations that they obey. Printed by a program of this session's own; Lean checks each equation. -/
import Derived.Test.YtognnibmcifjeaaDoorK1
import Derived.Test.YtognnibmcifjeaaDoorProg
import Derived.KernelRfl
import Derived.Lib.Bytealg
import Derived.Lib.SlTrimSet
import Derived.Lib.Replace
import Derived.Lib.Split
namespace Go.Proofs.YtognnibmcifjeaaDoor.Eq
open Go Go.Ra
set_option linter.unusedVariables false
def var3 : Var := ⟨3, [(.byv .str), (.byv (.int .i64)), (.byv (.int .u8)), (.byv (.int .u8))], [(.byv .bool)], fun _ => none, fun _ _ => false, fun _ _ => none, fun _ => [], 0⟩
def var4 : Var := ⟨4, [(.byv .str)], [(.byv (.pair (.int .i64) (.int .i64))), (.byv (.int .i64))], fun _ => none, fun _ _ => false, fun _ _ => none, fun _ => [], 0⟩
def var5 : Var := ⟨5, [(.byv .str)], [(.byv (.pair (.int .i64) (.int .i64))), (.byv (.int .i64))], fun _ => none, fun _ _ => false, fun _ _ => none, fun _ => [], 0⟩
def var6 : Var := ⟨6, [(.byv .str), (.byv (.int .i64))], [(.byv (.pair (.int .i64) (.int .i64))), (.byv (.int .i64))], fun _ => none, fun _ _ => false, fun _ _ => none, fun _ => [], 0⟩
def var7 : Var := ⟨7, [(.byv .str), (.byv (.int .i64))], [(.byv (.pair (.int .i64) (.int .i64))), (.byv (.int .i64))], fun _ => none, fun _ _ => false, fun _ _ => none, fun _ => [], 0⟩
def var8 : Var := ⟨8, [(.byv .str), (.byv (.int .u8)), (.byv (.int .u8))], [(.byv (.pair (.int .i64) (.int .i64))), (.byv (.int .i64))], fun r => if r = 7 then some [(0, (.byv .str)), (1, (.byv (.int .u8))), (2, (.byv (.int .u8))), (6, (.box 23 [(.byv (.int .i64)), (.byv (.int .i64))])), (8, (.byv .str)), (9, (.byv .str)), (11, (.byv .str))] else none, fun _ _ => false, fun _ _ => none, fun _ => [], 0⟩
def var9 : Var := ⟨9, [(.byv .str), (.byv (.int .u8)), (.byv (.int .u8))], [(.byv (.pair (.int .i64) (.int .i64))), (.byv (.int .i64))], fun _ => none, fun _ _ => false, fun _ _ => none, fun _ => [], 0⟩
def var10 : Var := ⟨10, [], [(.byv .bool)], fun _ => none, fun _ _ => false, fun _ _ => none, fun _ => [], 0⟩
def var11 : Var := ⟨11, [(.byv .str), (.byv .str)], [(.byv .str), (.byv .bool)], fun _ => none, fun _ _ => false, fun _ _ => none, fun _ => [], 0⟩
def var12 : Var := ⟨12, [(.byv .str), (.byv .str)], [(.byv .str), (.byv .str), (.byv .bool)], fun _ => none, fun _ _ => false, fun _ _ => none, fun _ => [], 0⟩
def var13 : Var := ⟨13, [(.byv .str)], [(.byv .bool)], fun r => if r = 4 then some [(0, (.byv .str)), (7, (.byv (.int .i64))), (8, (.byv (.int .i64)))] else none, fun _ _ => false, fun _ _ => none, fun _ => [], 0⟩
def var14 : Var := ⟨14, [(.byv .str), (.byv .str)], [(.byv .str)], fun _ => none, fun _ _ => false, fun _ _ => none, fun _ => [], 0⟩
def var15 : Var := ⟨15, [(.byv .str)], [(.byv (.int .i64)), (.byv .bool)], fun r => if r = 3 then some [(0, (.byv .str)), (4, (.byv (.int .i64))), (7, (.byv (.int .i64))), (8, (.byv (.int .i64)))] else none, fun _ _ => false, fun _ _ => none, fun _ => [], 0⟩
def var16 : Var := ⟨16, [(.byv .str)], [(.byv .bool)], fun _ => none, fun _ _ => false, fun _ _ => none, fun _ => [], 0⟩
def var17 : Var := ⟨17, [(.byv .str)], [(.byv .bool)], fun _ => none, fun _ _ => false, fun _ _ => none, fun _ => [], 0⟩
def var18 : Var := ⟨18, [(.byv .bool), (.byv .str), (.byv .str)], [(.byv (.pair (.int .i64) (.int .i64))), (.byv (.int .i64))], fun r => if r = 3 then some [(0, (.byv .bool)), (1, (.byv .str)), (2, (.byv .str)), (6, (.box 23 [(.byv (.int .i64)), (.byv (.int .i64))])), (8, (.box 56 [(.byv .bool), (.byv (.sl (.int .u32)))])), (14, (.byv (.int .i64))), (15, (.byv (.int .i64)))] else none, fun _ _ => false, fun _ _ => none, fun _ => [], 0⟩
def var19 : Var := ⟨19, [(.byv (.int .i64)), (.byv (.int .i64)), (.byv (.int .i64))], [(.byv .bool)], fun _ => none, fun _ _ => false, fun _ _ => none, fun _ => [], 0⟩
def var20 : Var := ⟨20, [(.byv (.int .i64)), (.byv (.int .i64)), (.byv (.int .i64))], [(.byv .bool)], fun _ => none, fun _ _ => false, fun _ _ => none, fun _ => [], 0⟩
def var21 : Var := ⟨21, [(.byv (.int .u8)), (.byv (.int .u8))], [(.byv .bool)], fun r => if r = 2 then some [(0, (.byv (.int .u8))), (1, (.byv (.int .u8))), (9, (.own 5 (.int .u8))), (10, (.byv (.int .i64))), (11, (.byv (.int .i64)))] else none, fun _ _ => false, fun _ _ => none, fun _ => [], 0⟩
def var22 : Var := ⟨22, [(.byv .str), (.byv .str), (.byv .str)], [(.byv .str)], fun _ => none, fun _ _ => false, fun _ _ => none, fun _ => [], 0⟩
def var23 : Var := ⟨23, [(.byv .str), (.byv (.int .u8))], [(.byv (.int .i64))], fun _ => none, fun _ _ => false, fun _ _ => none, fun _ => [], 0⟩
def var24 : Var := ⟨24, [(.byv .str), (.byv (.int .u8))], [(.byv .bool)], fun r => if r = 3 then some [(14, (.own 9 .str)), (15, (.byv (.int .i64))), (16, (.byv (.int .i64)))] else none, fun _ _ => false, fun _ _ => none, fun _ => [], 0⟩
def var25 : Var := ⟨25, [(.byv (.int .u8)), (.byv (.int .u8))], [(.byv (.int .i64))], fun _ => none, fun _ _ => false, fun _ _ => none, fun _ => [], 0⟩
def var26 : Var := ⟨26, [(.byv .str), (.byv (.int .u8))], [(.byv .str)], fun r => if r = 2 then some [(0, (.byv .str)), (1, (.byv (.int .u8))), (5, (.byv .str))] else none, fun _ _ => false, fun _ _ => none, fun _ => [], 0⟩
def var27 : Var := ⟨27, [(.byv .str), (.byv .str)], [(.byv .str), (.byv .bool)], fun _ => none, fun _ _ => false, fun _ _ => none, fun _ => [], 0⟩
def var28 : Var := ⟨28, [(.byv .str), (.byv .str)], [(.byv .str), (.byv .str), (.byv .bool)], fun _ => none, fun _ _ => false, fun _ _ => none, fun _ => [], 0⟩
def var36 : Var := ⟨36, [(.byv .str), (.byv (.int .u8)), (.byv (.int .u8))], [(.byv .bool)], fun r => if r = 2 then some [(0, (.byv .str)), (1, (.byv (.int .u8))), (2, (.byv (.int .u8))), (9, (.byv (.int .i64))), (10, (.byv (.int .i64)))] else none, fun _ _ => false, fun _ _ => none, fun _ => [], 0⟩
def var37 : Var := ⟨37, [(.byv (.int .i64))], [(.byv (.pair .bool (.sl (.int .u32))))], fun _ => none, fun _ _ => false, fun _ _ => none, fun _ => [], 0⟩
def var38 : Var := ⟨38, [(.byv (.pair .bool (.sl (.int .u32)))), (.byv (.pair .bool (.sl (.int .u32))))], [(.byv (.pair .bool (.sl (.int .u32))))], fun r => if r = 3 then some [(2, (.box 56 [(.byv .bool), (.byv (.sl (.int .u32)))])), (3, (.box 56 [(.byv .bool), (.byv (.sl (.int .u32)))])), (4, (.box 56 [(.byv .bool), (.own 74 (.int .u32))])), (5, (.own 74 (.int .u32))), (20, (.byv (.sl (.int .u32)))), (21, (.byv (.int .i64))), (22, (.byv (.int .i64)))] else if r = 7 then some [(2, (.box 56 [(.byv .bool), (.byv (.sl (.int .u32)))])), (3, (.box 56 [(.byv .bool), (.byv (.sl (.int .u32)))])), (4, (.box 56 [(.byv .bool), (.own 74 (.int .u32))])), (5, (.own 74 (.int .u32))), (6, (.byv (.int .i64))), (7, (.byv (.int .u32))), (8, (.byv (.int .u64))), (20, (.byv (.sl (.int .u32)))), (21, (.byv (.int .i64))), (22, (.byv (.int .i64))), (28, (.byv (.sl (.int .u32)))), (29, (.byv (.int .i64))), (30, (.byv (.int .i64)))] else none, fun _ _ => false, fun _ _ => none, fun _ => [], 0⟩
def var39 : Var := ⟨39, [(.byv (.pair .bool (.sl (.int .u32)))), (.byv (.pair .bool (.sl (.int .u32))))], [(.byv (.pair .bool (.sl (.int .u32))))], fun _ => none, fun _ _ => false, fun _ _ => none, fun _ => [], 0⟩
def var40 : Var := ⟨40, [(.byv (.pair .bool (.sl (.int .u32))))], [(.byv (.int .i64))], fun _ => none, fun _ _ => false, fun _ _ => none, fun _ => [], 0⟩
def var41 : Var := ⟨41, [(.byv (.pair .bool (.sl (.int .u32))))], [(.byv (.pair .bool (.sl (.int .u32))))], fun _ => none, fun _ _ => false, fun _ _ => none, fun _ => [], 0⟩
def var42 : Var := ⟨42, [(.byv (.pair .bool (.sl (.int .u32)))), (.byv (.int .i64))], [(.byv (.pair (.int .i64) (.int .i64))), (.byv (.int .i64))], fun _ => none, fun _ _ => false, fun _ _ => none, fun _ => [], 0⟩
def var43 : Var := ⟨43, [(.byv .str), (.byv .str), (.byv .str), (.byv (.int .i64))], [(.byv .str)], fun r => if r = 8 then some [(0, (.byv .str)), (1, (.byv .str)), (2, (.byv .str)), (3, (.byv (.int .i64)))] else if r = 13 then some [(0, (.byv .str)), (1, (.byv .str)), (2, (.byv .str)), (10, (.bld 81 5)), (11, (.byv (.int .i64))), (52, (.byv (.int .i64))), (53, (.byv (.int .i64)))] else if r = 21 then some [(0, (.byv .str)), (2, (.byv .str)), (10, (.bld 81 5)), (11, (.byv (.int .i64))), (77, (.byv (.int .i64))), (78, (.byv (.int .i64)))] else none, fun r i => (Nat.beq r 8 && Nat.beq i 0), fun _ _ => none, fun _ => [], 0⟩
def var44 : Var := ⟨44, [(.byv .str), (.byv (.int .u8))], [(.byv (.int .i64))], fun _ => none, fun _ _ => false, fun _ _ => none, fun _ => [], 0⟩
def var45 : Var := ⟨45, [(.byv .str), (.byv .str)], [(.own 9 .str)], fun _ => none, fun _ _ => false, fun _ _ => none, fun _ => [], 0⟩
def var46 : Var := ⟨46, [(.byv .str), (.byv .str)], [(.byv .str)], fun _ => none, fun _ _ => false, fun _ _ => none, fun _ => [], 0⟩
def var47 : Var := ⟨47, [(.byv (.int .u8))], [(.byv .bool)], fun _ => none, fun _ _ => false, fun _ _ => none, fun _ => [], 0⟩
def var48 : Var := ⟨48, [(.byv .str), (.byv .str)], [(.byv .bool)], fun _ => none, fun _ _ => false, fun _ _ => none, fun _ => [], 0⟩
def var49 : Var := ⟨49, [(.byv .str), (.byv .str)], [(.byv (.int .i64))], fun _ => none, fun _ _ => false, fun _ _ => none, fun _ => [], 0⟩
def var51 : Var := ⟨51, [(.byv .str)], [(.byv (.int .i32)), (.byv (.int .i64))], fun _ => none, fun _ _ => false, fun _ _ => none, fun _ => [], 0⟩
def var54 : Var := ⟨54, [(.byv .bool), (.byv (.sl (.int .u32)))], [(.byv (.pair .bool (.sl (.int .u32))))], fun _ => none, fun _ _ => false, fun _ _ => none, fun _ => [], 0⟩
def var55 : Var := ⟨55, [(.byv (.sl (.int .u32))), (.byv (.sl (.int .u32)))], [(.own 74 (.int .u32))], fun r => if r = 3 then some [(0, (.byv (.sl (.int .u32)))), (1, (.byv (.sl (.int .u32))))] else if r = 6 then some [(1, (.byv (.sl (.int .u32)))), (5, (.own 74 (.int .u32))), (6, (.byv (.int .u64))), (20, (.byv (.sl (.int .u32)))), (21, (.byv (.int .i64))), (22, (.byv (.int .i64)))] else none, fun _ _ => false, fun _ _ => none, fun _ => [], 0⟩
def var56 : Var := ⟨56, [(.byv (.sl (.int .u32))), (.byv (.sl (.int .u32)))], [(.byv (.int .i64))], fun r => if r = 4 then some [(0, (.byv (.sl (.int .u32)))), (1, (.byv (.sl (.int .u32)))), (5, (.byv (.int .i64)))] else none, fun _ _ => false, fun _ _ => none, fun _ => [], 0⟩
def var57 : Var := ⟨57, [(.byv (.sl (.int .u32))), (.byv (.sl (.int .u32)))], [(.byv (.sl (.int .u32)))], fun r => if r = 4 then some [(1, (.byv (.sl (.int .u32)))), (5, (.own 74 (.int .u32))), (6, (.byv (.int .u64))), (13, (.byv (.sl (.int .u32)))), (14, (.byv (.int .i64))), (15, (.byv (.int .i64)))] else none, fun _ _ => false, fun _ _ => none, fun _ => [], 0⟩
def var58 : Var := ⟨58, [(.byv (.pair .bool (.sl (.int .u32)))), (.byv (.int .i64))], [(.byv (.int .i64)), (.byv .bool)], fun r => if r = 5 then some [(1, (.byv (.int .i64))), (2, (.box 56 [(.byv .bool), (.byv (.sl (.int .u32)))])), (6, (.byv (.int .u64))), (14, (.byv (.sl (.int .u32)))), (15, (.byv (.int .i64))), (16, (.byv (.int .i64)))] else none, fun _ _ => false, fun _ _ => none, fun _ => [], 0⟩
def var59 : Var := ⟨59, [(.byv .str), (.byv .str)], [(.byv (.int .i64))], fun _ => none, fun _ _ => false, fun _ _ => none, fun _ => [], 0⟩
def var61 : Var := ⟨61, [(.byv .str), (.byv .str)], [(.byv (.int .i64))], fun _ => none, fun _ _ => false, fun _ _ => none, fun _ => [], 0⟩
def var66 : Var := ⟨66, [(.byv .str), (.byv .str)], [(.byv .str)], fun _ => none, fun _ _ => false, fun _ _ => none, fun _ => [], 0⟩
def var70 : Var := ⟨70, [(.byv .str)], [(.byv (.int .i32)), (.byv (.int .i64))], fun _ => none, fun _ _ => false, fun _ _ => none, fun _ => [], 0⟩
def var73 : Var := ⟨73, [(.byv (.sl (.int .u32)))], [(.byv (.sl (.int .u32)))], fun r => if r = 1 then some [(0, (.byv (.sl (.int .u32))))] else none, fun _ _ => false, fun _ _ => none, fun _ => [], 0⟩
def varT (u : Nat) : Var := cond (Nat.blt u 28) (cond (Nat.blt u 15) (cond (Nat.blt u 9) (cond (Nat.blt u 6) (cond (Nat.blt u 4) (var3) (cond (Nat.blt u 5) (var4) (var5))) (cond (Nat.blt u 7) (var6) (cond (Nat.blt u 8) (var7) (var8)))) (cond (Nat.blt u 12) (cond (Nat.blt u 10) (var9) (cond (Nat.blt u 11) (var10) (var11))) (cond (Nat.blt u 13) (var12) (cond (Nat.blt u 14) (var13) (var14))))) (cond (Nat.blt u 21) (cond (Nat.blt u 18) (cond (Nat.blt u 16) (var15) (cond (Nat.blt u 17) (var16) (var17))) (cond (Nat.blt u 19) (var18) (cond (Nat.blt u 20) (var19) (var20)))) (cond (Nat.blt u 24) (cond (Nat.blt u 22) (var21) (cond (Nat.blt u 23) (var22) (var23))) (cond (Nat.blt u 26) (cond (Nat.blt u 25) (var24) (var25)) (cond (Nat.blt u 27) (var26) (var27)))))) (cond (Nat.blt u 48) (cond (Nat.blt u 41) (cond (Nat.blt u 38) (cond (Nat.blt u 36) (var28) (cond (Nat.blt u 37) (var36) (var37))) (cond (Nat.blt u 39) (var38) (cond (Nat.blt u 40) (var39) (var40)))) (cond (Nat.blt u 44) (cond (Nat.blt u 42) (var41) (cond (Nat.blt u 43) (var42) (var43))) (cond (Nat.blt u 46) (cond (Nat.blt u 45) (var44) (var45)) (cond (Nat.blt u 47) (var46) (var47))))) (cond (Nat.blt u 57) (cond (Nat.blt u 54) (cond (Nat.blt u 49) (var48) (cond (Nat.blt u 51) (var49) (var51))) (cond (Nat.blt u 55) (var54) (cond (Nat.blt u 56) (var55) (var56)))) (cond (Nat.blt u 61) (cond (Nat.blt u 58) (var57) (cond (Nat.blt u 59) (var58) (var59))) (cond (Nat.blt u 70) (cond (Nat.blt u 66) (var61) (var66)) (cond (Nat.blt u 73) (var70) (var73))))))
def gf14 : (ByteArray × ByteArray) → Option ByteArray := fun (a, b) => cond (decide (a.size ≤ 9223372036854775807) && decide (b.size < 4294967281) && b.data.toList.all fun x => decide (x.toNat < 128)) (some ⟨(Lib.trimS a.data.toList b.data.toList).toArray⟩) none
def g14 : var14.PT → Option var14.RT := gf14
def gf44 : (ByteArray × Int) → Option Int := fun (a, b) => some (Lib.indexByte a.data.toList b.toNat.toUInt8)
def g44 : var44.PT → Option var44.RT := gf44
def gf45 : (ByteArray × ByteArray) → Option (List ByteArray) := fun (a, b) => cond (decide (a.size < 4294967281) && decide (1 ≤ b.size)) (some (Lib.splitB b 0 (Lib.countB a b) a)) none
def g45 : var45.PT → Option var45.RT := gf45
def gf59 : (ByteArray × ByteArray) → Option Int := fun (a, b) => cond (decide (b.size = 1)) (some ((Lib.countB a b : Nat) : Int)) none
def g59 : var59.PT → Option var59.RT := gf59
def gvT (u : Nat) : Option ((varT u).PT → Option (varT u).RT) := if h : u = 59 then some (h ▸ g59) else if h : u = 45 then some (h ▸ g45) else if h : u = 44 then some (h ▸ g44) else if h : u = 14 then some (h ▸ g14) else none
def prT (f : FuncId) : Option Prim := if f = 63 then some (.bStr 81 5) else if f = 62 then some (.wStr 81 5) else if f = 60 then some (.bGr 81 5) else none
def A : An := ⟨varT, fun f => f, gvT, prT⟩
noncomputable abbrev P : Program := Tryd.prog
/-- internal/stringslite.HasPrefix -/
noncomputable def stringslite_HasPrefix (k : Nat) (a : ByteArray) (b : ByteArray) : Option Bool := callA P A k 48 (a, b)
theorem stringslite_HasPrefix_eq (k : Nat) (a : ByteArray) (b : ByteArray) : stringslite_HasPrefix (k + 1) a b =
  cond ((!(decide ((a.size : Int) ≥ (b.size : Int)))) || (decide (0 ≤ (b.size : Int)))) (
  cond ((!(decide ((a.size : Int) ≥ (b.size : Int)))) || (decide ((b.size : Int) ≤ (a.size : Int)))) (
  some (cond (decide ((a.size : Int) ≥ (b.size : Int))) (eqS (a.extract 0 (b.size : Int).toNat) b) false)) none) none := by kernel_rfl
/-- internal/stringslite.CutPrefix -/
noncomputable def stringslite_CutPrefix (k : Nat) (a : ByteArray) (b : ByteArray) : Option (ByteArray × Bool) := callA P A k 27 (a, b)
theorem stringslite_CutPrefix_eq (k : Nat) (a : ByteArray) (b : ByteArray) : stringslite_CutPrefix (k + 1) a b =
  (stringslite_HasPrefix k a b).bind fun y0 =>
  cond (!y0) (
    some (a, false)) (
    cond (decide (0 ≤ (b.size : Int))) (
    cond (decide ((b.size : Int) ≤ (a.size : Int))) (
    some ((a.extract (b.size : Int).toNat a.size), true)) none) none) := by kernel_rfl
/-- strings.CutPrefix -/
noncomputable def strings_CutPrefix (k : Nat) (a : ByteArray) (b : ByteArray) : Option (ByteArray × Bool) := callA P A k 11 (a, b)
theorem strings_CutPrefix_eq (k : Nat) (a : ByteArray) (b : ByteArray) : strings_CutPrefix (k + 1) a b =
  (stringslite_CutPrefix k a b).bind fun y0 =>
  some y0 := by kernel_rfl
/-- internal/stringslite.IndexByte -/
noncomputable def stringslite_IndexByte (k : Nat) (a : ByteArray) (b : Int) : Option Int := callA P A k 44 (a, b)
theorem stringslite_IndexByte_eq (k : Nat) (a : ByteArray) (b : Int) : stringslite_IndexByte k a b = some (Lib.indexByte a.data.toList b.toNat.toUInt8) := by kernel_rfl
/-- internal/stringslite.Index -/
noncomputable def stringslite_Index (k : Nat) (a : ByteArray) (b : ByteArray) : Option Int := callA P A k 49 (a, b)
theorem stringslite_Index_eq (k : Nat) (a : ByteArray) (b : ByteArray) : stringslite_Index (k + 1) a b =
  cond (cond ((b.size : Int) == 0) true (eqS b a)) (
    some 0) (
    cond ((b.size : Int) == 1) (
      cond (decide (0 < (b.size : Int))) (
      (stringslite_IndexByte k a (bt b 0)).bind fun y0 =>
      some y0) none) (
      cond (decide ((b.size : Int) ≥ (a.size : Int))) (
        some (-1)) (
        none))) := by kernel_rfl
/-- internal/stringslite.Cut -/
noncomputable def stringslite_Cut (k : Nat) (a : ByteArray) (b : ByteArray) : Option (ByteArray × ByteArray × Bool) := callA P A k 28 (a, b)
theorem stringslite_Cut_eq (k : Nat) (a : ByteArray) (b : ByteArray) : stringslite_Cut (k + 1) a b =
  (stringslite_Index k a b).bind fun y0 =>
  cond (decide (y0 ≥ 0)) (
    cond (decide (0 ≤ y0)) (
    cond (decide (y0 ≤ (a.size : Int))) (
    cond (decide (0 ≤ (wi64 (y0 + (b.size : Int))))) (
    cond (decide ((wi64 (y0 + (b.size : Int))) ≤ (a.size : Int))) (
    some ((a.extract 0 y0.toNat), ((a.extract (wi64 (y0 + (b.size : Int))).toNat a.size), true))) none) none) none) none) (
    some (a, ((bs []), false))) := by kernel_rfl
/-- strings.Cut -/
noncomputable def strings_Cut (k : Nat) (a : ByteArray) (b : ByteArray) : Option (ByteArray × ByteArray × Bool) := callA P A k 12 (a, b)
theorem strings_Cut_eq (k : Nat) (a : ByteArray) (b : ByteArray) : strings_Cut (k + 1) a b =
  (stringslite_Cut k a b).bind fun y0 =>
  some y0 := by kernel_rfl
/-- interchange/interchangeref1.isDigits -/
noncomputable def interchangeref1_isDigits (k : Nat) (a : ByteArray) : Option Bool := callA P A k 13 a
noncomputable def interchangeref1_isDigits_c4 (k : Nat) (s0 : ByteArray) (s7 : Int) (s8 : Int) : Option Bool := cutA P A k 13 (todoAt P A 13 4) [(0, (.byv .str)), (7, (.byv (.int .i64))), (8, (.byv (.int .i64)))] (s0, s7, s8)
theorem interchangeref1_isDigits_eq (k : Nat) (a : ByteArray) : interchangeref1_isDigits (k + 1) a =
  cond (eqS a (bs [])) (
    some false) (
    interchangeref1_isDigits_c4 k a (a.size : Int) 0) := by kernel_rfl
theorem interchangeref1_isDigits_c4_eq (k : Nat) (s0 : ByteArray) (s7 : Int) (s8 : Int) : interchangeref1_isDigits_c4 (k + 1) s0 s7 s8 =
  cond (decide (s8 < s7)) (
    cond (decide (0 ≤ s8)) (
    cond (decide (s8 < (s0.size : Int))) (
    cond ((!(!(decide ((bt s0 s8) < 48)))) || (decide (0 ≤ s8))) (
    cond ((!(!(decide ((bt s0 s8) < 48)))) || (decide (s8 < (s0.size : Int)))) (
    cond (cond (decide ((bt s0 s8) < 48)) true (decide ((bt s0 s8) > 57))) (
      some false) (
      interchangeref1_isDigits_c4 k s0 s7 (wi64 (s8 + 1)))) none) none) none) none) (
    some true) := by kernel_rfl
/-- strings.Trim -/
noncomputable def strings_Trim (k : Nat) (a : ByteArray) (b : ByteArray) : Option ByteArray := callA P A k 14 (a, b)
theorem strings_Trim_eq (k : Nat) (a : ByteArray) (b : ByteArray) : strings_Trim k a b = cond (decide (a.size ≤ 9223372036854775807) && decide (b.size < 4294967281) && b.data.toList.all fun x => decide (x.toNat < 128)) (some ⟨(Lib.trimS a.data.toList b.data.toList).toArray⟩) none := by kernel_rfl
/-- interchange/interchangeref1.ofDigits -/
noncomputable def interchangeref1_ofDigits (k : Nat) (a : ByteArray) : Option (Int × Bool) := callA P A k 15 a
noncomputable def interchangeref1_ofDigits_c3 (k : Nat) (s0 : ByteArray) (s4 : Int) (s7 : Int) (s8 : Int) : Option (Int × Bool) := cutA P A k 15 (todoAt P A 15 3) [(0, (.byv .str)), (4, (.byv (.int .i64))), (7, (.byv (.int .i64))), (8, (.byv (.int .i64)))] (s0, s4, s7, s8)
theorem interchangeref1_ofDigits_eq (k : Nat) (a : ByteArray) : interchangeref1_ofDigits (k + 1) a =
  interchangeref1_ofDigits_c3 k a 0 (a.size : Int) 0 := by kernel_rfl
theorem interchangeref1_ofDigits_c3_eq (k : Nat) (s0 : ByteArray) (s4 : Int) (s7 : Int) (s8 : Int) : interchangeref1_ofDigits_c3 (k + 1) s0 s4 s7 s8 =
  cond (decide (s8 < s7)) (
    cond (decide (0 ≤ s8)) (
    cond (decide (s8 < (s0.size : Int))) (
    cond (decide ((wi64 ((wi64 (10 * s4)) + (wi64 (wu8 ((bt s0 s8) - 48))))) > 1000000000000000)) (
      some (0, false)) (
      interchangeref1_ofDigits_c3 k s0 (wi64 ((wi64 (10 * s4)) + (wi64 (wu8 ((bt s0 s8) - 48))))) s7 (wi64 (s8 + 1)))) none) none) (
    some (s4, true)) := by kernel_rfl
/-- interchange/interchangeref1.ReadText -/
noncomputable def interchangeref1_ReadText (k : Nat) (a : ByteArray) : Option ((Int × Int) × Int) := callA P A k 4 a
theorem interchangeref1_ReadText_eq (k : Nat) (a : ByteArray) : interchangeref1_ReadText (k + 1) a =
  cond (decide ((a.size : Int) > 40)) (
    some ((0, 0), 10)) (
    (strings_CutPrefix k a (bs [45])).bind fun y0 =>
    (strings_Cut k y0.1 (bs [46])).bind fun y1 =>
    (interchangeref1_isDigits k y1.1).bind fun y2 =>
    cond ((!((!(!y2)) && (decide ((y1.1.size : Int) > 1)))) || true) (
    cond ((!((!(!y2)) && (decide ((y1.1.size : Int) > 1)))) || (decide (0 < (y1.1.size : Int)))) (
    (cond ((!(cond (!y2) true (cond (decide ((y1.1.size : Int) > 1)) ((bt y1.1 0) == 48) false))) && y1.2.2) (interchangeref1_isDigits k y1.2.1) (some false)).bind fun y3 =>
    cond (cond (cond (cond (!y2) true (cond (decide ((y1.1.size : Int) > 1)) ((bt y1.1 0) == 48) false)) true (cond y1.2.2 (!y3) false)) true (decide ((y1.2.1.size : Int) > 9))) (
      some ((0, 0), 10)) (
      cond ((!y0.2) || (decide (y1.1.size + y1.2.1.size ≤ 9223372036854775807))) (
      (cond y0.2 (strings_Trim k (y1.1 ++ y1.2.1) (bs [48])) (some (bs []))).bind fun y4 =>
      cond (cond y0.2 (eqS y4 (bs [])) false) (
        some ((0, 0), 10)) (
        cond (decide (y1.1.size + y1.2.1.size ≤ 9223372036854775807)) (
        (interchangeref1_ofDigits k (y1.1 ++ y1.2.1)).bind fun y5 =>
        cond (!y5.2) (
          some ((0, 0), 1)) (
          cond y0.2 (
            some (((wi64 (0 - y5.1)), (y1.2.1.size : Int)), 0)) (
            some ((y5.1, (y1.2.1.size : Int)), 0)))) none)) none)) none) none) := by kernel_rfl
/-- interchange/kit.InBytes -/
noncomputable def kit_InBytes (k : Nat) (a : ByteArray) (b : Int) (c : Int) : Option Bool := callA P A k 36 (a, b, c)
noncomputable def kit_InBytes_c2 (k : Nat) (s0 : ByteArray) (s1 : Int) (s2 : Int) (s9 : Int) (s10 : Int) : Option Bool := cutA P A k 36 (todoAt P A 36 2) [(0, (.byv .str)), (1, (.byv (.int .u8))), (2, (.byv (.int .u8))), (9, (.byv (.int .i64))), (10, (.byv (.int .i64)))] (s0, s1, s2, s9, s10)
theorem kit_InBytes_eq (k : Nat) (a : ByteArray) (b : Int) (c : Int) : kit_InBytes (k + 1) a b c =
  kit_InBytes_c2 k a b c (a.size : Int) 0 := by kernel_rfl
theorem kit_InBytes_c2_eq (k : Nat) (s0 : ByteArray) (s1 : Int) (s2 : Int) (s9 : Int) (s10 : Int) : kit_InBytes_c2 (k + 1) s0 s1 s2 s9 s10 =
  cond (decide (s10 < s9)) (
    cond (decide (0 ≤ s10)) (
    cond (decide (s10 < (s0.size : Int))) (
    cond ((!(!(decide ((bt s0 s10) < s1)))) || (decide (0 ≤ s10))) (
    cond ((!(!(decide ((bt s0 s10) < s1)))) || (decide (s10 < (s0.size : Int)))) (
    cond (cond (decide ((bt s0 s10) < s1)) true (decide ((bt s0 s10) > s2))) (
      some false) (
      kit_InBytes_c2 k s0 s1 s2 s9 (wi64 (s10 + 1)))) none) none) none) none) (
    some true) := by kernel_rfl
/-- interchange/kit.IsDigits -/
noncomputable def kit_IsDigits (k : Nat) (a : ByteArray) : Option Bool := callA P A k 17 a
theorem kit_IsDigits_eq (k : Nat) (a : ByteArray) : kit_IsDigits (k + 1) a =
  (cond (!(eqS a (bs []))) (kit_InBytes k a 48 57) (some false)).bind fun y0 =>
  some (cond (!(eqS a (bs []))) y0 false) := by kernel_rfl
/-- interchange/amount.isWhole -/
noncomputable def amount_isWhole (k : Nat) (a : ByteArray) : Option Bool := callA P A k 16 a
theorem amount_isWhole_eq (k : Nat) (a : ByteArray) : amount_isWhole (k + 1) a =
  (kit_IsDigits k a).bind fun y0 =>
  cond ((!(y0 && (!((a.size : Int) == 1)))) || true) (
  cond ((!(y0 && (!((a.size : Int) == 1)))) || (decide (0 < (a.size : Int)))) (
  some (cond y0 (cond ((a.size : Int) == 1) true ((bt a 0) != 48)) false)) none) none := by kernel_rfl
/-- interchange/whole.trimmed -/
noncomputable def whole_trimmed (k : Nat) (a : List Int) : Option (List Int) := callA P A k 73 a
noncomputable def whole_trimmed_c1 (k : Nat) (s0 : List Int) : Option (List Int) := cutA P A k 73 (todoAt P A 73 1) [(0, (.byv (.sl (.int .u32))))] s0
theorem whole_trimmed_eq (k : Nat) (a : List Int) : whole_trimmed (k + 1) a =
  whole_trimmed_c1 k a := by kernel_rfl
theorem whole_trimmed_c1_eq (k : Nat) (s0 : List Int) : whole_trimmed_c1 (k + 1) s0 =
  cond ((!(decide ((s0.length : Int) > 0))) || (decide (0 ≤ (wi64 ((s0.length : Int) - 1))))) (
  cond ((!(decide ((s0.length : Int) > 0))) || (decide ((wi64 ((s0.length : Int) - 1)) < (s0.length : Int)))) (
  cond (cond (decide ((s0.length : Int) > 0)) ((s0.getD (wi64 ((s0.length : Int) - 1)).toNat 0) == 0) false) (
    cond (decide (0 ≤ (wi64 ((s0.length : Int) - 1)))) (
    cond (decide ((wi64 ((s0.length : Int) - 1)) ≤ (s0.length : Int))) (
    whole_trimmed_c1 k (s0.take (wi64 ((s0.length : Int) - 1)).toNat)) none) none) (
    some s0)) none) none := by kernel_rfl
/-- interchange/whole.made -/
noncomputable def whole_made (k : Nat) (a : Bool) (b : List Int) : Option (Bool × List Int) := callA P A k 54 (a, b)
theorem whole_made_eq (k : Nat) (a : Bool) (b : List Int) : whole_made (k + 1) a b =
  (whole_trimmed k b).bind fun y0 =>
  some ((cond a (decide ((y0.length : Int) > 0)) false), y0) := by kernel_rfl
/-- interchange/whole.Of -/
noncomputable def whole_Of (k : Nat) (a : Int) : Option (Bool × List Int) := callA P A k 37 a
theorem whole_Of_eq (k : Nat) (a : Int) : whole_Of (k + 1) a =
  cond (decide (a < 0)) (
    (whole_made k (decide (a < 0)) [(wu32 (wu64 (0 - (wu64 a)))), (wu32 (shrI .u64 (wu64 (0 - (wu64 a))) 32))]).bind fun y0 =>
    some y0) (
    (whole_made k (decide (a < 0)) [(wu32 (wu64 a)), (wu32 (shrI .u64 (wu64 a) 32))]).bind fun y1 =>
    some y1) := by kernel_rfl
/-- (interchange/whole.Int).Times -/
noncomputable def whole_Int_Times (k : Nat) (a : Bool × List Int) (b : Bool × List Int) : Option (Bool × List Int) := callA P A k 38 (a, b)
noncomputable def whole_Int_Times_c3 (k : Nat) (s2 : Bool × List Int) (s3 : Bool × List Int) (s4 : Bool × List Int) (s5 : List Int) (s20 : List Int) (s21 : Int) (s22 : Int) : Option (Bool × List Int) := cutA P A k 38 (todoAt P A 38 3) [(2, (.box 56 [(.byv .bool), (.byv (.sl (.int .u32)))])), (3, (.box 56 [(.byv .bool), (.byv (.sl (.int .u32)))])), (4, (.box 56 [(.byv .bool), (.own 74 (.int .u32))])), (5, (.own 74 (.int .u32))), (20, (.byv (.sl (.int .u32)))), (21, (.byv (.int .i64))), (22, (.byv (.int .i64)))] (s2, s3, s4, s5, s20, s21, s22)
noncomputable def whole_Int_Times_c7 (k : Nat) (s2 : Bool × List Int) (s3 : Bool × List Int) (s4 : Bool × List Int) (s5 : List Int) (s6 : Int) (s7 : Int) (s8 : Int) (s20 : List Int) (s21 : Int) (s22 : Int) (s28 : List Int) (s29 : Int) (s30 : Int) : Option (Bool × List Int) := cutA P A k 38 (todoAt P A 38 7) [(2, (.box 56 [(.byv .bool), (.byv (.sl (.int .u32)))])), (3, (.box 56 [(.byv .bool), (.byv (.sl (.int .u32)))])), (4, (.box 56 [(.byv .bool), (.own 74 (.int .u32))])), (5, (.own 74 (.int .u32))), (6, (.byv (.int .i64))), (7, (.byv (.int .u32))), (8, (.byv (.int .u64))), (20, (.byv (.sl (.int .u32)))), (21, (.byv (.int .i64))), (22, (.byv (.int .i64))), (28, (.byv (.sl (.int .u32)))), (29, (.byv (.int .i64))), (30, (.byv (.int .i64)))] (s2, s3, s4, s5, s6, s7, s8, s20, s21, s22, s28, s29, s30)
theorem whole_Int_Times_eq (k : Nat) (a : Bool × List Int) (b : Bool × List Int) : whole_Int_Times (k + 1) a b =
  cond (decide (0 ≤ (wi64 ((a.2.length : Int) + (b.2.length : Int))))) (
  cond (decide ((wi64 ((a.2.length : Int) + (b.2.length : Int))).toNat ≤ 35184372088832)) (
  whole_Int_Times_c3 k a b (false, []) (List.replicate (wi64 ((a.2.length : Int) + (b.2.length : Int))).toNat 0) a.2 (a.2.length : Int) 0) none) none := by kernel_rfl
theorem whole_Int_Times_c3_eq (k : Nat) (s2 : Bool × List Int) (s3 : Bool × List Int) (s4 : Bool × List Int) (s5 : List Int) (s20 : List Int) (s21 : Int) (s22 : Int) : whole_Int_Times_c3 (k + 1) s2 s3 s4 s5 s20 s21 s22 =
  cond (decide (s22 < s21)) (
    cond (decide (0 ≤ s22)) (
    cond (decide (s22 < (s20.length : Int))) (
    whole_Int_Times_c7 k s2 s3 s4 s5 s22 (s20.getD s22.toNat 0) 0 s20 s21 s22 s3.2 (s3.2.length : Int) 0) none) none) (
    (whole_made k (!(s2.1 == s3.1)) s5).bind fun y0 =>
    some y0) := by kernel_rfl
theorem whole_Int_Times_c7_eq (k : Nat) (s2 : Bool × List Int) (s3 : Bool × List Int) (s4 : Bool × List Int) (s5 : List Int) (s6 : Int) (s7 : Int) (s8 : Int) (s20 : List Int) (s21 : Int) (s22 : Int) (s28 : List Int) (s29 : Int) (s30 : Int) : whole_Int_Times_c7 (k + 1) s2 s3 s4 s5 s6 s7 s8 s20 s21 s22 s28 s29 s30 =
  cond (decide (s30 < s29)) (
    cond (decide (0 ≤ s30)) (
    cond (decide (s30 < (s28.length : Int))) (
    cond (decide (0 ≤ (wi64 (s6 + s30)))) (
    cond (decide ((wi64 (s6 + s30)) < (s5.length : Int))) (
    cond (decide (0 ≤ (wi64 (s6 + s30)))) (
    cond (decide ((wi64 (s6 + s30)) < (s5.length : Int))) (
    whole_Int_Times_c7 k s2 s3 s4 (s5.set (wi64 (s6 + s30)).toNat (wu32 (wu64 (s8 + (wu64 ((wu64 (s5.getD (wi64 (s6 + s30)).toNat 0)) + (wu64 ((wu64 s7) * (wu64 (s28.getD s30.toNat 0)))))))))) s6 s7 (shrI .u64 (wu64 (s8 + (wu64 ((wu64 (s5.getD (wi64 (s6 + s30)).toNat 0)) + (wu64 ((wu64 s7) * (wu64 (s28.getD s30.toNat 0)))))))) 32) s20 s21 s22 s28 s29 (wi64 (s30 + 1))) none) none) none) none) none) none) (
    cond (decide (0 ≤ (wi64 (s6 + (s3.2.length : Int))))) (
    cond (decide ((wi64 (s6 + (s3.2.length : Int))) < (s5.length : Int))) (
    whole_Int_Times_c3 k s2 s3 s4 (s5.set (wi64 (s6 + (s3.2.length : Int))).toNat (wu32 s8)) s20 s21 (wi64 (s22 + 1))) none) none) := by kernel_rfl
/-- interchange/whole.sum -/
noncomputable def whole_sum (k : Nat) (a : List Int) (b : List Int) : Option (List Int) := callA P A k 55 (a, b)
noncomputable def whole_sum_c3 (k : Nat) (s0 : List Int) (s1 : List Int) : Option (List Int) := cutA P A k 55 (todoAt P A 55 3) [(0, (.byv (.sl (.int .u32)))), (1, (.byv (.sl (.int .u32))))] (s0, s1)
noncomputable def whole_sum_c6 (k : Nat) (s1 : List Int) (s5 : List Int) (s6 : Int) (s20 : List Int) (s21 : Int) (s22 : Int) : Option (List Int) := cutA P A k 55 (todoAt P A 55 6) [(1, (.byv (.sl (.int .u32)))), (5, (.own 74 (.int .u32))), (6, (.byv (.int .u64))), (20, (.byv (.sl (.int .u32)))), (21, (.byv (.int .i64))), (22, (.byv (.int .i64)))] (s1, s5, s6, s20, s21, s22)
theorem whole_sum_eq (k : Nat) (a : List Int) (b : List Int) : whole_sum (k + 1) a b =
  cond (decide ((a.length : Int) < (b.length : Int))) (
    whole_sum_c3 k b a) (
    whole_sum_c3 k a b) := by kernel_rfl
theorem whole_sum_c3_eq (k : Nat) (s0 : List Int) (s1 : List Int) : whole_sum_c3 (k + 1) s0 s1 =
  cond (decide (0 ≤ (wi64 ((s0.length : Int) + 1)))) (
  cond (decide ((wi64 ((s0.length : Int) + 1)).toNat ≤ 35184372088832)) (
  whole_sum_c6 k s1 (List.replicate 0 0) 0 s0 (s0.length : Int) 0) none) none := by kernel_rfl
theorem whole_sum_c6_eq (k : Nat) (s1 : List Int) (s5 : List Int) (s6 : Int) (s20 : List Int) (s21 : Int) (s22 : Int) : whole_sum_c6 (k + 1) s1 s5 s6 s20 s21 s22 =
  cond (decide (s22 < s21)) (
    cond (decide (0 ≤ s22)) (
    cond (decide (s22 < (s20.length : Int))) (
    cond (decide (s22 < (s1.length : Int))) (
      cond (decide (0 ≤ s22)) (
      cond (decide (s22 < (s1.length : Int))) (
      cond (decide (s5.length + 1 < 35184372088832)) (
      whole_sum_c6 k s1 (s5 ++ [(wu32 (wu64 ((wu64 (s6 + (wu64 (s20.getD s22.toNat 0)))) + (wu64 (s1.getD s22.toNat 0)))))]) (shrI .u64 (wu64 ((wu64 (s6 + (wu64 (s20.getD s22.toNat 0)))) + (wu64 (s1.getD s22.toNat 0)))) 32) s20 s21 (wi64 (s22 + 1))) none) none) none) (
      cond (decide (s5.length + 1 < 35184372088832)) (
      whole_sum_c6 k s1 (s5 ++ [(wu32 (wu64 (s6 + (wu64 (s20.getD s22.toNat 0)))))]) (shrI .u64 (wu64 (s6 + (wu64 (s20.getD s22.toNat 0)))) 32) s20 s21 (wi64 (s22 + 1))) none)) none) none) (
    cond (decide (s5.length + 1 < 35184372088832)) (
    some (s5 ++ [(wu32 s6)])) none) := by kernel_rfl
/-- interchange/whole.compare -/
noncomputable def whole_compare (k : Nat) (a : List Int) (b : List Int) : Option Int := callA P A k 56 (a, b)
noncomputable def whole_compare_c4 (k : Nat) (s0 : List Int) (s1 : List Int) (s5 : Int) : Option Int := cutA P A k 56 (todoAt P A 56 4) [(0, (.byv (.sl (.int .u32)))), (1, (.byv (.sl (.int .u32)))), (5, (.byv (.int .i64)))] (s0, s1, s5)
theorem whole_compare_eq (k : Nat) (a : List Int) (b : List Int) : whole_compare (k + 1) a b =
  cond ((a.length : Int) != (b.length : Int)) (
    some (wi64 ((a.length : Int) - (b.length : Int)))) (
    whole_compare_c4 k a b (wi64 ((a.length : Int) - 1))) := by kernel_rfl
theorem whole_compare_c4_eq (k : Nat) (s0 : List Int) (s1 : List Int) (s5 : Int) : whole_compare_c4 (k + 1) s0 s1 s5 =
  cond (decide (s5 ≥ 0)) (
    cond (decide (0 ≤ s5)) (
    cond (decide (s5 < (s0.length : Int))) (
    cond (decide (0 ≤ s5)) (
    cond (decide (s5 < (s1.length : Int))) (
    cond ((s0.getD s5.toNat 0) != (s1.getD s5.toNat 0)) (
      cond (decide (0 ≤ s5)) (
      cond (decide (s5 < (s0.length : Int))) (
      cond (decide (0 ≤ s5)) (
      cond (decide (s5 < (s1.length : Int))) (
      cond (decide ((s0.getD s5.toNat 0) < (s1.getD s5.toNat 0))) (
        some (-1)) (
        some 1)) none) none) none) none) (
      whole_compare_c4 k s0 s1 (wi64 (s5 - 1)))) none) none) none) none) (
    some 0) := by kernel_rfl
/-- interchange/whole.less -/
noncomputable def whole_less (k : Nat) (a : List Int) (b : List Int) : Option (List Int) := callA P A k 57 (a, b)
noncomputable def whole_less_c4 (k : Nat) (s1 : List Int) (s5 : List Int) (s6 : Int) (s13 : List Int) (s14 : Int) (s15 : Int) : Option (List Int) := cutA P A k 57 (todoAt P A 57 4) [(1, (.byv (.sl (.int .u32)))), (5, (.own 74 (.int .u32))), (6, (.byv (.int .u64))), (13, (.byv (.sl (.int .u32)))), (14, (.byv (.int .i64))), (15, (.byv (.int .i64)))] (s1, s5, s6, s13, s14, s15)
theorem whole_less_eq (k : Nat) (a : List Int) (b : List Int) : whole_less (k + 1) a b =
  cond (decide (0 ≤ (a.length : Int))) (
  cond (decide ((a.length : Int).toNat ≤ 35184372088832)) (
  whole_less_c4 k b (List.replicate 0 0) 0 a (a.length : Int) 0) none) none := by kernel_rfl
theorem whole_less_c4_eq (k : Nat) (s1 : List Int) (s5 : List Int) (s6 : Int) (s13 : List Int) (s14 : Int) (s15 : Int) : whole_less_c4 (k + 1) s1 s5 s6 s13 s14 s15 =
  cond (decide (s15 < s14)) (
    cond (decide (0 ≤ s15)) (
    cond (decide (s15 < (s13.length : Int))) (
    cond (decide (s15 < (s1.length : Int))) (
      cond (decide (0 ≤ s15)) (
      cond (decide (s15 < (s1.length : Int))) (
      cond (decide (s5.length + 1 < 35184372088832)) (
      whole_less_c4 k s1 (s5 ++ [(wu32 (wu64 ((wu64 ((wu64 (s13.getD s15.toNat 0)) - s6)) - (wu64 (s1.getD s15.toNat 0)))))]) (bitsI .and .u64 (shrI .u64 (wu64 ((wu64 ((wu64 (s13.getD s15.toNat 0)) - s6)) - (wu64 (s1.getD s15.toNat 0)))) 32) 1) s13 s14 (wi64 (s15 + 1))) none) none) none) (
      cond (decide (s5.length + 1 < 35184372088832)) (
      whole_less_c4 k s1 (s5 ++ [(wu32 (wu64 ((wu64 (s13.getD s15.toNat 0)) - s6)))]) (bitsI .and .u64 (shrI .u64 (wu64 ((wu64 (s13.getD s15.toNat 0)) - s6)) 32) 1) s13 s14 (wi64 (s15 + 1))) none)) none) none) (
    (whole_trimmed k s5).bind fun y0 =>
    some y0) := by kernel_rfl
/-- (interchange/whole.Int).Plus -/
noncomputable def whole_Int_Plus (k : Nat) (a : Bool × List Int) (b : Bool × List Int) : Option (Bool × List Int) := callA P A k 39 (a, b)
theorem whole_Int_Plus_eq (k : Nat) (a : Bool × List Int) (b : Bool × List Int) : whole_Int_Plus (k + 1) a b =
  cond (a.1 == b.1) (
    (whole_sum k a.2 b.2).bind fun y0 =>
    (whole_made k a.1 y0).bind fun y1 =>
    some y1) (
    (whole_compare k a.2 b.2).bind fun y2 =>
    cond (decide (y2 ≥ 0)) (
      (whole_less k a.2 b.2).bind fun y3 =>
      (whole_made k a.1 y3).bind fun y4 =>
      some y4) (
      (whole_less k b.2 a.2).bind fun y5 =>
      (whole_made k b.1 y5).bind fun y6 =>
      some y6)) := by kernel_rfl
/-- (interchange/whole.Int).Sign -/
noncomputable def whole_Int_Sign (k : Nat) (a : Bool × List Int) : Option Int := callA P A k 40 a
theorem whole_Int_Sign_eq (k : Nat) (a : Bool × List Int) : whole_Int_Sign (k + 1) a =
  cond a.1 (
    some (-1)) (
    cond ((a.2.length : Int) == 0) (
      some 0) (
      some 1)) := by kernel_rfl
/-- (interchange/whole.Int).Minus -/
noncomputable def whole_Int_Minus (k : Nat) (a : Bool × List Int) : Option (Bool × List Int) := callA P A k 41 a
theorem whole_Int_Minus_eq (k : Nat) (a : Bool × List Int) : whole_Int_Minus (k + 1) a =
  (whole_made k (!a.1) a.2).bind fun y0 =>
  some y0 := by kernel_rfl
/-- (interchange/whole.Int).Int -/
noncomputable def whole_Int_Int (k : Nat) (a : Bool × List Int) (b : Int) : Option (Int × Bool) := callA P A k 58 (a, b)
noncomputable def whole_Int_Int_c5 (k : Nat) (s1 : Int) (s2 : Bool × List Int) (s6 : Int) (s14 : List Int) (s15 : Int) (s16 : Int) : Option (Int × Bool) := cutA P A k 58 (todoAt P A 58 5) [(1, (.byv (.int .i64))), (2, (.box 56 [(.byv .bool), (.byv (.sl (.int .u32)))])), (6, (.byv (.int .u64))), (14, (.byv (.sl (.int .u32)))), (15, (.byv (.int .i64))), (16, (.byv (.int .i64)))] (s1, s2, s6, s14, s15, s16)
theorem whole_Int_Int_eq (k : Nat) (a : Bool × List Int) (b : Int) : whole_Int_Int (k + 1) a b =
  cond (decide ((a.2.length : Int) > 2)) (
    some (0, false)) (
    whole_Int_Int_c5 k b a 0 a.2 (a.2.length : Int) 0) := by kernel_rfl
theorem whole_Int_Int_c5_eq (k : Nat) (s1 : Int) (s2 : Bool × List Int) (s6 : Int) (s14 : List Int) (s15 : Int) (s16 : Int) : whole_Int_Int_c5 (k + 1) s1 s2 s6 s14 s15 s16 =
  cond (decide (s16 < s15)) (
    cond (decide (0 ≤ s16)) (
    cond (decide (s16 < (s14.length : Int))) (
    cond (decide (0 ≤ (wi64 (32 * s16)))) (
    whole_Int_Int_c5 k s1 s2 (bitsI .or .u64 s6 (shlI .u64 (wu64 (s14.getD s16.toNat 0)) (wi64 (32 * s16)))) s14 s15 (wi64 (s16 + 1))) none) none) none) (
    cond (decide (s6 > (wu64 s1))) (
      some (0, false)) (
      cond s2.1 (
        some ((wi64 (0 - (wi64 s6))), true)) (
        some ((wi64 s6), true)))) := by kernel_rfl
/-- interchange/amount.Made -/
noncomputable def amount_Made (k : Nat) (a : Bool × List Int) (b : Int) : Option ((Int × Int) × Int) := callA P A k 42 (a, b)
theorem amount_Made_eq (k : Nat) (a : Bool × List Int) (b : Int) : amount_Made (k + 1) a b =
  (whole_Int_Int k a 1000000000000000).bind fun y0 =>
  cond (!y0.2) (
    some ((0, 0), 1)) (
    some ((y0.1, b), 0)) := by kernel_rfl
/-- interchange/amount.read -/
noncomputable def amount_read (k : Nat) (a : Bool) (b : ByteArray) (c : ByteArray) : Option ((Int × Int) × Int) := callA P A k 18 (a, b, c)
noncomputable def amount_read_c3 (k : Nat) (s0 : Bool) (s1 : ByteArray) (s2 : ByteArray) (s6 : Int × Int) (s8 : Bool × List Int) (s14 : Int) (s15 : Int) : Option ((Int × Int) × Int) := cutA P A k 18 (todoAt P A 18 3) [(0, (.byv .bool)), (1, (.byv .str)), (2, (.byv .str)), (6, (.box 23 [(.byv (.int .i64)), (.byv (.int .i64))])), (8, (.box 56 [(.byv .bool), (.byv (.sl (.int .u32)))])), (14, (.byv (.int .i64))), (15, (.byv (.int .i64)))] (s0, s1, s2, s6, s8, s14, s15)
theorem amount_read_eq (k : Nat) (a : Bool) (b : ByteArray) (c : ByteArray) : amount_read (k + 1) a b c =
  (whole_Of k 0).bind fun y0 =>
  cond (decide (b.size + c.size ≤ 9223372036854775807)) (
  amount_read_c3 k a b c (0, 0) y0 ((b ++ c).size : Int) 0) none := by kernel_rfl
theorem amount_read_c3_eq (k : Nat) (s0 : Bool) (s1 : ByteArray) (s2 : ByteArray) (s6 : Int × Int) (s8 : Bool × List Int) (s14 : Int) (s15 : Int) : amount_read_c3 (k + 1) s0 s1 s2 s6 s8 s14 s15 =
  cond (decide (s15 < s14)) (
    (whole_Of k 10).bind fun y1 =>
    (whole_Int_Times k s8 y1).bind fun y2 =>
    cond (decide (s1.size + s2.size ≤ 9223372036854775807)) (
    cond (decide (0 ≤ s15)) (
    cond (decide (s15 < ((s1 ++ s2).size : Int))) (
    (whole_Of k (wi64 (wu8 ((bt (s1 ++ s2) s15) - 48)))).bind fun y3 =>
    (whole_Int_Plus k y2 y3).bind fun y4 =>
    amount_read_c3 k s0 s1 s2 s6 y4 s14 (wi64 (s15 + 1))) none) none) none) (
    cond s0 (
      (whole_Int_Sign k s8).bind fun y5 =>
      cond (y5 == 0) (
        some ((0, 0), 10)) (
        (whole_Int_Minus k s8).bind fun y6 =>
        (amount_Made k y6 (s2.size : Int)).bind fun y7 =>
        some y7)) (
      (amount_Made k s8 (s2.size : Int)).bind fun y8 =>
      some y8)) := by kernel_rfl
/-- interchange/amount.ReadText -/
noncomputable def amount_ReadText (k : Nat) (a : ByteArray) : Option ((Int × Int) × Int) := callA P A k 5 a
theorem amount_ReadText_eq (k : Nat) (a : ByteArray) : amount_ReadText (k + 1) a =
  (strings_CutPrefix k a (bs [45])).bind fun y0 =>
  (strings_Cut k y0.1 (bs [46])).bind fun y1 =>
  (cond (!(decide ((a.size : Int) > 40))) (amount_isWhole k y1.1) (some false)).bind fun y2 =>
  (cond ((!(cond (decide ((a.size : Int) > 40)) true (!y2))) && y1.2.2) (kit_IsDigits k y1.2.1) (some false)).bind fun y3 =>
  cond (cond (cond (decide ((a.size : Int) > 40)) true (!y2)) true (cond y1.2.2 (cond (!y3) true (decide ((y1.2.1.size : Int) > 9))) false)) (
    some ((0, 0), 10)) (
    (amount_read k y0.2 y1.1 y1.2.1).bind fun y4 =>
    some y4) := by kernel_rfl
/-- interchange/interchangeref1.within -/
noncomputable def interchangeref1_within (k : Nat) (a : Int) (b : Int) (c : Int) : Option Bool := callA P A k 19 (a, b, c)
theorem interchangeref1_within_eq (k : Nat) (a : Int) (b : Int) (c : Int) : interchangeref1_within (k + 1) a b c =
  some (cond (decide (b ≤ a)) (decide (a ≤ c)) false) := by kernel_rfl
/-- interchange/interchangeref1.ReadImplied -/
noncomputable def interchangeref1_ReadImplied (k : Nat) (a : ByteArray) (b : Int) : Option ((Int × Int) × Int) := callA P A k 6 (a, b)
theorem interchangeref1_ReadImplied_eq (k : Nat) (a : ByteArray) (b : Int) : interchangeref1_ReadImplied (k + 1) a b =
  (interchangeref1_within k b 0 9).bind fun y0 =>
  cond (!y0) (
    some ((0, 0), 1)) (
    (strings_CutPrefix k a (bs [45])).bind fun y1 =>
    (cond (!(decide ((a.size : Int) > 30))) (interchangeref1_isDigits k y1.1) (some false)).bind fun y2 =>
    cond (cond (decide ((a.size : Int) > 30)) true (!y2)) (
      some ((0, 0), 10)) (
      (interchangeref1_ofDigits k y1.1).bind fun y3 =>
      cond (!y3.2) (
        some ((0, 0), 1)) (
        cond y1.2 (
          some (((wi64 (0 - y3.1)), b), 0)) (
          some ((y3.1, b), 0))))) := by kernel_rfl
/-- interchange/kit.Outside -/
noncomputable def kit_Outside (k : Nat) (a : Int) (b : Int) (c : Int) : Option Bool := callA P A k 20 (a, b, c)
theorem kit_Outside_eq (k : Nat) (a : Int) (b : Int) (c : Int) : kit_Outside (k + 1) a b c =
  some (cond (decide (a < b)) true (decide (a > c))) := by kernel_rfl
/-- interchange/amount.ReadImplied -/
noncomputable def amount_ReadImplied (k : Nat) (a : ByteArray) (b : Int) : Option ((Int × Int) × Int) := callA P A k 7 (a, b)
theorem amount_ReadImplied_eq (k : Nat) (a : ByteArray) (b : Int) : amount_ReadImplied (k + 1) a b =
  (kit_Outside k b 0 9).bind fun y0 =>
  cond y0 (
    some ((0, 0), 1)) (
    (strings_CutPrefix k a (bs [45])).bind fun y1 =>
    (cond (!(decide ((a.size : Int) > 30))) (kit_IsDigits k y1.1) (some false)).bind fun y2 =>
    cond (cond (decide ((a.size : Int) > 30)) true (!y2)) (
      some ((0, 0), 10)) (
      (amount_read k false y1.1 (bs [])).bind fun y3 =>
      cond (y3.2 != 0) (
        some ((0, 0), y3.2)) (
        cond y1.2 (
          some (((wi64 (0 - y3.1.1)), b), 0)) (
          some ((y3.1.1, b), 0))))) := by kernel_rfl
/-- interchange/interchangeref1.marks -/
noncomputable def interchangeref1_marks (k : Nat) (a : Int) (b : Int) : Option Bool := callA P A k 21 (a, b)
noncomputable def interchangeref1_marks_c2 (k : Nat) (s0 : Int) (s1 : Int) (s9 : List Int) (s10 : Int) (s11 : Int) : Option Bool := cutA P A k 21 (todoAt P A 21 2) [(0, (.byv (.int .u8))), (1, (.byv (.int .u8))), (9, (.own 5 (.int .u8))), (10, (.byv (.int .i64))), (11, (.byv (.int .i64)))] (s0, s1, s9, s10, s11)
theorem interchangeref1_marks_eq (k : Nat) (a : Int) (b : Int) : interchangeref1_marks (k + 1) a b =
  interchangeref1_marks_c2 k a b [a, b] 2 0 := by kernel_rfl
theorem interchangeref1_marks_c2_eq (k : Nat) (s0 : Int) (s1 : Int) (s9 : List Int) (s10 : Int) (s11 : Int) : interchangeref1_marks_c2 (k + 1) s0 s1 s9 s10 s11 =
  cond (decide (s11 < s10)) (
    cond (decide (0 ≤ s11)) (
    cond (decide (s11 < (s9.length : Int))) (
    cond (cond (cond (cond (cond (decide ((s9.getD s11.toNat 0) ≥ 48)) (decide ((s9.getD s11.toNat 0) ≤ 57)) false) true ((s9.getD s11.toNat 0) == 45)) true (decide ((s9.getD s11.toNat 0) < 32))) true (decide ((s9.getD s11.toNat 0) > 126))) (
      some false) (
      interchangeref1_marks_c2 k s0 s1 s9 s10 (wi64 (s11 + 1)))) none) none) (
    some (s0 != s1)) := by kernel_rfl
/-- strings.Count -/
noncomputable def strings_Count (k : Nat) (a : ByteArray) (b : ByteArray) : Option Int := callA P A k 59 (a, b)
theorem strings_Count_eq (k : Nat) (a : ByteArray) (b : ByteArray) : strings_Count k a b = cond (decide (b.size = 1)) (some ((Lib.countB a b : Nat) : Int)) none := by kernel_rfl
/-- strings.Index -/
noncomputable def strings_Index (k : Nat) (a : ByteArray) (b : ByteArray) : Option Int := callA P A k 61 (a, b)
theorem strings_Index_eq (k : Nat) (a : ByteArray) (b : ByteArray) : strings_Index (k + 1) a b =
  (stringslite_Index k a b).bind fun y0 =>
  some y0 := by kernel_rfl
/-- unicode/utf8.decodeRuneInStringSlow -/
noncomputable def utf8_decodeRuneInStringSlow (k : Nat) (a : ByteArray) : Option (Int × Int) := callA P A k 70 a
theorem utf8_decodeRuneInStringSlow_eq (k : Nat) (a : ByteArray) : utf8_decodeRuneInStringSlow (k + 1) a =
  cond (decide ((a.size : Int) < 1)) (
    some (65533, 0)) (
    cond (decide (0 < (a.size : Int))) (
    none) none) := by kernel_rfl
/-- unicode/utf8.DecodeRuneInString -/
noncomputable def utf8_DecodeRuneInString (k : Nat) (a : ByteArray) : Option (Int × Int) := callA P A k 51 a
theorem utf8_DecodeRuneInString_eq (k : Nat) (a : ByteArray) : utf8_DecodeRuneInString (k + 1) a =
  cond ((!(!(eqS a (bs [])))) || true) (
  cond ((!(!(eqS a (bs [])))) || (decide (0 < (a.size : Int)))) (
  cond (cond (!(eqS a (bs []))) (decide ((bt a 0) < 128)) false) (
    cond (decide (0 < (a.size : Int))) (
    some ((wi32 (bt a 0)), 1)) none) (
    (utf8_decodeRuneInStringSlow k a).bind fun y0 =>
    some y0)) none) none := by kernel_rfl
/-- strings.Replace -/
noncomputable def strings_Replace (k : Nat) (a : ByteArray) (b : ByteArray) (c : ByteArray) (d : Int) : Option ByteArray := callA P A k 43 (a, b, c, d)
noncomputable def strings_Replace_c8 (k : Nat) (s0 : ByteArray) (s1 : ByteArray) (s2 : ByteArray) (s3 : Int) : Option ByteArray := cutA P A k 43 (todoAt P A 43 8) [(0, (.byv .str)), (1, (.byv .str)), (2, (.byv .str)), (3, (.byv (.int .i64)))] (s0, s1, s2, s3)
noncomputable def strings_Replace_c13 (k : Nat) (s0 : ByteArray) (s1 : ByteArray) (s2 : ByteArray) (s10 : ByteArray) (s11 : Int) (s52 : Int) (s53 : Int) : Option ByteArray := cutA P A k 43 (todoAt P A 43 13) [(0, (.byv .str)), (1, (.byv .str)), (2, (.byv .str)), (10, (.bld 81 5)), (11, (.byv (.int .i64))), (52, (.byv (.int .i64))), (53, (.byv (.int .i64)))] (s0, s1, s2, s10, s11, s52, s53)
noncomputable def strings_Replace_c21 (k : Nat) (s0 : ByteArray) (s2 : ByteArray) (s10 : ByteArray) (s11 : Int) (s77 : Int) (s78 : Int) : Option ByteArray := cutA P A k 43 (todoAt P A 43 21) [(0, (.byv .str)), (2, (.byv .str)), (10, (.bld 81 5)), (11, (.byv (.int .i64))), (77, (.byv (.int .i64))), (78, (.byv (.int .i64)))] (s0, s2, s10, s11, s77, s78)
theorem strings_Replace_eq (k : Nat) (a : ByteArray) (b : ByteArray) (c : ByteArray) (d : Int) : strings_Replace (k + 1) a b c d =
  cond (cond (eqS b c) true (d == 0)) (
    some a) (
    (strings_Count k a b).bind fun y0 =>
    cond (y0 == 0) (
      some a) (
      cond (cond (decide (d < 0)) true (decide (y0 < d))) (
        strings_Replace_c8 k a b c y0) (
        strings_Replace_c8 k a b c d))) := by kernel_rfl
theorem strings_Replace_c8_eq (k : Nat) (s0 : ByteArray) (s1 : ByteArray) (s2 : ByteArray) (s3 : Int) : strings_Replace_c8 (k + 1) s0 s1 s2 s3 =
  cond (decide (0 ≤ (wi64 ((s0.size : Int) + (wi64 (s3 * (wi64 ((s2.size : Int) - (s1.size : Int))))))))) (
  cond (decide ((wi64 ((s0.size : Int) + (wi64 (s3 * (wi64 ((s2.size : Int) - (s1.size : Int))))))) ≤ 140737488355328)) (
  cond (decide ((s1.size : Int) > 0)) (
    strings_Replace_c13 k s0 s1 s2 (bs []) 0 s3 0) (
    cond (decide (0 + s2.size ≤ 140737488355328)) (
    strings_Replace_c21 k s0 s2 ((bs []) ++ s2) 0 (wi64 (s3 - 1)) 0) none)) none) none := by kernel_rfl
theorem strings_Replace_c13_eq (k : Nat) (s0 : ByteArray) (s1 : ByteArray) (s2 : ByteArray) (s10 : ByteArray) (s11 : Int) (s52 : Int) (s53 : Int) : strings_Replace_c13 (k + 1) s0 s1 s2 s10 s11 s52 s53 =
  cond (decide (s53 < s52)) (
    cond (decide (0 ≤ s11)) (
    cond (decide (s11 ≤ (s0.size : Int))) (
    (strings_Index k (s0.extract s11.toNat s0.size) s1).bind fun y1 =>
    cond (decide (0 ≤ s11)) (
    cond (decide (s11 ≤ (wi64 (s11 + y1)))) (
    cond (decide ((wi64 (s11 + y1)) ≤ (s0.size : Int))) (
    cond (decide (s10.size + (s0.extract s11.toNat (wi64 (s11 + y1)).toNat).size ≤ 140737488355328)) (
    cond (decide ((s10 ++ (s0.extract s11.toNat (wi64 (s11 + y1)).toNat)).size + s2.size ≤ 140737488355328)) (
    strings_Replace_c13 k s0 s1 s2 ((s10 ++ (s0.extract s11.toNat (wi64 (s11 + y1)).toNat)) ++ s2) (wi64 ((wi64 (s11 + y1)) + (s1.size : Int))) s52 (wi64 (s53 + 1))) none) none) none) none) none) none) none) (
    cond (decide (0 ≤ s11)) (
    cond (decide (s11 ≤ (s0.size : Int))) (
    cond (decide (s10.size + (s0.extract s11.toNat s0.size).size ≤ 140737488355328)) (
    some (s10 ++ (s0.extract s11.toNat s0.size))) none) none) none) := by kernel_rfl
theorem strings_Replace_c21_eq (k : Nat) (s0 : ByteArray) (s2 : ByteArray) (s10 : ByteArray) (s11 : Int) (s77 : Int) (s78 : Int) : strings_Replace_c21 (k + 1) s0 s2 s10 s11 s77 s78 =
  cond (decide (s78 < s77)) (
    cond (decide (0 ≤ s11)) (
    cond (decide (s11 ≤ (s0.size : Int))) (
    (utf8_DecodeRuneInString k (s0.extract s11.toNat s0.size)).bind fun y2 =>
    cond (decide (0 ≤ s11)) (
    cond (decide (s11 ≤ (wi64 (s11 + y2.2)))) (
    cond (decide ((wi64 (s11 + y2.2)) ≤ (s0.size : Int))) (
    cond (decide (s10.size + (s0.extract s11.toNat (wi64 (s11 + y2.2)).toNat).size ≤ 140737488355328)) (
    cond (decide ((s10 ++ (s0.extract s11.toNat (wi64 (s11 + y2.2)).toNat)).size + s2.size ≤ 140737488355328)) (
    strings_Replace_c21 k s0 s2 ((s10 ++ (s0.extract s11.toNat (wi64 (s11 + y2.2)).toNat)) ++ s2) (wi64 (s11 + y2.2)) s77 (wi64 (s78 + 1))) none) none) none) none) none) none) none) (
    cond (decide (0 ≤ s11)) (
    cond (decide (s11 ≤ (s0.size : Int))) (
    cond (decide (s10.size + (s0.extract s11.toNat s0.size).size ≤ 140737488355328)) (
    some (s10 ++ (s0.extract s11.toNat s0.size))) none) none) none) := by kernel_rfl
/-- strings.ReplaceAll -/
noncomputable def strings_ReplaceAll (k : Nat) (a : ByteArray) (b : ByteArray) (c : ByteArray) : Option ByteArray := callA P A k 22 (a, b, c)
theorem strings_ReplaceAll_eq (k : Nat) (a : ByteArray) (b : ByteArray) (c : ByteArray) : strings_ReplaceAll (k + 1) a b c =
  (strings_Replace k a b c (-1)).bind fun y0 =>
  some y0 := by kernel_rfl
/-- strings.IndexByte -/
noncomputable def strings_IndexByte (k : Nat) (a : ByteArray) (b : Int) : Option Int := callA P A k 23 (a, b)
theorem strings_IndexByte_eq (k : Nat) (a : ByteArray) (b : Int) : strings_IndexByte (k + 1) a b =
  (stringslite_IndexByte k a b).bind fun y0 =>
  some y0 := by kernel_rfl
/-- internal/stringslite.TrimPrefix -/
noncomputable def stringslite_TrimPrefix (k : Nat) (a : ByteArray) (b : ByteArray) : Option ByteArray := callA P A k 66 (a, b)
theorem stringslite_TrimPrefix_eq (k : Nat) (a : ByteArray) (b : ByteArray) : stringslite_TrimPrefix (k + 1) a b =
  (stringslite_HasPrefix k a b).bind fun y0 =>
  cond y0 (
    cond (decide (0 ≤ (b.size : Int))) (
    cond (decide ((b.size : Int) ≤ (a.size : Int))) (
    some (a.extract (b.size : Int).toNat a.size)) none) none) (
    some a) := by kernel_rfl
/-- strings.TrimPrefix -/
noncomputable def strings_TrimPrefix (k : Nat) (a : ByteArray) (b : ByteArray) : Option ByteArray := callA P A k 46 (a, b)
theorem strings_TrimPrefix_eq (k : Nat) (a : ByteArray) (b : ByteArray) : strings_TrimPrefix (k + 1) a b =
  (stringslite_TrimPrefix k a b).bind fun y0 =>
  some y0 := by kernel_rfl
/-- strings.Split -/
noncomputable def strings_Split (k : Nat) (a : ByteArray) (b : ByteArray) : Option (List ByteArray) := callA P A k 45 (a, b)
theorem strings_Split_eq (k : Nat) (a : ByteArray) (b : ByteArray) : strings_Split k a b = cond (decide (a.size < 4294967281) && decide (1 ≤ b.size)) (some (Lib.splitB b 0 (Lib.countB a b) a)) none := by kernel_rfl
/-- interchange/interchangeref1.regrouped -/
noncomputable def interchangeref1_regrouped (k : Nat) (a : ByteArray) (b : Int) : Option Bool := callA P A k 24 (a, b)
noncomputable def interchangeref1_regrouped_c3 (k : Nat) (s14 : List ByteArray) (s15 : Int) (s16 : Int) : Option Bool := cutA P A k 24 (todoAt P A 24 3) [(14, (.own 9 .str)), (15, (.byv (.int .i64))), (16, (.byv (.int .i64)))] (s14, s15, s16)
theorem interchangeref1_regrouped_eq (k : Nat) (a : ByteArray) (b : Int) : interchangeref1_regrouped (k + 1) a b =
  (strings_TrimPrefix k a (bs [45])).bind fun y0 =>
  (strings_Split k y0 (Utf8.encode (wi32 b))).bind fun y1 =>
  interchangeref1_regrouped_c3 k y1 (y1.length : Int) 0 := by kernel_rfl
theorem interchangeref1_regrouped_c3_eq (k : Nat) (s14 : List ByteArray) (s15 : Int) (s16 : Int) : interchangeref1_regrouped_c3 (k + 1) s14 s15 s16 =
  cond (decide (s16 < s15)) (
    cond (decide (0 ≤ s16)) (
    cond (decide (s16 < (s14.length : Int))) (
    (interchangeref1_isDigits k (s14.getD s16.toNat (bs []))).bind fun y2 =>
    cond (cond (cond (!y2) true (cond (decide (s16 > 0)) (((s14.getD s16.toNat (bs [])).size : Int) != 3) false)) true (cond (s16 == 0) (decide (((s14.getD s16.toNat (bs [])).size : Int) > 3)) false)) (
      some false) (
      interchangeref1_regrouped_c3 k s14 s15 (wi64 (s16 + 1)))) none) none) (
    some true) := by kernel_rfl
/-- interchange/interchangeref1.ReadGrouped -/
noncomputable def interchangeref1_ReadGrouped (k : Nat) (a : ByteArray) (b : Int) (c : Int) : Option ((Int × Int) × Int) := callA P A k 8 (a, b, c)
noncomputable def interchangeref1_ReadGrouped_c7 (k : Nat) (s0 : ByteArray) (s1 : Int) (s2 : Int) (s6 : Int × Int) (s8 : ByteArray) (s9 : ByteArray) (s11 : ByteArray) : Option ((Int × Int) × Int) := cutA P A k 8 (todoAt P A 8 7) [(0, (.byv .str)), (1, (.byv (.int .u8))), (2, (.byv (.int .u8))), (6, (.box 23 [(.byv (.int .i64)), (.byv (.int .i64))])), (8, (.byv .str)), (9, (.byv .str)), (11, (.byv .str))] (s0, s1, s2, s6, s8, s9, s11)
theorem interchangeref1_ReadGrouped_eq (k : Nat) (a : ByteArray) (b : Int) (c : Int) : interchangeref1_ReadGrouped (k + 1) a b c =
  (interchangeref1_marks k b c).bind fun y0 =>
  cond (!y0) (
    some ((0, 0), 12)) (
    (strings_Cut k a (Utf8.encode (wi32 b))).bind fun y1 =>
    (strings_ReplaceAll k y1.1 (Utf8.encode (wi32 c)) (bs [])).bind fun y2 =>
    cond y1.2.2 (
      cond (decide (1 + y1.2.1.size ≤ 9223372036854775807)) (
      cond (decide (y2.size + ((bs [46]) ++ y1.2.1).size ≤ 9223372036854775807)) (
      interchangeref1_ReadGrouped_c7 k a b c (0, 0) y1.1 y1.2.1 (y2 ++ ((bs [46]) ++ y1.2.1))) none) none) (
      interchangeref1_ReadGrouped_c7 k a b c (0, 0) y1.1 y1.2.1 y2)) := by kernel_rfl
theorem interchangeref1_ReadGrouped_c7_eq (k : Nat) (s0 : ByteArray) (s1 : Int) (s2 : Int) (s6 : Int × Int) (s8 : ByteArray) (s9 : ByteArray) (s11 : ByteArray) : interchangeref1_ReadGrouped_c7 (k + 1) s0 s1 s2 s6 s8 s9 s11 =
  (cond (!(decide ((s0.size : Int) > 40))) (strings_IndexByte k s8 46) (some 0)).bind fun y3 =>
  (cond ((!(cond (decide ((s0.size : Int) > 40)) true (cond (decide (y3 ≥ 0)) (s2 != 46) false))) && (s1 != 46)) (strings_IndexByte k s9 46) (some 0)).bind fun y4 =>
  cond (cond (cond (decide ((s0.size : Int) > 40)) true (cond (decide (y3 ≥ 0)) (s2 != 46) false)) true (cond (s1 != 46) (decide (y4 ≥ 0)) false)) (
    some ((0, 0), 10)) (
    (interchangeref1_ReadText k s11).bind fun y5 =>
    cond (y5.2 == 10) (
      some ((0, 0), y5.2)) (
      (interchangeref1_regrouped k s8 s2).bind fun y6 =>
      cond (!y6) (
        some ((0, 0), 10)) (
        some y5))) := by kernel_rfl
/-- interchange/amount.marksFault$1 -/
noncomputable def amount_marksFault_1 (k : Nat) (a : Int) : Option Bool := callA P A k 47 a
theorem amount_marksFault_1_eq (k : Nat) (a : Int) : amount_marksFault_1 (k + 1) a =
  some (cond (cond (cond (cond (decide (a ≥ 48)) (decide (a ≤ 57)) false) true (a == 45)) true (decide (a < 32))) true (decide (a > 126))) := by kernel_rfl
/-- interchange/amount.marksFault -/
noncomputable def amount_marksFault (k : Nat) (a : Int) (b : Int) : Option Int := callA P A k 25 (a, b)
theorem amount_marksFault_eq (k : Nat) (a : Int) (b : Int) : amount_marksFault (k + 1) a b =
  (cond (!(a == b)) (amount_marksFault_1 k a) (some false)).bind fun y0 =>
  (cond (!(cond (a == b) true y0)) (amount_marksFault_1 k b) (some false)).bind fun y1 =>
  cond (cond (cond (a == b) true y0) true y1) (
    some 12) (
    some 0) := by kernel_rfl
/-- interchange/amount.grouped -/
noncomputable def amount_grouped (k : Nat) (a : ByteArray) (b : Int) : Option ByteArray := callA P A k 26 (a, b)
noncomputable def amount_grouped_c2 (k : Nat) (s0 : ByteArray) (s1 : Int) (s5 : ByteArray) : Option ByteArray := cutA P A k 26 (todoAt P A 26 2) [(0, (.byv .str)), (1, (.byv (.int .u8))), (5, (.byv .str))] (s0, s1, s5)
theorem amount_grouped_eq (k : Nat) (a : ByteArray) (b : Int) : amount_grouped (k + 1) a b =
  amount_grouped_c2 k a b (bs []) := by kernel_rfl
theorem amount_grouped_c2_eq (k : Nat) (s0 : ByteArray) (s1 : Int) (s5 : ByteArray) : amount_grouped_c2 (k + 1) s0 s1 s5 =
  cond (decide ((s0.size : Int) > 3)) (
    cond (decide (0 ≤ (wi64 ((s0.size : Int) - 3)))) (
    cond (decide ((wi64 ((s0.size : Int) - 3)) ≤ (s0.size : Int))) (
    cond (decide ((Utf8.encode s1).size + (s0.extract (wi64 ((s0.size : Int) - 3)).toNat s0.size).size ≤ 9223372036854775807)) (
    cond (decide (((Utf8.encode s1) ++ (s0.extract (wi64 ((s0.size : Int) - 3)).toNat s0.size)).size + s5.size ≤ 9223372036854775807)) (
    cond (decide (0 ≤ (wi64 ((s0.size : Int) - 3)))) (
    cond (decide ((wi64 ((s0.size : Int) - 3)) ≤ (s0.size : Int))) (
    amount_grouped_c2 k (s0.extract 0 (wi64 ((s0.size : Int) - 3)).toNat) s1 (((Utf8.encode s1) ++ (s0.extract (wi64 ((s0.size : Int) - 3)).toNat s0.size)) ++ s5)) none) none) none) none) none) none) (
    cond (decide (s0.size + s5.size ≤ 9223372036854775807)) (
    some (s0 ++ s5)) none) := by kernel_rfl
/-- interchange/amount.ReadGrouped -/
noncomputable def amount_ReadGrouped (k : Nat) (a : ByteArray) (b : Int) (c : Int) : Option ((Int × Int) × Int) := callA P A k 9 (a, b, c)
theorem amount_ReadGrouped_eq (k : Nat) (a : ByteArray) (b : Int) (c : Int) : amount_ReadGrouped (k + 1) a b c =
  (amount_marksFault k b c).bind fun y0 =>
  cond (y0 != 0) (
    some ((0, 0), y0)) (
    (strings_CutPrefix k a (bs [45])).bind fun y1 =>
    (strings_Cut k y1.1 (Utf8.encode b)).bind fun y2 =>
    (strings_ReplaceAll k y2.1 (Utf8.encode c) (bs [])).bind fun y3 =>
    (cond (!(decide ((a.size : Int) > 40))) (amount_isWhole k y3) (some false)).bind fun y4 =>
    (cond (!(cond (decide ((a.size : Int) > 40)) true (!y4))) (amount_grouped k y3 c) (some (bs []))).bind fun y5 =>
    (cond ((!(cond (cond (decide ((a.size : Int) > 40)) true (!y4)) true (!(eqS y5 y2.1)))) && y2.2.2) (kit_IsDigits k y2.2.1) (some false)).bind fun y6 =>
    cond (cond (cond (cond (decide ((a.size : Int) > 40)) true (!y4)) true (!(eqS y5 y2.1))) true (cond y2.2.2 (cond (!y6) true (decide ((y2.2.1.size : Int) > 9))) false)) (
      some ((0, 0), 10)) (
      (amount_read k y1.2 y3 y2.2.1).bind fun y7 =>
      some y7)) := by kernel_rfl
/-- interchange/interchangelaw1.awake -/
noncomputable def interchangelaw1_awake (k : Nat) : Option Bool := callA P A k 10 ()
theorem interchangelaw1_awake_eq (k : Nat) : interchangelaw1_awake (k + 1) =
  (amount_ReadText k (bs [49, 46, 53, 48])).bind fun y0 =>
  some (cond (y0.2 == 0) ((y0.1.1 == 150) && ((y0.1.2 == 2) && true)) false) := by kernel_rfl
/-- interchange/interchangelaw1.AmountReadsMatchSpec -/
noncomputable def interchangelaw1_AmountReadsMatchSpec (k : Nat) (a : ByteArray) (b : Int) (c : Int) (d : Int) : Option Bool := callA P A k 3 (a, b, c, d)
theorem interchangelaw1_AmountReadsMatchSpec_eq (k : Nat) (a : ByteArray) (b : Int) (c : Int) (d : Int) : interchangelaw1_AmountReadsMatchSpec (k + 1) a b c d =
  (interchangeref1_ReadText k a).bind fun y0 =>
  (amount_ReadText k a).bind fun y1 =>
  cond (cond (y1.2 != y0.2) true (!((y1.1.1 == y0.1.1) && ((y1.1.2 == y0.1.2) && true)))) (
    some false) (
    (interchangeref1_ReadImplied k a b).bind fun y2 =>
    (amount_ReadImplied k a b).bind fun y3 =>
    cond (cond (y3.2 != y2.2) true (!((y3.1.1 == y2.1.1) && ((y3.1.2 == y2.1.2) && true)))) (
      some false) (
      (interchangeref1_ReadGrouped k a c d).bind fun y4 =>
      (amount_ReadGrouped k a c d).bind fun y5 =>
      (cond (cond (y5.2 == y4.2) ((y5.1.1 == y4.1.1) && ((y5.1.2 == y4.1.2) && true)) false) (interchangelaw1_awake k) (some false)).bind fun y6 =>
      some (cond (cond (y5.2 == y4.2) ((y5.1.1 == y4.1.1) && ((y5.1.2 == y4.1.2) && true)) false) y6 false))) := by kernel_rfl
end Go.Proofs.YtognnibmcifjeaaDoor.Eq
