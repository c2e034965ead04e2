/- The functions that these laws reach: how their calls are read, and the equations that they obey. Printed by a program of this session's own; Lean checks each equation. -/
import Derived.Test.YtognnibmcifjeaaGreatDoorK1
import Derived.Test.YtognnibmcifjeaaGreatDoorProg
import Derived.KernelRfl
import Derived.Lib.Bytealg
import Derived.Lib.SlTrimSet
import Derived.Lib.Replace
import Derived.Lib.Atoi
import Derived.Lib.ItoaNum
namespace Go.Proofs.YtognnibmcifjeaaGreatDoor.Eq
open Go Go.Ra
set_option linter.unusedVariables false
def var3 : Var := ⟨3, [(.byv .str), (.byv (.int .i64)), (.byv (.int .i64))], [(.byv .bool)], fun _ => none, fun _ _ => false, fun _ _ => none, fun _ => [], 0⟩
def var4 : Var := ⟨4, [(.byv .str), (.byv (.int .i64)), (.byv (.int .i64))], [(.byv (.int .i64)), (.byv (.int .i64))], fun _ => none, fun _ _ => false, fun _ _ => none, fun _ => [], 0⟩
def var5 : Var := ⟨5, [(.byv .str), (.byv (.int .i64)), (.byv (.int .i64))], [(.byv (.int .i64)), (.byv (.int .i64))], fun _ => none, fun _ _ => false, fun _ _ => none, fun _ => [], 0⟩
def var6 : Var := ⟨6, [], [(.byv .bool)], fun _ => none, fun _ _ => false, fun _ _ => none, fun _ => [], 0⟩
def var7 : Var := ⟨7, [(.byv (.int .i64)), (.byv (.int .i64)), (.byv (.int .i64))], [(.byv .bool)], fun _ => none, fun _ _ => false, fun _ _ => none, fun _ => [], 0⟩
def var8 : Var := ⟨8, [(.byv .str)], [(.byv (.int .i64))], fun _ => none, fun _ _ => false, fun _ _ => none, fun _ => [], 0⟩
def var9 : Var := ⟨9, [(.byv .str)], [(.byv (.int .i64)), (.byv (.int .i64))], fun r => if r = 8 then some [(4, (.byv (.int .i64))), (5, (.byv (.int .i64))), (6, (.byv (.int .i64))), (7, (.byv (.int .i64))), (8, (.byv (.int .i64)))] else none, fun _ _ => false, fun _ _ => none, fun _ => [], 0⟩
def var10 : Var := ⟨10, [(.byv (.int .i64)), (.byv (.int .i64)), (.byv (.int .i64))], [(.byv (.int .i64)), (.byv (.int .i64))], fun _ => none, fun _ _ => false, fun _ _ => none, fun _ => [], 0⟩
def var11 : Var := ⟨11, [(.byv (.int .i64))], [(.byv .bool)], fun _ => none, fun _ _ => false, fun _ _ => none, fun _ => [], 0⟩
def var12 : Var := ⟨12, [(.byv (.int .i64)), (.byv (.int .i64)), (.byv (.int .i64))], [(.byv .bool)], fun _ => none, fun _ _ => false, fun _ _ => none, fun _ => [], 0⟩
def var13 : Var := ⟨13, [(.byv .str), (.byv (.int .i64)), (.byv (.int .i64))], [(.byv (.int .i64)), (.byv .bool)], fun _ => none, fun _ _ => false, fun _ _ => none, fun _ => [], 0⟩
def var14 : Var := ⟨14, [(.byv .str)], [(.byv (.pair (.int .i64) (.int .i64))), (.byv (.int .i64))], fun _ => none, fun _ _ => false, fun _ _ => none, fun _ => [], 0⟩
def var15 : Var := ⟨15, [(.byv .str)], [(.byv .bool)], fun r => if r = 4 then some [(0, (.byv .str)), (7, (.byv (.int .i64))), (8, (.byv (.int .i64)))] else none, fun _ _ => false, fun _ _ => none, fun _ => [], 0⟩
def var16 : Var := ⟨16, [(.byv .str)], [(.byv (.int .i64)), (.byv .bool)], fun r => if r = 3 then some [(0, (.byv .str)), (4, (.byv (.int .i64))), (7, (.byv (.int .i64))), (8, (.byv (.int .i64)))] else none, fun _ _ => false, fun _ _ => none, fun _ => [], 0⟩
def var17 : Var := ⟨17, [(.byv (.int .i64))], [(.byv (.int .i64))], fun _ => none, fun _ _ => false, fun _ _ => none, fun _ => [], 0⟩
def var18 : Var := ⟨18, [(.byv (.int .i64))], [(.byv (.int .i64)), (.byv (.int .i64)), (.byv (.int .i64))], fun _ => none, fun _ _ => false, fun _ _ => none, fun _ => [], 0⟩
def var19 : Var := ⟨19, [(.byv (.int .i64)), (.byv (.int .i64))], [(.byv (.int .i64))], fun _ => none, fun _ _ => false, fun _ _ => none, fun _ => [], 0⟩
def var20 : Var := ⟨20, [(.byv (.int .i64)), (.byv (.int .i64)), (.byv (.int .i64))], [(.byv (.int .i64))], fun r => if r = 3 then some [(0, (.byv (.int .i64))), (1, (.byv (.int .i64))), (7, (.byv (.int .i64))), (8, (.byv (.int .i64)))] else none, fun _ _ => false, fun _ _ => none, fun _ => [], 0⟩
def var21 : Var := ⟨21, [(.byv .str), (.byv (.sl (.int .i64)))], [(.own 3 (.int .i64)), (.byv .bool)], fun r => if r = 3 then some [(0, (.byv .str)), (6, (.own 3 (.int .i64))), (11, (.byv (.sl (.int .i64)))), (12, (.byv (.int .i64))), (13, (.byv (.int .i64)))] else none, fun _ _ => false, fun _ _ => none, fun _ => [], 0⟩
def var22 : Var := ⟨22, [(.byv (.int .i64)), (.byv (.int .i64)), (.byv (.int .i64))], [(.byv (.int .i64)), (.byv .bool)], fun r => if r = 5 then some [(0, (.byv (.int .i64))), (1, (.byv (.int .i64))), (8, (.byv (.int .i64))), (9, (.byv (.int .i64)))] else none, fun _ _ => false, fun _ _ => none, fun _ => [], 0⟩
def var23 : Var := ⟨23, [(.byv .str), (.byv .str), (.byv .str)], [(.byv .str)], fun _ => none, fun _ _ => false, fun _ _ => none, fun _ => [], 0⟩
def var24 : Var := ⟨24, [(.byv (.int .i64)), (.byv (.int .i64)), (.byv (.int .i64))], [(.byv (.int .i64)), (.byv .bool)], fun _ => none, fun _ _ => false, fun _ _ => none, fun _ => [], 0⟩
def var25 : Var := ⟨25, [(.byv .str), (.byv .str)], [(.byv .str), (.byv .bool)], fun _ => none, fun _ _ => false, fun _ _ => none, fun _ => [], 0⟩
def var26 : Var := ⟨26, [(.byv .str), (.byv .str)], [(.byv .str), (.byv .str), (.byv .bool)], fun _ => none, fun _ _ => false, fun _ _ => none, fun _ => [], 0⟩
def var27 : Var := ⟨27, [(.byv .str)], [(.byv .bool)], fun _ => none, fun _ _ => false, fun _ _ => none, fun _ => [], 0⟩
def var28 : Var := ⟨28, [(.byv .str)], [(.byv .bool)], fun _ => none, fun _ _ => false, fun _ _ => none, fun _ => [], 0⟩
def var29 : Var := ⟨29, [(.byv .bool), (.byv .str), (.byv .str)], [(.byv (.pair (.int .i64) (.int .i64))), (.byv (.int .i64))], fun r => if r = 3 then some [(0, (.byv .bool)), (1, (.byv .str)), (2, (.byv .str)), (6, (.box 35 [(.byv (.int .i64)), (.byv (.int .i64))])), (8, (.box 65 [(.byv .bool), (.byv (.sl (.int .u32)))])), (14, (.byv (.int .i64))), (15, (.byv (.int .i64)))] else none, fun _ _ => false, fun _ _ => none, fun _ => [], 0⟩
def var30 : Var := ⟨30, [(.byv (.int .i64))], [(.byv (.int .i64)), (.byv (.int .i64)), (.byv (.int .i64))], fun r => if r = 2 then some [(0, (.byv (.int .i64))), (2, (.byv (.int .i64)))] else if r = 6 then some [(2, (.byv (.int .i64))), (3, (.byv (.int .i64))), (4, (.byv (.int .i64)))] else none, fun _ _ => false, fun _ _ => none, fun _ => [], 0⟩
def var31 : Var := ⟨31, [(.byv (.int .i64))], [(.byv .bool)], fun _ => none, fun _ _ => false, fun _ _ => none, fun _ => [], 0⟩
def var32 : Var := ⟨32, [(.byv .str)], [(.byv (.int .i64)), (.byv .err)], fun _ => none, fun _ _ => false, fun _ _ => none, fun _ => [], 0⟩
def var33 : Var := ⟨33, [(.byv (.int .i64)), (.byv (.int .i64))], [(.byv (.int .i64))], fun _ => none, fun _ _ => false, fun _ _ => none, fun _ => [], 0⟩
def var34 : Var := ⟨34, [(.byv (.int .i64))], [(.byv (.int .i64))], fun _ => none, fun _ _ => false, fun _ _ => none, fun _ => [], 0⟩
def var35 : Var := ⟨35, [(.byv .str), (.byv .str), (.byv .str), (.byv (.int .i64))], [(.byv .str)], fun r => if r = 8 then some [(0, (.byv .str)), (1, (.byv .str)), (2, (.byv .str)), (3, (.byv (.int .i64)))] else if r = 13 then some [(0, (.byv .str)), (1, (.byv .str)), (2, (.byv .str)), (10, (.bld 77 5)), (11, (.byv (.int .i64))), (52, (.byv (.int .i64))), (53, (.byv (.int .i64)))] else if r = 21 then some [(0, (.byv .str)), (2, (.byv .str)), (10, (.bld 77 5)), (11, (.byv (.int .i64))), (77, (.byv (.int .i64))), (78, (.byv (.int .i64)))] else none, fun r i => (Nat.beq r 8 && Nat.beq i 0), fun _ _ => none, fun _ => [], 0⟩
def var36 : Var := ⟨36, [(.byv (.int .i64))], [(.byv (.int .i64))], fun _ => none, fun _ _ => false, fun _ _ => none, fun _ => [], 0⟩
def var37 : Var := ⟨37, [(.byv (.int .i64))], [(.byv .bool)], fun _ => none, fun _ _ => false, fun _ _ => none, fun _ => [], 0⟩
def var38 : Var := ⟨38, [(.byv (.int .i64))], [(.byv (.int .i64)), (.byv (.int .i64))], fun _ => none, fun _ _ => false, fun _ _ => none, fun _ => [], 0⟩
def var39 : Var := ⟨39, [(.byv .str), (.byv .str)], [(.byv .str), (.byv .bool)], fun _ => none, fun _ _ => false, fun _ _ => none, fun _ => [], 0⟩
def var40 : Var := ⟨40, [(.byv .str), (.byv .str)], [(.byv .str), (.byv .str), (.byv .bool)], fun _ => none, fun _ _ => false, fun _ _ => none, fun _ => [], 0⟩
def var41 : Var := ⟨41, [(.byv .str), (.byv (.int .u8)), (.byv (.int .u8))], [(.byv .bool)], fun r => if r = 2 then some [(0, (.byv .str)), (1, (.byv (.int .u8))), (2, (.byv (.int .u8))), (9, (.byv (.int .i64))), (10, (.byv (.int .i64)))] else none, fun _ _ => false, fun _ _ => none, fun _ => [], 0⟩
def var42 : Var := ⟨42, [(.byv (.int .i64))], [(.byv (.pair .bool (.sl (.int .u32))))], fun _ => none, fun _ _ => false, fun _ _ => none, fun _ => [], 0⟩
def var43 : Var := ⟨43, [(.byv (.pair .bool (.sl (.int .u32)))), (.byv (.pair .bool (.sl (.int .u32))))], [(.byv (.pair .bool (.sl (.int .u32))))], fun r => if r = 3 then some [(2, (.box 65 [(.byv .bool), (.byv (.sl (.int .u32)))])), (3, (.box 65 [(.byv .bool), (.byv (.sl (.int .u32)))])), (4, (.box 65 [(.byv .bool), (.own 85 (.int .u32))])), (5, (.own 85 (.int .u32))), (20, (.byv (.sl (.int .u32)))), (21, (.byv (.int .i64))), (22, (.byv (.int .i64)))] else if r = 7 then some [(2, (.box 65 [(.byv .bool), (.byv (.sl (.int .u32)))])), (3, (.box 65 [(.byv .bool), (.byv (.sl (.int .u32)))])), (4, (.box 65 [(.byv .bool), (.own 85 (.int .u32))])), (5, (.own 85 (.int .u32))), (6, (.byv (.int .i64))), (7, (.byv (.int .u32))), (8, (.byv (.int .u64))), (20, (.byv (.sl (.int .u32)))), (21, (.byv (.int .i64))), (22, (.byv (.int .i64))), (28, (.byv (.sl (.int .u32)))), (29, (.byv (.int .i64))), (30, (.byv (.int .i64)))] else none, fun _ _ => false, fun _ _ => none, fun _ => [], 0⟩
def var44 : Var := ⟨44, [(.byv (.pair .bool (.sl (.int .u32)))), (.byv (.pair .bool (.sl (.int .u32))))], [(.byv (.pair .bool (.sl (.int .u32))))], fun _ => none, fun _ _ => false, fun _ _ => none, fun _ => [], 0⟩
def var45 : Var := ⟨45, [(.byv (.pair .bool (.sl (.int .u32))))], [(.byv (.int .i64))], fun _ => none, fun _ _ => false, fun _ _ => none, fun _ => [], 0⟩
def var46 : Var := ⟨46, [(.byv (.pair .bool (.sl (.int .u32))))], [(.byv (.pair .bool (.sl (.int .u32))))], fun _ => none, fun _ _ => false, fun _ _ => none, fun _ => [], 0⟩
def var47 : Var := ⟨47, [(.byv (.pair .bool (.sl (.int .u32)))), (.byv (.int .i64))], [(.byv (.pair (.int .i64) (.int .i64))), (.byv (.int .i64))], fun _ => none, fun _ _ => false, fun _ _ => none, fun _ => [], 0⟩
def var50 : Var := ⟨50, [(.byv (.int .i64))], [(.byv .bool)], fun _ => none, fun _ _ => false, fun _ _ => none, fun _ => [], 0⟩
def var51 : Var := ⟨51, [(.byv .str), (.byv .str)], [(.byv (.int .i64))], fun _ => none, fun _ _ => false, fun _ _ => none, fun _ => [], 0⟩
def var53 : Var := ⟨53, [(.byv .str), (.byv .str)], [(.byv (.int .i64))], fun _ => none, fun _ _ => false, fun _ _ => none, fun _ => [], 0⟩
def var55 : Var := ⟨55, [(.byv .str)], [(.byv (.int .i32)), (.byv (.int .i64))], fun _ => none, fun _ _ => false, fun _ _ => none, fun _ => [], 0⟩
def var57 : Var := ⟨57, [(.byv (.int .i64))], [(.byv (.int .i64)), (.byv (.int .i64)), (.byv (.int .i64))], fun r => if r = 2 then some [(0, (.byv (.int .i64))), (2, (.byv (.int .i64)))] else if r = 5 then some [(2, (.byv (.int .i64))), (3, (.byv (.int .i64))), (4, (.byv (.int .i64)))] else none, fun _ _ => false, fun _ _ => none, fun _ => [], 0⟩
def var58 : Var := ⟨58, [(.byv .str), (.byv .str)], [(.byv .bool)], fun _ => none, fun _ _ => false, fun _ _ => none, fun _ => [], 0⟩
def var59 : Var := ⟨59, [(.byv .str), (.byv .str)], [(.byv (.int .i64))], fun _ => none, fun _ _ => false, fun _ _ => none, fun _ => [], 0⟩
def var60 : Var := ⟨60, [(.byv .bool), (.byv (.sl (.int .u32)))], [(.byv (.pair .bool (.sl (.int .u32))))], fun _ => none, fun _ _ => false, fun _ _ => none, fun _ => [], 0⟩
def var61 : Var := ⟨61, [(.byv (.sl (.int .u32))), (.byv (.sl (.int .u32)))], [(.own 85 (.int .u32))], fun r => if r = 3 then some [(0, (.byv (.sl (.int .u32)))), (1, (.byv (.sl (.int .u32))))] else if r = 6 then some [(1, (.byv (.sl (.int .u32)))), (5, (.own 85 (.int .u32))), (6, (.byv (.int .u64))), (20, (.byv (.sl (.int .u32)))), (21, (.byv (.int .i64))), (22, (.byv (.int .i64)))] else none, fun _ _ => false, fun _ _ => none, fun _ => [], 0⟩
def var62 : Var := ⟨62, [(.byv (.sl (.int .u32))), (.byv (.sl (.int .u32)))], [(.byv (.int .i64))], fun r => if r = 4 then some [(0, (.byv (.sl (.int .u32)))), (1, (.byv (.sl (.int .u32)))), (5, (.byv (.int .i64)))] else none, fun _ _ => false, fun _ _ => none, fun _ => [], 0⟩
def var63 : Var := ⟨63, [(.byv (.sl (.int .u32))), (.byv (.sl (.int .u32)))], [(.byv (.sl (.int .u32)))], fun r => if r = 4 then some [(1, (.byv (.sl (.int .u32)))), (5, (.own 85 (.int .u32))), (6, (.byv (.int .u64))), (13, (.byv (.sl (.int .u32)))), (14, (.byv (.int .i64))), (15, (.byv (.int .i64)))] else none, fun _ _ => false, fun _ _ => none, fun _ => [], 0⟩
def var64 : Var := ⟨64, [(.byv (.pair .bool (.sl (.int .u32)))), (.byv (.int .i64))], [(.byv (.int .i64)), (.byv .bool)], fun r => if r = 5 then some [(1, (.byv (.int .i64))), (2, (.box 65 [(.byv .bool), (.byv (.sl (.int .u32)))])), (6, (.byv (.int .u64))), (14, (.byv (.sl (.int .u32)))), (15, (.byv (.int .i64))), (16, (.byv (.int .i64)))] else none, fun _ _ => false, fun _ _ => none, fun _ => [], 0⟩
def var74 : Var := ⟨74, [(.byv .str)], [(.byv (.int .i32)), (.byv (.int .i64))], fun _ => none, fun _ _ => false, fun _ _ => none, fun _ => [], 0⟩
def var75 : Var := ⟨75, [(.byv .str), (.byv (.int .u8))], [(.byv (.int .i64))], fun _ => none, fun _ _ => false, fun _ _ => none, fun _ => [], 0⟩
def var79 : Var := ⟨79, [(.byv (.sl (.int .u32)))], [(.byv (.sl (.int .u32)))], fun r => if r = 1 then some [(0, (.byv (.sl (.int .u32))))] else none, fun _ _ => false, fun _ _ => none, fun _ => [], 0⟩
def varT (u : Nat) : Var := cond (Nat.blt u 33) (cond (Nat.blt u 18) (cond (Nat.blt u 10) (cond (Nat.blt u 6) (cond (Nat.blt u 4) (var3) (cond (Nat.blt u 5) (var4) (var5))) (cond (Nat.blt u 8) (cond (Nat.blt u 7) (var6) (var7)) (cond (Nat.blt u 9) (var8) (var9)))) (cond (Nat.blt u 14) (cond (Nat.blt u 12) (cond (Nat.blt u 11) (var10) (var11)) (cond (Nat.blt u 13) (var12) (var13))) (cond (Nat.blt u 16) (cond (Nat.blt u 15) (var14) (var15)) (cond (Nat.blt u 17) (var16) (var17))))) (cond (Nat.blt u 25) (cond (Nat.blt u 21) (cond (Nat.blt u 19) (var18) (cond (Nat.blt u 20) (var19) (var20))) (cond (Nat.blt u 23) (cond (Nat.blt u 22) (var21) (var22)) (cond (Nat.blt u 24) (var23) (var24)))) (cond (Nat.blt u 29) (cond (Nat.blt u 27) (cond (Nat.blt u 26) (var25) (var26)) (cond (Nat.blt u 28) (var27) (var28))) (cond (Nat.blt u 31) (cond (Nat.blt u 30) (var29) (var30)) (cond (Nat.blt u 32) (var31) (var32)))))) (cond (Nat.blt u 50) (cond (Nat.blt u 40) (cond (Nat.blt u 36) (cond (Nat.blt u 34) (var33) (cond (Nat.blt u 35) (var34) (var35))) (cond (Nat.blt u 38) (cond (Nat.blt u 37) (var36) (var37)) (cond (Nat.blt u 39) (var38) (var39)))) (cond (Nat.blt u 44) (cond (Nat.blt u 42) (cond (Nat.blt u 41) (var40) (var41)) (cond (Nat.blt u 43) (var42) (var43))) (cond (Nat.blt u 46) (cond (Nat.blt u 45) (var44) (var45)) (cond (Nat.blt u 47) (var46) (var47))))) (cond (Nat.blt u 60) (cond (Nat.blt u 55) (cond (Nat.blt u 51) (var50) (cond (Nat.blt u 53) (var51) (var53))) (cond (Nat.blt u 58) (cond (Nat.blt u 57) (var55) (var57)) (cond (Nat.blt u 59) (var58) (var59)))) (cond (Nat.blt u 64) (cond (Nat.blt u 62) (cond (Nat.blt u 61) (var60) (var61)) (cond (Nat.blt u 63) (var62) (var63))) (cond (Nat.blt u 75) (cond (Nat.blt u 74) (var64) (var74)) (cond (Nat.blt u 79) (var75) (var79))))))
def gf32 : ByteArray → Option (Int × Bool) := fun (a) => (Lib.atoi a.data.toList).bind fun n => cond (decide (a.size ≤ 18)) (some (n, true)) none
def g32 : var32.PT → Option var32.RT := gf32
def gf51 : (ByteArray × ByteArray) → Option Int := fun (a, b) => cond (decide (b.size = 1)) (some ((Lib.countB a b : Nat) : Int)) none
def g51 : var51.PT → Option var51.RT := gf51
def gf75 : (ByteArray × Int) → Option Int := fun (a, b) => some (Lib.indexByte a.data.toList b.toNat.toUInt8)
def g75 : var75.PT → Option var75.RT := gf75
def gvT (u : Nat) : Option ((varT u).PT → Option (varT u).RT) := if h : u = 75 then some (h ▸ g75) else if h : u = 51 then some (h ▸ g51) else if h : u = 32 then some (h ▸ g32) else none
def prT (f : FuncId) : Option Prim := if f = 56 then some (.bStr 77 5) else if f = 54 then some (.wStr 77 5) else if f = 52 then some (.bGr 77 5) else none
def A : An := ⟨varT, fun f => f, gvT, prT⟩
noncomputable abbrev P : Program := Tryz.prog
/-- interchange/interchangeref1.within -/
noncomputable def interchangeref1_within (k : Nat) (a : Int) (b : Int) (c : Int) : Option Bool := callA P A k 7 (a, b, c)
theorem interchangeref1_within_eq (k : Nat) (a : Int) (b : Int) (c : Int) : interchangeref1_within (k + 1) a b c =
  some (cond (decide (b ≤ a)) (decide (a ≤ c)) false) := by kernel_rfl
/-- interchange/interchangeref1.isDigits -/
noncomputable def interchangeref1_isDigits (k : Nat) (a : ByteArray) : Option Bool := callA P A k 15 a
noncomputable def interchangeref1_isDigits_c4 (k : Nat) (s0 : ByteArray) (s7 : Int) (s8 : Int) : Option Bool := cutA P A k 15 (todoAt P A 15 4) [(0, (.byv .str)), (7, (.byv (.int .i64))), (8, (.byv (.int .i64)))] (s0, s7, s8)
theorem interchangeref1_isDigits_eq (k : Nat) (a : ByteArray) : interchangeref1_isDigits (k + 1) a =
  cond (eqS a (bs [])) (
    some false) (
    interchangeref1_isDigits_c4 k a (a.size : Int) 0) := by kernel_rfl
theorem interchangeref1_isDigits_c4_eq (k : Nat) (s0 : ByteArray) (s7 : Int) (s8 : Int) : interchangeref1_isDigits_c4 (k + 1) s0 s7 s8 =
  cond (decide (s8 < s7)) (
    cond (decide (0 ≤ s8)) (
    cond (decide (s8 < (s0.size : Int))) (
    cond ((!(!(decide ((bt s0 s8) < 48)))) || (decide (0 ≤ s8))) (
    cond ((!(!(decide ((bt s0 s8) < 48)))) || (decide (s8 < (s0.size : Int)))) (
    cond (cond (decide ((bt s0 s8) < 48)) true (decide ((bt s0 s8) > 57))) (
      some false) (
      interchangeref1_isDigits_c4 k s0 s7 (wi64 (s8 + 1)))) none) none) none) none) (
    some true) := by kernel_rfl
/-- interchange/interchangeref1.ofDigits -/
noncomputable def interchangeref1_ofDigits (k : Nat) (a : ByteArray) : Option (Int × Bool) := callA P A k 16 a
noncomputable def interchangeref1_ofDigits_c3 (k : Nat) (s0 : ByteArray) (s4 : Int) (s7 : Int) (s8 : Int) : Option (Int × Bool) := cutA P A k 16 (todoAt P A 16 3) [(0, (.byv .str)), (4, (.byv (.int .i64))), (7, (.byv (.int .i64))), (8, (.byv (.int .i64)))] (s0, s4, s7, s8)
theorem interchangeref1_ofDigits_eq (k : Nat) (a : ByteArray) : interchangeref1_ofDigits (k + 1) a =
  interchangeref1_ofDigits_c3 k a 0 (a.size : Int) 0 := by kernel_rfl
theorem interchangeref1_ofDigits_c3_eq (k : Nat) (s0 : ByteArray) (s4 : Int) (s7 : Int) (s8 : Int) : interchangeref1_ofDigits_c3 (k + 1) s0 s4 s7 s8 =
  cond (decide (s8 < s7)) (
    cond (decide (0 ≤ s8)) (
    cond (decide (s8 < (s0.size : Int))) (
    cond (decide ((wi64 ((wi64 (10 * s4)) + (wi64 (wu8 ((bt s0 s8) - 48))))) > 1000000000000000)) (
      some (0, false)) (
      interchangeref1_ofDigits_c3 k s0 (wi64 ((wi64 (10 * s4)) + (wi64 (wu8 ((bt s0 s8) - 48))))) s7 (wi64 (s8 + 1)))) none) none) (
    some (s4, true)) := by kernel_rfl
/-- interchange/interchangeref1.number -/
noncomputable def interchangeref1_number (k : Nat) (a : ByteArray) : Option Int := callA P A k 8 a
theorem interchangeref1_number_eq (k : Nat) (a : ByteArray) : interchangeref1_number (k + 1) a =
  (interchangeref1_isDigits k a).bind fun y0 =>
  cond (!y0) (
    some (-1)) (
    (interchangeref1_ofDigits k a).bind fun y1 =>
    some y1.1) := by kernel_rfl
/-- interchange/interchangeref1.isLong -/
noncomputable def interchangeref1_isLong (k : Nat) (a : Int) : Option Bool := callA P A k 31 a
theorem interchangeref1_isLong_eq (k : Nat) (a : Int) : interchangeref1_isLong (k + 1) a =
  cond ((!((a.tmod 4) == 0)) || true) (
  cond ((!(!(cond ((a.tmod 4) == 0) ((a.tmod 100) != 0) false))) || true) (
  some (cond (cond ((a.tmod 4) == 0) ((a.tmod 100) != 0) false) true ((a.tmod 400) == 0))) none) none := by kernel_rfl
/-- interchange/interchangeref1.daysOf -/
noncomputable def interchangeref1_daysOf (k : Nat) (a : Int) (b : Int) : Option Int := callA P A k 19 (a, b)
theorem interchangeref1_daysOf_eq (k : Nat) (a : Int) (b : Int) : interchangeref1_daysOf (k + 1) a b =
  cond (b == 2) (
    (interchangeref1_isLong k a).bind fun y0 =>
    cond y0 (
      some 29) (
      some 28)) (
    cond (b == 4) (
      cond (b == 4) (
        some 30) (
        some 31)) (
      cond (b == 6) (
        cond (b == 6) (
          some 30) (
          some 31)) (
        cond (b == 9) (
          cond (b == 9) (
            some 30) (
            some 31)) (
          cond (b == 11) (
            some 30) (
            some 31))))) := by kernel_rfl
/-- interchange/interchangeref1.before -/
noncomputable def interchangeref1_before (k : Nat) (a : Int) : Option Int := callA P A k 17 a
theorem interchangeref1_before_eq (k : Nat) (a : Int) : interchangeref1_before (k + 1) a =
  some (wi64 ((wi64 ((wi64 ((wi64 (365 * (wi64 (a - 1)))) + (wi64 ((wi64 (a - 1)).tdiv 4)))) - (wi64 ((wi64 (a - 1)).tdiv 100)))) + (wi64 ((wi64 (a - 1)).tdiv 400)))) := by kernel_rfl
/-- interchange/interchangeref1.dayOf -/
noncomputable def interchangeref1_dayOf (k : Nat) (a : Int) (b : Int) (c : Int) : Option Int := callA P A k 20 (a, b, c)
noncomputable def interchangeref1_dayOf_c3 (k : Nat) (s0 : Int) (s1 : Int) (s7 : Int) (s8 : Int) : Option Int := cutA P A k 20 (todoAt P A 20 3) [(0, (.byv (.int .i64))), (1, (.byv (.int .i64))), (7, (.byv (.int .i64))), (8, (.byv (.int .i64)))] (s0, s1, s7, s8)
theorem interchangeref1_dayOf_eq (k : Nat) (a : Int) (b : Int) (c : Int) : interchangeref1_dayOf (k + 1) a b c =
  (interchangeref1_before k a).bind fun y0 =>
  interchangeref1_dayOf_c3 k a b (wi64 (y0 + c)) 1 := by kernel_rfl
theorem interchangeref1_dayOf_c3_eq (k : Nat) (s0 : Int) (s1 : Int) (s7 : Int) (s8 : Int) : interchangeref1_dayOf_c3 (k + 1) s0 s1 s7 s8 =
  cond (decide (s8 < s1)) (
    (interchangeref1_daysOf k s0 s8).bind fun y1 =>
    interchangeref1_dayOf_c3 k s0 s1 (wi64 (s7 + y1)) (wi64 (s8 + 1))) (
    some s7) := by kernel_rfl
/-- interchange/interchangeref1.DayOf -/
noncomputable def interchangeref1_DayOf (k : Nat) (a : Int) (b : Int) (c : Int) : Option (Int × Int) := callA P A k 10 (a, b, c)
theorem interchangeref1_DayOf_eq (k : Nat) (a : Int) (b : Int) (c : Int) : interchangeref1_DayOf (k + 1) a b c =
  (interchangeref1_within k a 1 9999).bind fun y0 =>
  (cond (!(!y0)) (interchangeref1_within k b 1 12) (some false)).bind fun y1 =>
  (cond (!(cond (!y0) true (!y1))) (interchangeref1_daysOf k a b) (some 0)).bind fun y2 =>
  (cond (!(cond (!y0) true (!y1))) (interchangeref1_within k c 1 y2) (some false)).bind fun y3 =>
  cond (cond (cond (!y0) true (!y1)) true (!y3)) (
    some (0, 1)) (
    (interchangeref1_dayOf k a b c).bind fun y4 =>
    some (y4, 0)) := by kernel_rfl
/-- interchange/interchangeref1.dateOf -/
noncomputable def interchangeref1_dateOf (k : Nat) (a : Int) : Option (Int × Int × Int) := callA P A k 30 a
noncomputable def interchangeref1_dateOf_c2 (k : Nat) (s0 : Int) (s2 : Int) : Option (Int × Int × Int) := cutA P A k 30 (todoAt P A 30 2) [(0, (.byv (.int .i64))), (2, (.byv (.int .i64)))] (s0, s2)
noncomputable def interchangeref1_dateOf_c6 (k : Nat) (s2 : Int) (s3 : Int) (s4 : Int) : Option (Int × Int × Int) := cutA P A k 30 (todoAt P A 30 6) [(2, (.byv (.int .i64))), (3, (.byv (.int .i64))), (4, (.byv (.int .i64)))] (s2, s3, s4)
theorem interchangeref1_dateOf_eq (k : Nat) (a : Int) : interchangeref1_dateOf (k + 1) a =
  interchangeref1_dateOf_c2 k a (wi64 ((wi64 (a.tdiv 366)) + 1)) := by kernel_rfl
theorem interchangeref1_dateOf_c2_eq (k : Nat) (s0 : Int) (s2 : Int) : interchangeref1_dateOf_c2 (k + 1) s0 s2 =
  (interchangeref1_before k (wi64 (s2 + 1))).bind fun y0 =>
  cond (decide (y0 < s0)) (
    interchangeref1_dateOf_c2 k s0 (wi64 (s2 + 1))) (
    (interchangeref1_before k s2).bind fun y1 =>
    interchangeref1_dateOf_c6 k s2 1 (wi64 (s0 - y1))) := by kernel_rfl
theorem interchangeref1_dateOf_c6_eq (k : Nat) (s2 : Int) (s3 : Int) (s4 : Int) : interchangeref1_dateOf_c6 (k + 1) s2 s3 s4 =
  (interchangeref1_daysOf k s2 s3).bind fun y2 =>
  cond (decide (s4 > y2)) (
    (interchangeref1_daysOf k s2 s3).bind fun y3 =>
    interchangeref1_dateOf_c6 k s2 (wi64 (s3 + 1)) (wi64 (s4 - y3))) (
    some (s2, (s3, s4))) := by kernel_rfl
/-- interchange/interchangeref1.weekOf -/
noncomputable def interchangeref1_weekOf (k : Nat) (a : Int) : Option (Int × Int × Int) := callA P A k 18 a
theorem interchangeref1_weekOf_eq (k : Nat) (a : Int) : interchangeref1_weekOf (k + 1) a =
  (interchangeref1_dateOf k (wi64 ((wi64 (a - (wi64 (((wi64 (a - 1)).tmod 7) + 1)))) + 4))).bind fun y0 =>
  (interchangeref1_before k y0.1).bind fun y1 =>
  some (y0.1, ((wi64 ((wi64 ((wi64 ((wi64 ((wi64 ((wi64 (a - (wi64 (((wi64 (a - 1)).tmod 7) + 1)))) + 4)) - y1)) - 1)).tdiv 7)) + 1)), (wi64 (((wi64 (a - 1)).tmod 7) + 1)))) := by kernel_rfl
/-- interchange/interchangeref1.readWeek -/
noncomputable def interchangeref1_readWeek (k : Nat) (a : ByteArray) : Option (Int × Int) := callA P A k 9 a
noncomputable def interchangeref1_readWeek_c8 (k : Nat) (s4 : Int) (s5 : Int) (s6 : Int) (s7 : Int) (s8 : Int) : Option (Int × Int) := cutA P A k 9 (todoAt P A 9 8) [(4, (.byv (.int .i64))), (5, (.byv (.int .i64))), (6, (.byv (.int .i64))), (7, (.byv (.int .i64))), (8, (.byv (.int .i64)))] (s4, s5, s6, s7, s8)
theorem interchangeref1_readWeek_eq (k : Nat) (a : ByteArray) : interchangeref1_readWeek (k + 1) a =
  cond (decide (4 ≤ (a.size : Int))) (
  (interchangeref1_number k (a.extract 0 4)).bind fun y0 =>
  cond (decide (6 ≤ (a.size : Int))) (
  (interchangeref1_number k (a.extract 4 6)).bind fun y1 =>
  cond (decide (6 ≤ (a.size : Int))) (
  (interchangeref1_number k (a.extract 6 a.size)).bind fun y2 =>
  cond (cond (cond (cond (cond (decide (y0 < 0)) true (decide (y0 > 9999))) true (decide (y1 < 1))) true (decide (y2 < 1))) true (decide (y2 > 7))) (
    some (0, 10)) (
    (interchangeref1_before k y0).bind fun y3 =>
    cond (y0 == 0) (
      some (0, 10)) (
      interchangeref1_readWeek_c8 k y0 y1 y2 (wi64 (y3 + 1)) (maxI 1 (wi64 ((wi64 (y3 + 1)) - 7)))))) none) none) none := by kernel_rfl
theorem interchangeref1_readWeek_c8_eq (k : Nat) (s4 : Int) (s5 : Int) (s6 : Int) (s7 : Int) (s8 : Int) : interchangeref1_readWeek_c8 (k + 1) s4 s5 s6 s7 s8 =
  cond (decide (s8 ≤ (minI 3652059 (wi64 (s7 + 380))))) (
    (interchangeref1_weekOf k s8).bind fun y4 =>
    cond (cond (cond (cond (cond (decide ((wi64 ((wi64 (s8 - y4.2.2)) + 4)) ≥ 1)) (decide ((wi64 ((wi64 (s8 - y4.2.2)) + 4)) ≤ 3652059)) false) (y4.1 == s4) false) (y4.2.1 == s5) false) (y4.2.2 == s6) false) (
      some (s8, 0)) (
      interchangeref1_readWeek_c8 k s4 s5 s6 s7 (wi64 (s8 + 1)))) (
    some (0, 10)) := by kernel_rfl
/-- interchange/interchangeref1.ReadDay -/
noncomputable def interchangeref1_ReadDay (k : Nat) (a : ByteArray) (b : Int) (c : Int) : Option (Int × Int) := callA P A k 4 (a, b, c)
theorem interchangeref1_ReadDay_eq (k : Nat) (a : ByteArray) (b : Int) (c : Int) : interchangeref1_ReadDay (k + 1) a b c =
  (interchangeref1_within k b 1 5).bind fun y0 =>
  cond (!y0) (
    some (0, 4)) (
    (interchangeref1_within k c 1 9900).bind fun y1 =>
    cond (!y1) (
      some (0, 1)) (
      cond (cond (b == 1) ((a.size : Int) == 8) false) (
        cond (decide (4 ≤ (a.size : Int))) (
        (interchangeref1_number k (a.extract 0 4)).bind fun y2 =>
        cond (decide (6 ≤ (a.size : Int))) (
        (interchangeref1_number k (a.extract 4 6)).bind fun y3 =>
        cond (decide (6 ≤ (a.size : Int))) (
        (interchangeref1_number k (a.extract 6 a.size)).bind fun y4 =>
        (interchangeref1_DayOf k y2 y3 y4).bind fun y5 =>
        cond (y5.2 != 0) (
          some (0, 10)) (
          some (y5.1, 0))) none) none) none) (
        cond (cond (b == 2) ((a.size : Int) == 6) false) (
          cond (decide (2 ≤ (a.size : Int))) (
          (interchangeref1_number k (a.extract 0 2)).bind fun y6 =>
          cond (decide (4 ≤ (a.size : Int))) (
          (interchangeref1_number k (a.extract 2 4)).bind fun y7 =>
          cond (decide (4 ≤ (a.size : Int))) (
          (interchangeref1_number k (a.extract 4 a.size)).bind fun y8 =>
          cond (decide (y6 ≥ 0)) (
            (interchangeref1_DayOf k (wi64 (c + ((wi64 ((wi64 (y6 - (c.tmod 100))) + 100)).tmod 100))) y7 y8).bind fun y9 =>
            cond (y9.2 != 0) (
              some (0, 10)) (
              some (y9.1, 0))) (
            (interchangeref1_DayOf k y6 y7 y8).bind fun y10 =>
            cond (y10.2 != 0) (
              some (0, 10)) (
              some (y10.1, 0)))) none) none) none) (
          cond (cond (b == 3) ((a.size : Int) == 8) false) (
            cond (decide (4 ≤ (a.size : Int))) (
            (interchangeref1_number k (a.extract 4 a.size)).bind fun y11 =>
            cond (decide (4 ≤ (a.size : Int))) (
            (interchangeref1_number k (a.extract 2 4)).bind fun y12 =>
            cond (decide (2 ≤ (a.size : Int))) (
            (interchangeref1_number k (a.extract 0 2)).bind fun y13 =>
            (interchangeref1_DayOf k y11 y12 y13).bind fun y14 =>
            cond (y14.2 != 0) (
              some (0, 10)) (
              some (y14.1, 0))) none) none) none) (
            cond ((!(cond (b == 4) ((a.size : Int) == 10) false)) || true) (
            cond ((!(cond (b == 4) ((a.size : Int) == 10) false)) || (decide (4 < (a.size : Int)))) (
            cond ((!(cond (cond (b == 4) ((a.size : Int) == 10) false) ((bt a 4) == 45) false)) || true) (
            cond ((!(cond (cond (b == 4) ((a.size : Int) == 10) false) ((bt a 4) == 45) false)) || (decide (7 < (a.size : Int)))) (
            cond (cond (cond (cond (b == 4) ((a.size : Int) == 10) false) ((bt a 4) == 45) false) ((bt a 7) == 45) false) (
              cond (decide (4 ≤ (a.size : Int))) (
              (interchangeref1_number k (a.extract 0 4)).bind fun y15 =>
              cond (decide (7 ≤ (a.size : Int))) (
              (interchangeref1_number k (a.extract 5 7)).bind fun y16 =>
              cond (decide (8 ≤ (a.size : Int))) (
              (interchangeref1_number k (a.extract 8 a.size)).bind fun y17 =>
              (interchangeref1_DayOf k y15 y16 y17).bind fun y18 =>
              cond (y18.2 != 0) (
                some (0, 10)) (
                some (y18.1, 0))) none) none) none) (
              cond (cond (b == 5) ((a.size : Int) == 7) false) (
                (interchangeref1_readWeek k a).bind fun y19 =>
                some y19) (
                (interchangeref1_DayOf k (-1) (-1) (-1)).bind fun y20 =>
                cond (y20.2 != 0) (
                  some (0, 10)) (
                  some (y20.1, 0))))) none) none) none) none))))) := by kernel_rfl
/-- interchange/kit.Outside -/
noncomputable def kit_Outside (k : Nat) (a : Int) (b : Int) (c : Int) : Option Bool := callA P A k 12 (a, b, c)
theorem kit_Outside_eq (k : Nat) (a : Int) (b : Int) (c : Int) : kit_Outside (k + 1) a b c =
  some (cond (decide (a < b)) true (decide (a > c))) := by kernel_rfl
/-- interchange/amount.isForm -/
noncomputable def amount_isForm (k : Nat) (a : Int) : Option Bool := callA P A k 11 a
theorem amount_isForm_eq (k : Nat) (a : Int) : amount_isForm (k + 1) a =
  (kit_Outside k a 1 5).bind fun y0 =>
  some (!y0) := by kernel_rfl
/-- interchange/kit.InBytes -/
noncomputable def kit_InBytes (k : Nat) (a : ByteArray) (b : Int) (c : Int) : Option Bool := callA P A k 41 (a, b, c)
noncomputable def kit_InBytes_c2 (k : Nat) (s0 : ByteArray) (s1 : Int) (s2 : Int) (s9 : Int) (s10 : Int) : Option Bool := cutA P A k 41 (todoAt P A 41 2) [(0, (.byv .str)), (1, (.byv (.int .u8))), (2, (.byv (.int .u8))), (9, (.byv (.int .i64))), (10, (.byv (.int .i64)))] (s0, s1, s2, s9, s10)
theorem kit_InBytes_eq (k : Nat) (a : ByteArray) (b : Int) (c : Int) : kit_InBytes (k + 1) a b c =
  kit_InBytes_c2 k a b c (a.size : Int) 0 := by kernel_rfl
theorem kit_InBytes_c2_eq (k : Nat) (s0 : ByteArray) (s1 : Int) (s2 : Int) (s9 : Int) (s10 : Int) : kit_InBytes_c2 (k + 1) s0 s1 s2 s9 s10 =
  cond (decide (s10 < s9)) (
    cond (decide (0 ≤ s10)) (
    cond (decide (s10 < (s0.size : Int))) (
    cond ((!(!(decide ((bt s0 s10) < s1)))) || (decide (0 ≤ s10))) (
    cond ((!(!(decide ((bt s0 s10) < s1)))) || (decide (s10 < (s0.size : Int)))) (
    cond (cond (decide ((bt s0 s10) < s1)) true (decide ((bt s0 s10) > s2))) (
      some false) (
      kit_InBytes_c2 k s0 s1 s2 s9 (wi64 (s10 + 1)))) none) none) none) none) (
    some true) := by kernel_rfl
/-- interchange/kit.IsDigits -/
noncomputable def kit_IsDigits (k : Nat) (a : ByteArray) : Option Bool := callA P A k 28 a
theorem kit_IsDigits_eq (k : Nat) (a : ByteArray) : kit_IsDigits (k + 1) a =
  (cond (!(eqS a (bs []))) (kit_InBytes k a 48 57) (some false)).bind fun y0 =>
  some (cond (!(eqS a (bs []))) y0 false) := by kernel_rfl
/-- strconv.Atoi -/
noncomputable def strconv_Atoi (k : Nat) (a : ByteArray) : Option (Int × Bool) := callA P A k 32 a
theorem strconv_Atoi_eq (k : Nat) (a : ByteArray) : strconv_Atoi k a = (Lib.atoi a.data.toList).bind fun n => cond (decide (a.size ≤ 18)) (some (n, true)) none := by kernel_rfl
/-- interchange/amount.parts -/
noncomputable def amount_parts (k : Nat) (a : ByteArray) (b : List Int) : Option ((List Int) × Bool) := callA P A k 21 (a, b)
noncomputable def amount_parts_c3 (k : Nat) (s0 : ByteArray) (s6 : List Int) (s11 : List Int) (s12 : Int) (s13 : Int) : Option ((List Int) × Bool) := cutA P A k 21 (todoAt P A 21 3) [(0, (.byv .str)), (6, (.own 3 (.int .i64))), (11, (.byv (.sl (.int .i64)))), (12, (.byv (.int .i64))), (13, (.byv (.int .i64)))] (s0, s6, s11, s12, s13)
theorem amount_parts_eq (k : Nat) (a : ByteArray) (b : List Int) : amount_parts (k + 1) a b =
  amount_parts_c3 k a [] b (b.length : Int) 0 := by kernel_rfl
theorem amount_parts_c3_eq (k : Nat) (s0 : ByteArray) (s6 : List Int) (s11 : List Int) (s12 : Int) (s13 : Int) : amount_parts_c3 (k + 1) s0 s6 s11 s12 s13 =
  cond (decide (s13 < s12)) (
    cond (decide (0 ≤ s13)) (
    cond (decide (s13 < (s11.length : Int))) (
    cond ((!(!(decide ((s0.size : Int) < (s11.getD s13.toNat 0))))) || (decide (0 ≤ (s11.getD s13.toNat 0)))) (
    cond ((!(!(decide ((s0.size : Int) < (s11.getD s13.toNat 0))))) || (decide ((s11.getD s13.toNat 0) ≤ (s0.size : Int)))) (
    (cond (!(decide ((s0.size : Int) < (s11.getD s13.toNat 0)))) (kit_IsDigits k (s0.extract 0 (s11.getD s13.toNat 0).toNat)) (some false)).bind fun y0 =>
    cond (cond (decide ((s0.size : Int) < (s11.getD s13.toNat 0))) true (!y0)) (
      some ([], false)) (
      cond (decide (0 ≤ (s11.getD s13.toNat 0))) (
      cond (decide ((s11.getD s13.toNat 0) ≤ (s0.size : Int))) (
      (strconv_Atoi k (s0.extract 0 (s11.getD s13.toNat 0).toNat)).bind fun y1 =>
      cond (decide (s6.length + 1 < 17592186044416)) (
      cond (decide (0 ≤ (s11.getD s13.toNat 0))) (
      cond (decide ((s11.getD s13.toNat 0) ≤ (s0.size : Int))) (
      amount_parts_c3 k (s0.extract (s11.getD s13.toNat 0).toNat s0.size) (s6 ++ [y1.1]) s11 s12 (wi64 (s13 + 1))) none) none) none) none) none)) none) none) none) none) (
    some (s6, (eqS s0 (bs [])))) := by kernel_rfl
/-- interchange/amount.isLeap -/
noncomputable def amount_isLeap (k : Nat) (a : Int) : Option Bool := callA P A k 50 a
theorem amount_isLeap_eq (k : Nat) (a : Int) : amount_isLeap (k + 1) a =
  cond ((!((a.tmod 4) == 0)) || true) (
  cond ((!(((a.tmod 4) == 0) && (!((a.tmod 100) != 0)))) || true) (
  some (cond ((a.tmod 4) == 0) (cond ((a.tmod 100) != 0) true ((a.tmod 400) == 0)) false)) none) none := by kernel_rfl
/-- interchange/amount.daysOf -/
noncomputable def amount_daysOf (k : Nat) (a : Int) (b : Int) : Option Int := callA P A k 33 (a, b)
theorem amount_daysOf_eq (k : Nat) (a : Int) (b : Int) : amount_daysOf (k + 1) a b =
  (cond (b == 2) (amount_isLeap k a) (some false)).bind fun y0 =>
  cond (cond (b == 2) y0 false) (
    some 29) (
    cond (decide (0 ≤ (wi64 (b - 1)))) (
    cond (decide ((wi64 (b - 1)) < 12)) (
    some ([31, 28, 31, 30, 31, 30, 31, 31, 30, 31, 30, 31].getD (wi64 (b - 1)).toNat 0)) none) none) := by kernel_rfl
/-- interchange/amount.before -/
noncomputable def amount_before (k : Nat) (a : Int) : Option Int := callA P A k 34 a
theorem amount_before_eq (k : Nat) (a : Int) : amount_before (k + 1) a =
  some (wi64 ((wi64 ((wi64 ((wi64 (365 * (wi64 (a - 1)))) + (wi64 ((wi64 (a - 1)).tdiv 4)))) - (wi64 ((wi64 (a - 1)).tdiv 100)))) + (wi64 ((wi64 (a - 1)).tdiv 400)))) := by kernel_rfl
/-- interchange/amount.dayOf -/
noncomputable def amount_dayOf (k : Nat) (a : Int) (b : Int) (c : Int) : Option (Int × Bool) := callA P A k 22 (a, b, c)
noncomputable def amount_dayOf_c5 (k : Nat) (s0 : Int) (s1 : Int) (s8 : Int) (s9 : Int) : Option (Int × Bool) := cutA P A k 22 (todoAt P A 22 5) [(0, (.byv (.int .i64))), (1, (.byv (.int .i64))), (8, (.byv (.int .i64))), (9, (.byv (.int .i64)))] (s0, s1, s8, s9)
theorem amount_dayOf_eq (k : Nat) (a : Int) (b : Int) (c : Int) : amount_dayOf (k + 1) a b c =
  (kit_Outside k a 1 9999).bind fun y0 =>
  (cond (!y0) (kit_Outside k b 1 12) (some false)).bind fun y1 =>
  (cond (!(cond y0 true y1)) (amount_daysOf k a b) (some 0)).bind fun y2 =>
  (cond (!(cond y0 true y1)) (kit_Outside k c 1 y2) (some false)).bind fun y3 =>
  cond (cond (cond y0 true y1) true y3) (
    some (0, false)) (
    (amount_before k a).bind fun y4 =>
    amount_dayOf_c5 k a b (wi64 (y4 + c)) 1) := by kernel_rfl
theorem amount_dayOf_c5_eq (k : Nat) (s0 : Int) (s1 : Int) (s8 : Int) (s9 : Int) : amount_dayOf_c5 (k + 1) s0 s1 s8 s9 =
  cond (decide (s9 < s1)) (
    (amount_daysOf k s0 s9).bind fun y5 =>
    amount_dayOf_c5 k s0 s1 (wi64 (s8 + y5)) (wi64 (s9 + 1))) (
    some (s8, true)) := by kernel_rfl
/-- strings.Count -/
noncomputable def strings_Count (k : Nat) (a : ByteArray) (b : ByteArray) : Option Int := callA P A k 51 (a, b)
theorem strings_Count_eq (k : Nat) (a : ByteArray) (b : ByteArray) : strings_Count k a b = cond (decide (b.size = 1)) (some ((Lib.countB a b : Nat) : Int)) none := by kernel_rfl
/-- internal/stringslite.IndexByte -/
noncomputable def stringslite_IndexByte (k : Nat) (a : ByteArray) (b : Int) : Option Int := callA P A k 75 (a, b)
theorem stringslite_IndexByte_eq (k : Nat) (a : ByteArray) (b : Int) : stringslite_IndexByte k a b = some (Lib.indexByte a.data.toList b.toNat.toUInt8) := by kernel_rfl
/-- internal/stringslite.Index -/
noncomputable def stringslite_Index (k : Nat) (a : ByteArray) (b : ByteArray) : Option Int := callA P A k 59 (a, b)
theorem stringslite_Index_eq (k : Nat) (a : ByteArray) (b : ByteArray) : stringslite_Index (k + 1) a b =
  cond (cond ((b.size : Int) == 0) true (eqS b a)) (
    some 0) (
    cond ((b.size : Int) == 1) (
      cond (decide (0 < (b.size : Int))) (
      (stringslite_IndexByte k a (bt b 0)).bind fun y0 =>
      some y0) none) (
      cond (decide ((b.size : Int) ≥ (a.size : Int))) (
        some (-1)) (
        none))) := by kernel_rfl
/-- strings.Index -/
noncomputable def strings_Index (k : Nat) (a : ByteArray) (b : ByteArray) : Option Int := callA P A k 53 (a, b)
theorem strings_Index_eq (k : Nat) (a : ByteArray) (b : ByteArray) : strings_Index (k + 1) a b =
  (stringslite_Index k a b).bind fun y0 =>
  some y0 := by kernel_rfl
/-- unicode/utf8.decodeRuneInStringSlow -/
noncomputable def utf8_decodeRuneInStringSlow (k : Nat) (a : ByteArray) : Option (Int × Int) := callA P A k 74 a
theorem utf8_decodeRuneInStringSlow_eq (k : Nat) (a : ByteArray) : utf8_decodeRuneInStringSlow (k + 1) a =
  cond (decide ((a.size : Int) < 1)) (
    some (65533, 0)) (
    cond (decide (0 < (a.size : Int))) (
    none) none) := by kernel_rfl
/-- unicode/utf8.DecodeRuneInString -/
noncomputable def utf8_DecodeRuneInString (k : Nat) (a : ByteArray) : Option (Int × Int) := callA P A k 55 a
theorem utf8_DecodeRuneInString_eq (k : Nat) (a : ByteArray) : utf8_DecodeRuneInString (k + 1) a =
  cond ((!(!(eqS a (bs [])))) || true) (
  cond ((!(!(eqS a (bs [])))) || (decide (0 < (a.size : Int)))) (
  cond (cond (!(eqS a (bs []))) (decide ((bt a 0) < 128)) false) (
    cond (decide (0 < (a.size : Int))) (
    some ((wi32 (bt a 0)), 1)) none) (
    (utf8_decodeRuneInStringSlow k a).bind fun y0 =>
    some y0)) none) none := by kernel_rfl
/-- strings.Replace -/
noncomputable def strings_Replace (k : Nat) (a : ByteArray) (b : ByteArray) (c : ByteArray) (d : Int) : Option ByteArray := callA P A k 35 (a, b, c, d)
noncomputable def strings_Replace_c8 (k : Nat) (s0 : ByteArray) (s1 : ByteArray) (s2 : ByteArray) (s3 : Int) : Option ByteArray := cutA P A k 35 (todoAt P A 35 8) [(0, (.byv .str)), (1, (.byv .str)), (2, (.byv .str)), (3, (.byv (.int .i64)))] (s0, s1, s2, s3)
noncomputable def strings_Replace_c13 (k : Nat) (s0 : ByteArray) (s1 : ByteArray) (s2 : ByteArray) (s10 : ByteArray) (s11 : Int) (s52 : Int) (s53 : Int) : Option ByteArray := cutA P A k 35 (todoAt P A 35 13) [(0, (.byv .str)), (1, (.byv .str)), (2, (.byv .str)), (10, (.bld 77 5)), (11, (.byv (.int .i64))), (52, (.byv (.int .i64))), (53, (.byv (.int .i64)))] (s0, s1, s2, s10, s11, s52, s53)
noncomputable def strings_Replace_c21 (k : Nat) (s0 : ByteArray) (s2 : ByteArray) (s10 : ByteArray) (s11 : Int) (s77 : Int) (s78 : Int) : Option ByteArray := cutA P A k 35 (todoAt P A 35 21) [(0, (.byv .str)), (2, (.byv .str)), (10, (.bld 77 5)), (11, (.byv (.int .i64))), (77, (.byv (.int .i64))), (78, (.byv (.int .i64)))] (s0, s2, s10, s11, s77, s78)
theorem strings_Replace_eq (k : Nat) (a : ByteArray) (b : ByteArray) (c : ByteArray) (d : Int) : strings_Replace (k + 1) a b c d =
  cond (cond (eqS b c) true (d == 0)) (
    some a) (
    (strings_Count k a b).bind fun y0 =>
    cond (y0 == 0) (
      some a) (
      cond (cond (decide (d < 0)) true (decide (y0 < d))) (
        strings_Replace_c8 k a b c y0) (
        strings_Replace_c8 k a b c d))) := by kernel_rfl
theorem strings_Replace_c8_eq (k : Nat) (s0 : ByteArray) (s1 : ByteArray) (s2 : ByteArray) (s3 : Int) : strings_Replace_c8 (k + 1) s0 s1 s2 s3 =
  cond (decide (0 ≤ (wi64 ((s0.size : Int) + (wi64 (s3 * (wi64 ((s2.size : Int) - (s1.size : Int))))))))) (
  cond (decide ((wi64 ((s0.size : Int) + (wi64 (s3 * (wi64 ((s2.size : Int) - (s1.size : Int))))))) ≤ 140737488355328)) (
  cond (decide ((s1.size : Int) > 0)) (
    strings_Replace_c13 k s0 s1 s2 (bs []) 0 s3 0) (
    cond (decide (0 + s2.size ≤ 140737488355328)) (
    strings_Replace_c21 k s0 s2 ((bs []) ++ s2) 0 (wi64 (s3 - 1)) 0) none)) none) none := by kernel_rfl
theorem strings_Replace_c13_eq (k : Nat) (s0 : ByteArray) (s1 : ByteArray) (s2 : ByteArray) (s10 : ByteArray) (s11 : Int) (s52 : Int) (s53 : Int) : strings_Replace_c13 (k + 1) s0 s1 s2 s10 s11 s52 s53 =
  cond (decide (s53 < s52)) (
    cond (decide (0 ≤ s11)) (
    cond (decide (s11 ≤ (s0.size : Int))) (
    (strings_Index k (s0.extract s11.toNat s0.size) s1).bind fun y1 =>
    cond (decide (0 ≤ s11)) (
    cond (decide (s11 ≤ (wi64 (s11 + y1)))) (
    cond (decide ((wi64 (s11 + y1)) ≤ (s0.size : Int))) (
    cond (decide (s10.size + (s0.extract s11.toNat (wi64 (s11 + y1)).toNat).size ≤ 140737488355328)) (
    cond (decide ((s10 ++ (s0.extract s11.toNat (wi64 (s11 + y1)).toNat)).size + s2.size ≤ 140737488355328)) (
    strings_Replace_c13 k s0 s1 s2 ((s10 ++ (s0.extract s11.toNat (wi64 (s11 + y1)).toNat)) ++ s2) (wi64 ((wi64 (s11 + y1)) + (s1.size : Int))) s52 (wi64 (s53 + 1))) none) none) none) none) none) none) none) (
    cond (decide (0 ≤ s11)) (
    cond (decide (s11 ≤ (s0.size : Int))) (
    cond (decide (s10.size + (s0.extract s11.toNat s0.size).size ≤ 140737488355328)) (
    some (s10 ++ (s0.extract s11.toNat s0.size))) none) none) none) := by kernel_rfl
theorem strings_Replace_c21_eq (k : Nat) (s0 : ByteArray) (s2 : ByteArray) (s10 : ByteArray) (s11 : Int) (s77 : Int) (s78 : Int) : strings_Replace_c21 (k + 1) s0 s2 s10 s11 s77 s78 =
  cond (decide (s78 < s77)) (
    cond (decide (0 ≤ s11)) (
    cond (decide (s11 ≤ (s0.size : Int))) (
    (utf8_DecodeRuneInString k (s0.extract s11.toNat s0.size)).bind fun y2 =>
    cond (decide (0 ≤ s11)) (
    cond (decide (s11 ≤ (wi64 (s11 + y2.2)))) (
    cond (decide ((wi64 (s11 + y2.2)) ≤ (s0.size : Int))) (
    cond (decide (s10.size + (s0.extract s11.toNat (wi64 (s11 + y2.2)).toNat).size ≤ 140737488355328)) (
    cond (decide ((s10 ++ (s0.extract s11.toNat (wi64 (s11 + y2.2)).toNat)).size + s2.size ≤ 140737488355328)) (
    strings_Replace_c21 k s0 s2 ((s10 ++ (s0.extract s11.toNat (wi64 (s11 + y2.2)).toNat)) ++ s2) (wi64 (s11 + y2.2)) s77 (wi64 (s78 + 1))) none) none) none) none) none) none) none) (
    cond (decide (0 ≤ s11)) (
    cond (decide (s11 ≤ (s0.size : Int))) (
    cond (decide (s10.size + (s0.extract s11.toNat s0.size).size ≤ 140737488355328)) (
    some (s10 ++ (s0.extract s11.toNat s0.size))) none) none) none) := by kernel_rfl
/-- strings.ReplaceAll -/
noncomputable def strings_ReplaceAll (k : Nat) (a : ByteArray) (b : ByteArray) (c : ByteArray) : Option ByteArray := callA P A k 23 (a, b, c)
theorem strings_ReplaceAll_eq (k : Nat) (a : ByteArray) (b : ByteArray) (c : ByteArray) : strings_ReplaceAll (k + 1) a b c =
  (strings_Replace k a b c (-1)).bind fun y0 =>
  some y0 := by kernel_rfl
/-- interchange/amount.WeekDay -/
noncomputable def amount_WeekDay (k : Nat) (a : Int) : Option Int := callA P A k 36 a
theorem amount_WeekDay_eq (k : Nat) (a : Int) : amount_WeekDay (k + 1) a =
  some ((wi64 (a - 1)).tmod 7) := by kernel_rfl
/-- interchange/kit.IsDay -/
noncomputable def kit_IsDay (k : Nat) (a : Int) : Option Bool := callA P A k 37 a
theorem kit_IsDay_eq (k : Nat) (a : Int) : kit_IsDay (k + 1) a =
  (kit_Outside k a 1 3652059).bind fun y0 =>
  some (!y0) := by kernel_rfl
/-- interchange/amount.dateOf -/
noncomputable def amount_dateOf (k : Nat) (a : Int) : Option (Int × Int × Int) := callA P A k 57 a
noncomputable def amount_dateOf_c2 (k : Nat) (s0 : Int) (s2 : Int) : Option (Int × Int × Int) := cutA P A k 57 (todoAt P A 57 2) [(0, (.byv (.int .i64))), (2, (.byv (.int .i64)))] (s0, s2)
noncomputable def amount_dateOf_c5 (k : Nat) (s2 : Int) (s3 : Int) (s4 : Int) : Option (Int × Int × Int) := cutA P A k 57 (todoAt P A 57 5) [(2, (.byv (.int .i64))), (3, (.byv (.int .i64))), (4, (.byv (.int .i64)))] (s2, s3, s4)
theorem amount_dateOf_eq (k : Nat) (a : Int) : amount_dateOf (k + 1) a =
  amount_dateOf_c2 k a (wi64 ((wi64 (a.tdiv 366)) + 1)) := by kernel_rfl
theorem amount_dateOf_c2_eq (k : Nat) (s0 : Int) (s2 : Int) : amount_dateOf_c2 (k + 1) s0 s2 =
  (cond (decide (s2 < 9999)) (amount_before k (wi64 (s2 + 1))) (some 0)).bind fun y0 =>
  cond (cond (decide (s2 < 9999)) (decide (y0 < s0)) false) (
    amount_dateOf_c2 k s0 (wi64 (s2 + 1))) (
    (amount_before k s2).bind fun y1 =>
    amount_dateOf_c5 k s2 1 (wi64 (s0 - y1))) := by kernel_rfl
theorem amount_dateOf_c5_eq (k : Nat) (s2 : Int) (s3 : Int) (s4 : Int) : amount_dateOf_c5 (k + 1) s2 s3 s4 =
  (amount_daysOf k s2 s3).bind fun y2 =>
  cond (decide (s4 > y2)) (
    (amount_daysOf k s2 s3).bind fun y3 =>
    amount_dateOf_c5 k s2 (wi64 (s3 + 1)) (wi64 (s4 - y3))) (
    some (s2, (s3, s4))) := by kernel_rfl
/-- interchange/amount.weekOf -/
noncomputable def amount_weekOf (k : Nat) (a : Int) : Option (Int × Int) := callA P A k 38 a
theorem amount_weekOf_eq (k : Nat) (a : Int) : amount_weekOf (k + 1) a =
  (amount_WeekDay k a).bind fun y0 =>
  (amount_dateOf k (wi64 ((wi64 (a - y0)) + 3))).bind fun y1 =>
  (amount_before k y1.1).bind fun y2 =>
  some (y1.1, (wi64 ((wi64 ((wi64 ((wi64 ((wi64 ((wi64 (a - y0)) + 3)) - y2)) - 1)).tdiv 7)) + 1))) := by kernel_rfl
/-- interchange/amount.weekDay -/
noncomputable def amount_weekDay (k : Nat) (a : Int) (b : Int) (c : Int) : Option (Int × Bool) := callA P A k 24 (a, b, c)
theorem amount_weekDay_eq (k : Nat) (a : Int) (b : Int) (c : Int) : amount_weekDay (k + 1) a b c =
  (kit_Outside k a 1 9999).bind fun y0 =>
  (cond (!y0) (kit_Outside k c 1 7) (some false)).bind fun y1 =>
  cond (cond y0 true y1) (
    some (0, false)) (
    (amount_before k a).bind fun y2 =>
    (amount_WeekDay k (wi64 (y2 + 4))).bind fun y3 =>
    (kit_IsDay k (wi64 ((wi64 ((wi64 ((wi64 ((wi64 (y2 + 4)) - y3)) + (wi64 ((wi64 (b - 1)) * 7)))) + c)) - 1))).bind fun y4 =>
    cond (!y4) (
      some (0, false)) (
      (amount_weekOf k (wi64 ((wi64 ((wi64 ((wi64 ((wi64 (y2 + 4)) - y3)) + (wi64 ((wi64 (b - 1)) * 7)))) + c)) - 1))).bind fun y5 =>
      some ((wi64 ((wi64 ((wi64 ((wi64 ((wi64 (y2 + 4)) - y3)) + (wi64 ((wi64 (b - 1)) * 7)))) + c)) - 1)), (cond (y5.1 == a) (y5.2 == b) false)))) := by kernel_rfl
/-- interchange/amount.readDay -/
noncomputable def amount_readDay (k : Nat) (a : ByteArray) (b : Int) (c : Int) : Option (Int × Bool) := callA P A k 13 (a, b, c)
theorem amount_readDay_eq (k : Nat) (a : ByteArray) (b : Int) (c : Int) : amount_readDay (k + 1) a b c =
  cond (b == 1) (
    (amount_parts k a [4, 2, 2]).bind fun y0 =>
    cond (!y0.2) (
      some (0, false)) (
      cond (decide (0 < (y0.1.length : Int))) (
      cond (decide (1 < (y0.1.length : Int))) (
      cond (decide (2 < (y0.1.length : Int))) (
      (amount_dayOf k (y0.1.getD 0 0) (y0.1.getD 1 0) (y0.1.getD 2 0)).bind fun y1 =>
      some y1) none) none) none)) (
    cond (b == 2) (
      (amount_parts k a [2, 2, 2]).bind fun y2 =>
      cond (!y2.2) (
        some (0, false)) (
        cond (decide (0 < (y2.1.length : Int))) (
        cond (decide (1 < (y2.1.length : Int))) (
        cond (decide (2 < (y2.1.length : Int))) (
        (amount_dayOf k (wi64 (c + ((wi64 (((wi64 ((y2.1.getD 0 0) - c)).tmod 100) + 100)).tmod 100))) (y2.1.getD 1 0) (y2.1.getD 2 0)).bind fun y3 =>
        some y3) none) none) none)) (
      cond (b == 3) (
        (amount_parts k a [2, 2, 4]).bind fun y4 =>
        cond (!y4.2) (
          some (0, false)) (
          cond (decide (2 < (y4.1.length : Int))) (
          cond (decide (1 < (y4.1.length : Int))) (
          cond (decide (0 < (y4.1.length : Int))) (
          (amount_dayOf k (y4.1.getD 2 0) (y4.1.getD 1 0) (y4.1.getD 0 0)).bind fun y5 =>
          some y5) none) none) none)) (
        cond (b == 4) (
          (strings_ReplaceAll k a (bs [45]) (bs [])).bind fun y6 =>
          (amount_parts k y6 [4, 2, 2]).bind fun y7 =>
          cond ((!(!(!y7.2))) || true) (
          cond ((!(!(!y7.2))) || (decide (4 ≤ (y6.size : Int)))) (
          cond ((!(!(!y7.2))) || (decide ((y6.extract 0 4).size + 1 ≤ 9223372036854775807))) (
          cond ((!(!(!y7.2))) || true) (
          cond ((!(!(!y7.2))) || true) (
          cond ((!(!(!y7.2))) || (decide (6 ≤ (y6.size : Int)))) (
          cond ((!(!(!y7.2))) || (decide (((y6.extract 0 4) ++ (bs [45])).size + (y6.extract 4 6).size ≤ 9223372036854775807))) (
          cond ((!(!(!y7.2))) || (decide ((((y6.extract 0 4) ++ (bs [45])) ++ (y6.extract 4 6)).size + 1 ≤ 9223372036854775807))) (
          cond ((!(!(!y7.2))) || true) (
          cond ((!(!(!y7.2))) || (decide (6 ≤ (y6.size : Int)))) (
          cond ((!(!(!y7.2))) || (decide (((((y6.extract 0 4) ++ (bs [45])) ++ (y6.extract 4 6)) ++ (bs [45])).size + (y6.extract 6 y6.size).size ≤ 9223372036854775807))) (
          cond (cond (!y7.2) true (!(eqS a (((((y6.extract 0 4) ++ (bs [45])) ++ (y6.extract 4 6)) ++ (bs [45])) ++ (y6.extract 6 y6.size))))) (
            some (0, false)) (
            cond (decide (0 < (y7.1.length : Int))) (
            cond (decide (1 < (y7.1.length : Int))) (
            cond (decide (2 < (y7.1.length : Int))) (
            (amount_dayOf k (y7.1.getD 0 0) (y7.1.getD 1 0) (y7.1.getD 2 0)).bind fun y8 =>
            some y8) none) none) none)) none) none) none) none) none) none) none) none) none) none) none) (
          (amount_parts k a [4, 2, 1]).bind fun y9 =>
          cond (!y9.2) (
            some (0, false)) (
            cond (decide (0 < (y9.1.length : Int))) (
            cond (decide (1 < (y9.1.length : Int))) (
            cond (decide (2 < (y9.1.length : Int))) (
            (amount_weekDay k (y9.1.getD 0 0) (y9.1.getD 1 0) (y9.1.getD 2 0)).bind fun y10 =>
            some y10) none) none) none))))) := by kernel_rfl
/-- interchange/amount.ReadDay -/
noncomputable def amount_ReadDay (k : Nat) (a : ByteArray) (b : Int) (c : Int) : Option (Int × Int) := callA P A k 5 (a, b, c)
theorem amount_ReadDay_eq (k : Nat) (a : ByteArray) (b : Int) (c : Int) : amount_ReadDay (k + 1) a b c =
  (amount_isForm k b).bind fun y0 =>
  cond (!y0) (
    some (0, 4)) (
    (kit_Outside k c 1 9900).bind fun y1 =>
    cond y1 (
      some (0, 1)) (
      (amount_readDay k a b c).bind fun y2 =>
      cond (!y2.2) (
        some (0, 10)) (
        some (y2.1, 0)))) := by kernel_rfl
/-- internal/stringslite.HasPrefix -/
noncomputable def stringslite_HasPrefix (k : Nat) (a : ByteArray) (b : ByteArray) : Option Bool := callA P A k 58 (a, b)
theorem stringslite_HasPrefix_eq (k : Nat) (a : ByteArray) (b : ByteArray) : stringslite_HasPrefix (k + 1) a b =
  cond ((!(decide ((a.size : Int) ≥ (b.size : Int)))) || (decide (0 ≤ (b.size : Int)))) (
  cond ((!(decide ((a.size : Int) ≥ (b.size : Int)))) || (decide ((b.size : Int) ≤ (a.size : Int)))) (
  some (cond (decide ((a.size : Int) ≥ (b.size : Int))) (eqS (a.extract 0 (b.size : Int).toNat) b) false)) none) none := by kernel_rfl
/-- internal/stringslite.CutPrefix -/
noncomputable def stringslite_CutPrefix (k : Nat) (a : ByteArray) (b : ByteArray) : Option (ByteArray × Bool) := callA P A k 39 (a, b)
theorem stringslite_CutPrefix_eq (k : Nat) (a : ByteArray) (b : ByteArray) : stringslite_CutPrefix (k + 1) a b =
  (stringslite_HasPrefix k a b).bind fun y0 =>
  cond (!y0) (
    some (a, false)) (
    cond (decide (0 ≤ (b.size : Int))) (
    cond (decide ((b.size : Int) ≤ (a.size : Int))) (
    some ((a.extract (b.size : Int).toNat a.size), true)) none) none) := by kernel_rfl
/-- strings.CutPrefix -/
noncomputable def strings_CutPrefix (k : Nat) (a : ByteArray) (b : ByteArray) : Option (ByteArray × Bool) := callA P A k 25 (a, b)
theorem strings_CutPrefix_eq (k : Nat) (a : ByteArray) (b : ByteArray) : strings_CutPrefix (k + 1) a b =
  (stringslite_CutPrefix k a b).bind fun y0 =>
  some y0 := by kernel_rfl
/-- internal/stringslite.Cut -/
noncomputable def stringslite_Cut (k : Nat) (a : ByteArray) (b : ByteArray) : Option (ByteArray × ByteArray × Bool) := callA P A k 40 (a, b)
theorem stringslite_Cut_eq (k : Nat) (a : ByteArray) (b : ByteArray) : stringslite_Cut (k + 1) a b =
  (stringslite_Index k a b).bind fun y0 =>
  cond (decide (y0 ≥ 0)) (
    cond (decide (0 ≤ y0)) (
    cond (decide (y0 ≤ (a.size : Int))) (
    cond (decide (0 ≤ (wi64 (y0 + (b.size : Int))))) (
    cond (decide ((wi64 (y0 + (b.size : Int))) ≤ (a.size : Int))) (
    some ((a.extract 0 y0.toNat), ((a.extract (wi64 (y0 + (b.size : Int))).toNat a.size), true))) none) none) none) none) (
    some (a, ((bs []), false))) := by kernel_rfl
/-- strings.Cut -/
noncomputable def strings_Cut (k : Nat) (a : ByteArray) (b : ByteArray) : Option (ByteArray × ByteArray × Bool) := callA P A k 26 (a, b)
theorem strings_Cut_eq (k : Nat) (a : ByteArray) (b : ByteArray) : strings_Cut (k + 1) a b =
  (stringslite_Cut k a b).bind fun y0 =>
  some y0 := by kernel_rfl
/-- interchange/amount.isWhole -/
noncomputable def amount_isWhole (k : Nat) (a : ByteArray) : Option Bool := callA P A k 27 a
theorem amount_isWhole_eq (k : Nat) (a : ByteArray) : amount_isWhole (k + 1) a =
  (kit_IsDigits k a).bind fun y0 =>
  cond ((!(y0 && (!((a.size : Int) == 1)))) || true) (
  cond ((!(y0 && (!((a.size : Int) == 1)))) || (decide (0 < (a.size : Int)))) (
  some (cond y0 (cond ((a.size : Int) == 1) true ((bt a 0) != 48)) false)) none) none := by kernel_rfl
/-- interchange/whole.trimmed -/
noncomputable def whole_trimmed (k : Nat) (a : List Int) : Option (List Int) := callA P A k 79 a
noncomputable def whole_trimmed_c1 (k : Nat) (s0 : List Int) : Option (List Int) := cutA P A k 79 (todoAt P A 79 1) [(0, (.byv (.sl (.int .u32))))] s0
theorem whole_trimmed_eq (k : Nat) (a : List Int) : whole_trimmed (k + 1) a =
  whole_trimmed_c1 k a := by kernel_rfl
theorem whole_trimmed_c1_eq (k : Nat) (s0 : List Int) : whole_trimmed_c1 (k + 1) s0 =
  cond ((!(decide ((s0.length : Int) > 0))) || (decide (0 ≤ (wi64 ((s0.length : Int) - 1))))) (
  cond ((!(decide ((s0.length : Int) > 0))) || (decide ((wi64 ((s0.length : Int) - 1)) < (s0.length : Int)))) (
  cond (cond (decide ((s0.length : Int) > 0)) ((s0.getD (wi64 ((s0.length : Int) - 1)).toNat 0) == 0) false) (
    cond (decide (0 ≤ (wi64 ((s0.length : Int) - 1)))) (
    cond (decide ((wi64 ((s0.length : Int) - 1)) ≤ (s0.length : Int))) (
    whole_trimmed_c1 k (s0.take (wi64 ((s0.length : Int) - 1)).toNat)) none) none) (
    some s0)) none) none := by kernel_rfl
/-- interchange/whole.made -/
noncomputable def whole_made (k : Nat) (a : Bool) (b : List Int) : Option (Bool × List Int) := callA P A k 60 (a, b)
theorem whole_made_eq (k : Nat) (a : Bool) (b : List Int) : whole_made (k + 1) a b =
  (whole_trimmed k b).bind fun y0 =>
  some ((cond a (decide ((y0.length : Int) > 0)) false), y0) := by kernel_rfl
/-- interchange/whole.Of -/
noncomputable def whole_Of (k : Nat) (a : Int) : Option (Bool × List Int) := callA P A k 42 a
theorem whole_Of_eq (k : Nat) (a : Int) : whole_Of (k + 1) a =
  cond (decide (a < 0)) (
    (whole_made k (decide (a < 0)) [(wu32 (wu64 (0 - (wu64 a)))), (wu32 (shrI .u64 (wu64 (0 - (wu64 a))) 32))]).bind fun y0 =>
    some y0) (
    (whole_made k (decide (a < 0)) [(wu32 (wu64 a)), (wu32 (shrI .u64 (wu64 a) 32))]).bind fun y1 =>
    some y1) := by kernel_rfl
/-- (interchange/whole.Int).Times -/
noncomputable def whole_Int_Times (k : Nat) (a : Bool × List Int) (b : Bool × List Int) : Option (Bool × List Int) := callA P A k 43 (a, b)
noncomputable def whole_Int_Times_c3 (k : Nat) (s2 : Bool × List Int) (s3 : Bool × List Int) (s4 : Bool × List Int) (s5 : List Int) (s20 : List Int) (s21 : Int) (s22 : Int) : Option (Bool × List Int) := cutA P A k 43 (todoAt P A 43 3) [(2, (.box 65 [(.byv .bool), (.byv (.sl (.int .u32)))])), (3, (.box 65 [(.byv .bool), (.byv (.sl (.int .u32)))])), (4, (.box 65 [(.byv .bool), (.own 85 (.int .u32))])), (5, (.own 85 (.int .u32))), (20, (.byv (.sl (.int .u32)))), (21, (.byv (.int .i64))), (22, (.byv (.int .i64)))] (s2, s3, s4, s5, s20, s21, s22)
noncomputable def whole_Int_Times_c7 (k : Nat) (s2 : Bool × List Int) (s3 : Bool × List Int) (s4 : Bool × List Int) (s5 : List Int) (s6 : Int) (s7 : Int) (s8 : Int) (s20 : List Int) (s21 : Int) (s22 : Int) (s28 : List Int) (s29 : Int) (s30 : Int) : Option (Bool × List Int) := cutA P A k 43 (todoAt P A 43 7) [(2, (.box 65 [(.byv .bool), (.byv (.sl (.int .u32)))])), (3, (.box 65 [(.byv .bool), (.byv (.sl (.int .u32)))])), (4, (.box 65 [(.byv .bool), (.own 85 (.int .u32))])), (5, (.own 85 (.int .u32))), (6, (.byv (.int .i64))), (7, (.byv (.int .u32))), (8, (.byv (.int .u64))), (20, (.byv (.sl (.int .u32)))), (21, (.byv (.int .i64))), (22, (.byv (.int .i64))), (28, (.byv (.sl (.int .u32)))), (29, (.byv (.int .i64))), (30, (.byv (.int .i64)))] (s2, s3, s4, s5, s6, s7, s8, s20, s21, s22, s28, s29, s30)
theorem whole_Int_Times_eq (k : Nat) (a : Bool × List Int) (b : Bool × List Int) : whole_Int_Times (k + 1) a b =
  cond (decide (0 ≤ (wi64 ((a.2.length : Int) + (b.2.length : Int))))) (
  cond (decide ((wi64 ((a.2.length : Int) + (b.2.length : Int))).toNat ≤ 35184372088832)) (
  whole_Int_Times_c3 k a b (false, []) (List.replicate (wi64 ((a.2.length : Int) + (b.2.length : Int))).toNat 0) a.2 (a.2.length : Int) 0) none) none := by kernel_rfl
theorem whole_Int_Times_c3_eq (k : Nat) (s2 : Bool × List Int) (s3 : Bool × List Int) (s4 : Bool × List Int) (s5 : List Int) (s20 : List Int) (s21 : Int) (s22 : Int) : whole_Int_Times_c3 (k + 1) s2 s3 s4 s5 s20 s21 s22 =
  cond (decide (s22 < s21)) (
    cond (decide (0 ≤ s22)) (
    cond (decide (s22 < (s20.length : Int))) (
    whole_Int_Times_c7 k s2 s3 s4 s5 s22 (s20.getD s22.toNat 0) 0 s20 s21 s22 s3.2 (s3.2.length : Int) 0) none) none) (
    (whole_made k (!(s2.1 == s3.1)) s5).bind fun y0 =>
    some y0) := by kernel_rfl
theorem whole_Int_Times_c7_eq (k : Nat) (s2 : Bool × List Int) (s3 : Bool × List Int) (s4 : Bool × List Int) (s5 : List Int) (s6 : Int) (s7 : Int) (s8 : Int) (s20 : List Int) (s21 : Int) (s22 : Int) (s28 : List Int) (s29 : Int) (s30 : Int) : whole_Int_Times_c7 (k + 1) s2 s3 s4 s5 s6 s7 s8 s20 s21 s22 s28 s29 s30 =
  cond (decide (s30 < s29)) (
    cond (decide (0 ≤ s30)) (
    cond (decide (s30 < (s28.length : Int))) (
    cond (decide (0 ≤ (wi64 (s6 + s30)))) (
    cond (decide ((wi64 (s6 + s30)) < (s5.length : Int))) (
    cond (decide (0 ≤ (wi64 (s6 + s30)))) (
    cond (decide ((wi64 (s6 + s30)) < (s5.length : Int))) (
    whole_Int_Times_c7 k s2 s3 s4 (s5.set (wi64 (s6 + s30)).toNat (wu32 (wu64 (s8 + (wu64 ((wu64 (s5.getD (wi64 (s6 + s30)).toNat 0)) + (wu64 ((wu64 s7) * (wu64 (s28.getD s30.toNat 0)))))))))) s6 s7 (shrI .u64 (wu64 (s8 + (wu64 ((wu64 (s5.getD (wi64 (s6 + s30)).toNat 0)) + (wu64 ((wu64 s7) * (wu64 (s28.getD s30.toNat 0)))))))) 32) s20 s21 s22 s28 s29 (wi64 (s30 + 1))) none) none) none) none) none) none) (
    cond (decide (0 ≤ (wi64 (s6 + (s3.2.length : Int))))) (
    cond (decide ((wi64 (s6 + (s3.2.length : Int))) < (s5.length : Int))) (
    whole_Int_Times_c3 k s2 s3 s4 (s5.set (wi64 (s6 + (s3.2.length : Int))).toNat (wu32 s8)) s20 s21 (wi64 (s22 + 1))) none) none) := by kernel_rfl
/-- interchange/whole.sum -/
noncomputable def whole_sum (k : Nat) (a : List Int) (b : List Int) : Option (List Int) := callA P A k 61 (a, b)
noncomputable def whole_sum_c3 (k : Nat) (s0 : List Int) (s1 : List Int) : Option (List Int) := cutA P A k 61 (todoAt P A 61 3) [(0, (.byv (.sl (.int .u32)))), (1, (.byv (.sl (.int .u32))))] (s0, s1)
noncomputable def whole_sum_c6 (k : Nat) (s1 : List Int) (s5 : List Int) (s6 : Int) (s20 : List Int) (s21 : Int) (s22 : Int) : Option (List Int) := cutA P A k 61 (todoAt P A 61 6) [(1, (.byv (.sl (.int .u32)))), (5, (.own 85 (.int .u32))), (6, (.byv (.int .u64))), (20, (.byv (.sl (.int .u32)))), (21, (.byv (.int .i64))), (22, (.byv (.int .i64)))] (s1, s5, s6, s20, s21, s22)
theorem whole_sum_eq (k : Nat) (a : List Int) (b : List Int) : whole_sum (k + 1) a b =
  cond (decide ((a.length : Int) < (b.length : Int))) (
    whole_sum_c3 k b a) (
    whole_sum_c3 k a b) := by kernel_rfl
theorem whole_sum_c3_eq (k : Nat) (s0 : List Int) (s1 : List Int) : whole_sum_c3 (k + 1) s0 s1 =
  cond (decide (0 ≤ (wi64 ((s0.length : Int) + 1)))) (
  cond (decide ((wi64 ((s0.length : Int) + 1)).toNat ≤ 35184372088832)) (
  whole_sum_c6 k s1 (List.replicate 0 0) 0 s0 (s0.length : Int) 0) none) none := by kernel_rfl
theorem whole_sum_c6_eq (k : Nat) (s1 : List Int) (s5 : List Int) (s6 : Int) (s20 : List Int) (s21 : Int) (s22 : Int) : whole_sum_c6 (k + 1) s1 s5 s6 s20 s21 s22 =
  cond (decide (s22 < s21)) (
    cond (decide (0 ≤ s22)) (
    cond (decide (s22 < (s20.length : Int))) (
    cond (decide (s22 < (s1.length : Int))) (
      cond (decide (0 ≤ s22)) (
      cond (decide (s22 < (s1.length : Int))) (
      cond (decide (s5.length + 1 < 35184372088832)) (
      whole_sum_c6 k s1 (s5 ++ [(wu32 (wu64 ((wu64 (s6 + (wu64 (s20.getD s22.toNat 0)))) + (wu64 (s1.getD s22.toNat 0)))))]) (shrI .u64 (wu64 ((wu64 (s6 + (wu64 (s20.getD s22.toNat 0)))) + (wu64 (s1.getD s22.toNat 0)))) 32) s20 s21 (wi64 (s22 + 1))) none) none) none) (
      cond (decide (s5.length + 1 < 35184372088832)) (
      whole_sum_c6 k s1 (s5 ++ [(wu32 (wu64 (s6 + (wu64 (s20.getD s22.toNat 0)))))]) (shrI .u64 (wu64 (s6 + (wu64 (s20.getD s22.toNat 0)))) 32) s20 s21 (wi64 (s22 + 1))) none)) none) none) (
    cond (decide (s5.length + 1 < 35184372088832)) (
    some (s5 ++ [(wu32 s6)])) none) := by kernel_rfl
/-- interchange/whole.compare -/
noncomputable def whole_compare (k : Nat) (a : List Int) (b : List Int) : Option Int := callA P A k 62 (a, b)
noncomputable def whole_compare_c4 (k : Nat) (s0 : List Int) (s1 : List Int) (s5 : Int) : Option Int := cutA P A k 62 (todoAt P A 62 4) [(0, (.byv (.sl (.int .u32)))), (1, (.byv (.sl (.int .u32)))), (5, (.byv (.int .i64)))] (s0, s1, s5)
theorem whole_compare_eq (k : Nat) (a : List Int) (b : List Int) : whole_compare (k + 1) a b =
  cond ((a.length : Int) != (b.length : Int)) (
    some (wi64 ((a.length : Int) - (b.length : Int)))) (
    whole_compare_c4 k a b (wi64 ((a.length : Int) - 1))) := by kernel_rfl
theorem whole_compare_c4_eq (k : Nat) (s0 : List Int) (s1 : List Int) (s5 : Int) : whole_compare_c4 (k + 1) s0 s1 s5 =
  cond (decide (s5 ≥ 0)) (
    cond (decide (0 ≤ s5)) (
    cond (decide (s5 < (s0.length : Int))) (
    cond (decide (0 ≤ s5)) (
    cond (decide (s5 < (s1.length : Int))) (
    cond ((s0.getD s5.toNat 0) != (s1.getD s5.toNat 0)) (
      cond (decide (0 ≤ s5)) (
      cond (decide (s5 < (s0.length : Int))) (
      cond (decide (0 ≤ s5)) (
      cond (decide (s5 < (s1.length : Int))) (
      cond (decide ((s0.getD s5.toNat 0) < (s1.getD s5.toNat 0))) (
        some (-1)) (
        some 1)) none) none) none) none) (
      whole_compare_c4 k s0 s1 (wi64 (s5 - 1)))) none) none) none) none) (
    some 0) := by kernel_rfl
/-- interchange/whole.less -/
noncomputable def whole_less (k : Nat) (a : List Int) (b : List Int) : Option (List Int) := callA P A k 63 (a, b)
noncomputable def whole_less_c4 (k : Nat) (s1 : List Int) (s5 : List Int) (s6 : Int) (s13 : List Int) (s14 : Int) (s15 : Int) : Option (List Int) := cutA P A k 63 (todoAt P A 63 4) [(1, (.byv (.sl (.int .u32)))), (5, (.own 85 (.int .u32))), (6, (.byv (.int .u64))), (13, (.byv (.sl (.int .u32)))), (14, (.byv (.int .i64))), (15, (.byv (.int .i64)))] (s1, s5, s6, s13, s14, s15)
theorem whole_less_eq (k : Nat) (a : List Int) (b : List Int) : whole_less (k + 1) a b =
  cond (decide (0 ≤ (a.length : Int))) (
  cond (decide ((a.length : Int).toNat ≤ 35184372088832)) (
  whole_less_c4 k b (List.replicate 0 0) 0 a (a.length : Int) 0) none) none := by kernel_rfl
theorem whole_less_c4_eq (k : Nat) (s1 : List Int) (s5 : List Int) (s6 : Int) (s13 : List Int) (s14 : Int) (s15 : Int) : whole_less_c4 (k + 1) s1 s5 s6 s13 s14 s15 =
  cond (decide (s15 < s14)) (
    cond (decide (0 ≤ s15)) (
    cond (decide (s15 < (s13.length : Int))) (
    cond (decide (s15 < (s1.length : Int))) (
      cond (decide (0 ≤ s15)) (
      cond (decide (s15 < (s1.length : Int))) (
      cond (decide (s5.length + 1 < 35184372088832)) (
      whole_less_c4 k s1 (s5 ++ [(wu32 (wu64 ((wu64 ((wu64 (s13.getD s15.toNat 0)) - s6)) - (wu64 (s1.getD s15.toNat 0)))))]) (bitsI .and .u64 (shrI .u64 (wu64 ((wu64 ((wu64 (s13.getD s15.toNat 0)) - s6)) - (wu64 (s1.getD s15.toNat 0)))) 32) 1) s13 s14 (wi64 (s15 + 1))) none) none) none) (
      cond (decide (s5.length + 1 < 35184372088832)) (
      whole_less_c4 k s1 (s5 ++ [(wu32 (wu64 ((wu64 (s13.getD s15.toNat 0)) - s6)))]) (bitsI .and .u64 (shrI .u64 (wu64 ((wu64 (s13.getD s15.toNat 0)) - s6)) 32) 1) s13 s14 (wi64 (s15 + 1))) none)) none) none) (
    (whole_trimmed k s5).bind fun y0 =>
    some y0) := by kernel_rfl
/-- (interchange/whole.Int).Plus -/
noncomputable def whole_Int_Plus (k : Nat) (a : Bool × List Int) (b : Bool × List Int) : Option (Bool × List Int) := callA P A k 44 (a, b)
theorem whole_Int_Plus_eq (k : Nat) (a : Bool × List Int) (b : Bool × List Int) : whole_Int_Plus (k + 1) a b =
  cond (a.1 == b.1) (
    (whole_sum k a.2 b.2).bind fun y0 =>
    (whole_made k a.1 y0).bind fun y1 =>
    some y1) (
    (whole_compare k a.2 b.2).bind fun y2 =>
    cond (decide (y2 ≥ 0)) (
      (whole_less k a.2 b.2).bind fun y3 =>
      (whole_made k a.1 y3).bind fun y4 =>
      some y4) (
      (whole_less k b.2 a.2).bind fun y5 =>
      (whole_made k b.1 y5).bind fun y6 =>
      some y6)) := by kernel_rfl
/-- (interchange/whole.Int).Sign -/
noncomputable def whole_Int_Sign (k : Nat) (a : Bool × List Int) : Option Int := callA P A k 45 a
theorem whole_Int_Sign_eq (k : Nat) (a : Bool × List Int) : whole_Int_Sign (k + 1) a =
  cond a.1 (
    some (-1)) (
    cond ((a.2.length : Int) == 0) (
      some 0) (
      some 1)) := by kernel_rfl
/-- (interchange/whole.Int).Minus -/
noncomputable def whole_Int_Minus (k : Nat) (a : Bool × List Int) : Option (Bool × List Int) := callA P A k 46 a
theorem whole_Int_Minus_eq (k : Nat) (a : Bool × List Int) : whole_Int_Minus (k + 1) a =
  (whole_made k (!a.1) a.2).bind fun y0 =>
  some y0 := by kernel_rfl
/-- (interchange/whole.Int).Int -/
noncomputable def whole_Int_Int (k : Nat) (a : Bool × List Int) (b : Int) : Option (Int × Bool) := callA P A k 64 (a, b)
noncomputable def whole_Int_Int_c5 (k : Nat) (s1 : Int) (s2 : Bool × List Int) (s6 : Int) (s14 : List Int) (s15 : Int) (s16 : Int) : Option (Int × Bool) := cutA P A k 64 (todoAt P A 64 5) [(1, (.byv (.int .i64))), (2, (.box 65 [(.byv .bool), (.byv (.sl (.int .u32)))])), (6, (.byv (.int .u64))), (14, (.byv (.sl (.int .u32)))), (15, (.byv (.int .i64))), (16, (.byv (.int .i64)))] (s1, s2, s6, s14, s15, s16)
theorem whole_Int_Int_eq (k : Nat) (a : Bool × List Int) (b : Int) : whole_Int_Int (k + 1) a b =
  cond (decide ((a.2.length : Int) > 2)) (
    some (0, false)) (
    whole_Int_Int_c5 k b a 0 a.2 (a.2.length : Int) 0) := by kernel_rfl
theorem whole_Int_Int_c5_eq (k : Nat) (s1 : Int) (s2 : Bool × List Int) (s6 : Int) (s14 : List Int) (s15 : Int) (s16 : Int) : whole_Int_Int_c5 (k + 1) s1 s2 s6 s14 s15 s16 =
  cond (decide (s16 < s15)) (
    cond (decide (0 ≤ s16)) (
    cond (decide (s16 < (s14.length : Int))) (
    cond (decide (0 ≤ (wi64 (32 * s16)))) (
    whole_Int_Int_c5 k s1 s2 (bitsI .or .u64 s6 (shlI .u64 (wu64 (s14.getD s16.toNat 0)) (wi64 (32 * s16)))) s14 s15 (wi64 (s16 + 1))) none) none) none) (
    cond (decide (s6 > (wu64 s1))) (
      some (0, false)) (
      cond s2.1 (
        some ((wi64 (0 - (wi64 s6))), true)) (
        some ((wi64 s6), true)))) := by kernel_rfl
/-- interchange/amount.Made -/
noncomputable def amount_Made (k : Nat) (a : Bool × List Int) (b : Int) : Option ((Int × Int) × Int) := callA P A k 47 (a, b)
theorem amount_Made_eq (k : Nat) (a : Bool × List Int) (b : Int) : amount_Made (k + 1) a b =
  (whole_Int_Int k a 1000000000000000).bind fun y0 =>
  cond (!y0.2) (
    some ((0, 0), 1)) (
    some ((y0.1, b), 0)) := by kernel_rfl
/-- interchange/amount.read -/
noncomputable def amount_read (k : Nat) (a : Bool) (b : ByteArray) (c : ByteArray) : Option ((Int × Int) × Int) := callA P A k 29 (a, b, c)
noncomputable def amount_read_c3 (k : Nat) (s0 : Bool) (s1 : ByteArray) (s2 : ByteArray) (s6 : Int × Int) (s8 : Bool × List Int) (s14 : Int) (s15 : Int) : Option ((Int × Int) × Int) := cutA P A k 29 (todoAt P A 29 3) [(0, (.byv .bool)), (1, (.byv .str)), (2, (.byv .str)), (6, (.box 35 [(.byv (.int .i64)), (.byv (.int .i64))])), (8, (.box 65 [(.byv .bool), (.byv (.sl (.int .u32)))])), (14, (.byv (.int .i64))), (15, (.byv (.int .i64)))] (s0, s1, s2, s6, s8, s14, s15)
theorem amount_read_eq (k : Nat) (a : Bool) (b : ByteArray) (c : ByteArray) : amount_read (k + 1) a b c =
  (whole_Of k 0).bind fun y0 =>
  cond (decide (b.size + c.size ≤ 9223372036854775807)) (
  amount_read_c3 k a b c (0, 0) y0 ((b ++ c).size : Int) 0) none := by kernel_rfl
theorem amount_read_c3_eq (k : Nat) (s0 : Bool) (s1 : ByteArray) (s2 : ByteArray) (s6 : Int × Int) (s8 : Bool × List Int) (s14 : Int) (s15 : Int) : amount_read_c3 (k + 1) s0 s1 s2 s6 s8 s14 s15 =
  cond (decide (s15 < s14)) (
    (whole_Of k 10).bind fun y1 =>
    (whole_Int_Times k s8 y1).bind fun y2 =>
    cond (decide (s1.size + s2.size ≤ 9223372036854775807)) (
    cond (decide (0 ≤ s15)) (
    cond (decide (s15 < ((s1 ++ s2).size : Int))) (
    (whole_Of k (wi64 (wu8 ((bt (s1 ++ s2) s15) - 48)))).bind fun y3 =>
    (whole_Int_Plus k y2 y3).bind fun y4 =>
    amount_read_c3 k s0 s1 s2 s6 y4 s14 (wi64 (s15 + 1))) none) none) none) (
    cond s0 (
      (whole_Int_Sign k s8).bind fun y5 =>
      cond (y5 == 0) (
        some ((0, 0), 10)) (
        (whole_Int_Minus k s8).bind fun y6 =>
        (amount_Made k y6 (s2.size : Int)).bind fun y7 =>
        some y7)) (
      (amount_Made k s8 (s2.size : Int)).bind fun y8 =>
      some y8)) := by kernel_rfl
/-- interchange/amount.ReadText -/
noncomputable def amount_ReadText (k : Nat) (a : ByteArray) : Option ((Int × Int) × Int) := callA P A k 14 a
theorem amount_ReadText_eq (k : Nat) (a : ByteArray) : amount_ReadText (k + 1) a =
  (strings_CutPrefix k a (bs [45])).bind fun y0 =>
  (strings_Cut k y0.1 (bs [46])).bind fun y1 =>
  (cond (!(decide ((a.size : Int) > 40))) (amount_isWhole k y1.1) (some false)).bind fun y2 =>
  (cond ((!(cond (decide ((a.size : Int) > 40)) true (!y2))) && y1.2.2) (kit_IsDigits k y1.2.1) (some false)).bind fun y3 =>
  cond (cond (cond (decide ((a.size : Int) > 40)) true (!y2)) true (cond y1.2.2 (cond (!y3) true (decide ((y1.2.1.size : Int) > 9))) false)) (
    some ((0, 0), 10)) (
    (amount_read k y0.2 y1.1 y1.2.1).bind fun y4 =>
    some y4) := by kernel_rfl
/-- interchange/interchangelaw1.awake -/
noncomputable def interchangelaw1_awake (k : Nat) : Option Bool := callA P A k 6 ()
theorem interchangelaw1_awake_eq (k : Nat) : interchangelaw1_awake (k + 1) =
  (amount_ReadText k (bs [49, 46, 53, 48])).bind fun y0 =>
  some (cond (y0.2 == 0) ((y0.1.1 == 150) && ((y0.1.2 == 2) && true)) false) := by kernel_rfl
/-- interchange/interchangelaw1.AmountDayReadsMatchSpec -/
noncomputable def interchangelaw1_AmountDayReadsMatchSpec (k : Nat) (a : ByteArray) (b : Int) (c : Int) : Option Bool := callA P A k 3 (a, b, c)
theorem interchangelaw1_AmountDayReadsMatchSpec_eq (k : Nat) (a : ByteArray) (b : Int) (c : Int) : interchangelaw1_AmountDayReadsMatchSpec (k + 1) a b c =
  (interchangeref1_ReadDay k a b c).bind fun y0 =>
  (amount_ReadDay k a b c).bind fun y1 =>
  (cond (cond (y1.2 == y0.2) (y1.1 == y0.1) false) (interchangelaw1_awake k) (some false)).bind fun y2 =>
  some (cond (cond (y1.2 == y0.2) (y1.1 == y0.1) false) y2 false) := by kernel_rfl
end Go.Proofs.YtognnibmcifjeaaGreatDoor.Eq
