/- The functions that these laws reach: how their calls are read, and the equations that they obey. Printed by a program of this session's own; Lean checks each equation. -/
import Derived.Test.YtegiadfbniamkaaDoorK1
import Derived.Test.YtegiadfbniamkaaDoorProg
import Derived.KernelRfl
import Derived.Lib.Bytealg
import Derived.Lib.SlTrimSet
import Derived.Lib.ItoaNum
import Derived.Lib.Replace
import Derived.Lib.Repeat
import Derived.Lib.Split
namespace Go.Proofs.YtegiadfbniamkaaDoor.Eq
open Go Go.Ra
set_option linter.unusedVariables false
def var8 : Var := ⟨8, [(.byv (.int .i64)), (.byv .str), (.byv (.int .i64)), (.byv (.int .i64))], [(.byv .bool)], fun r => if r = 12 then some [(0, (.byv (.int .i64))), (2, (.byv (.int .i64))), (9, (.byv .str))] else none, fun _ _ => false, fun _ _ => none, fun _ => [], 0⟩
def var11 : Var := ⟨11, [], [(.byv .bool)], fun _ => none, fun _ _ => false, fun _ _ => none, fun _ => [], 0⟩
def var21 : Var := ⟨21, [(.byv .str)], [(.byv (.pair (.int .i64) (.int .i64))), (.byv (.int .i64))], fun _ => none, fun _ _ => false, fun _ _ => none, fun _ => [], 0⟩
def var33 : Var := ⟨33, [(.byv (.int .i64)), (.byv .str)], [(.byv .str), (.byv (.int .i64))], fun r => if r = 16 then some [(0, (.byv (.int .i64))), (1, (.byv .str)), (49, (.byv (.int .i64)))] else none, fun _ _ => false, fun _ _ => none, fun _ => [], 0⟩
def var34 : Var := ⟨34, [(.byv (.int .i64)), (.byv .str)], [(.byv .bool), (.byv (.int .i64))], fun _ => none, fun _ _ => false, fun _ _ => none, fun _ => [], 0⟩
def var35 : Var := ⟨35, [(.byv .str), (.byv (.int .i64)), (.byv (.int .i64))], [(.byv .str)], fun _ => none, fun r i => (Nat.beq r 4 && Nat.beq i 1), fun _ _ => none, fun _ => [], 0⟩
def var36 : Var := ⟨36, [(.byv .str)], [(.byv .str), (.byv (.int .i64))], fun _ => none, fun _ _ => false, fun _ _ => none, fun _ => [], 0⟩
def var37 : Var := ⟨37, [(.byv .str), (.byv (.int .i64))], [(.byv .str)], fun _ => none, fun r i => (Nat.beq r 5 && Nat.beq i 1), fun _ _ => none, fun _ => [], 0⟩
def var41 : Var := ⟨41, [(.byv (.pair .bool (.sl (.int .u32)))), (.byv (.int .i64))], [(.byv (.int .i64)), (.byv .bool)], fun r => if r = 5 then some [(1, (.byv (.int .i64))), (2, (.box 65 [(.byv .bool), (.byv (.sl (.int .u32)))])), (6, (.byv (.int .u64))), (14, (.byv (.sl (.int .u32)))), (15, (.byv (.int .i64))), (16, (.byv (.int .i64)))] else none, fun _ _ => false, fun _ _ => none, fun _ => [], 0⟩
def var55 : Var := ⟨55, [(.byv (.int .i64)), (.byv (.int .i64))], [(.byv .str)], fun _ => none, fun _ _ => false, fun _ _ => none, fun _ => [], 0⟩
def var57 : Var := ⟨57, [(.byv (.int .i64))], [(.byv .str)], fun _ => none, fun _ _ => false, fun _ _ => none, fun _ => [], 0⟩
def var59 : Var := ⟨59, [(.byv (.int .i64)), (.byv (.int .i64)), (.byv (.int .i64))], [(.byv .bool)], fun _ => none, fun _ _ => false, fun _ _ => none, fun _ => [], 0⟩
def var63 : Var := ⟨63, [(.byv (.int .i64))], [(.byv (.pair .bool (.sl (.int .u32))))], fun _ => none, fun _ _ => false, fun _ _ => none, fun _ => [], 0⟩
def var67 : Var := ⟨67, [(.byv .str), (.byv .str)], [(.byv .str), (.byv .bool)], fun _ => none, fun _ _ => false, fun _ _ => none, fun _ => [], 0⟩
def var68 : Var := ⟨68, [(.byv .str), (.byv .str)], [(.byv .str), (.byv .str), (.byv .bool)], fun _ => none, fun _ _ => false, fun _ _ => none, fun _ => [], 0⟩
def var69 : Var := ⟨69, [(.byv .str)], [(.byv .bool)], fun _ => none, fun _ _ => false, fun _ _ => none, fun _ => [], 0⟩
def var70 : Var := ⟨70, [(.byv .str)], [(.byv .bool)], fun _ => none, fun _ _ => false, fun _ _ => none, fun _ => [], 0⟩
def var71 : Var := ⟨71, [(.byv .bool), (.byv .str), (.byv .str)], [(.byv (.pair (.int .i64) (.int .i64))), (.byv (.int .i64))], fun r => if r = 3 then some [(0, (.byv .bool)), (1, (.byv .str)), (2, (.byv .str)), (6, (.box 40 [(.byv (.int .i64)), (.byv (.int .i64))])), (8, (.box 65 [(.byv .bool), (.byv (.sl (.int .u32)))])), (14, (.byv (.int .i64))), (15, (.byv (.int .i64)))] else none, fun _ _ => false, fun _ _ => none, fun _ => [], 0⟩
def var78 : Var := ⟨78, [(.byv (.pair .bool (.sl (.int .u32))))], [(.byv (.int .i64))], fun _ => none, fun _ _ => false, fun _ _ => none, fun _ => [], 0⟩
def var79 : Var := ⟨79, [(.byv .str), (.byv (.int .i64))], [(.byv .str)], fun _ => none, fun _ _ => false, fun _ _ => none, fun _ => [], 0⟩
def var83 : Var := ⟨83, [(.byv .str), (.byv .str)], [(.byv .str)], fun _ => none, fun _ _ => false, fun _ _ => none, fun _ => [], 0⟩
def var90 : Var := ⟨90, [(.byv (.int .i64))], [(.byv .bool)], fun _ => none, fun _ _ => false, fun _ _ => none, fun _ => [], 0⟩
def var91 : Var := ⟨91, [(.byv .str)], [(.byv .bool)], fun _ => none, fun _ _ => false, fun _ _ => none, fun _ => [], 0⟩
def var92 : Var := ⟨92, [(.byv .str)], [(.byv (.int .i64))], fun r => if r = 3 then some [(3, (.byv (.int .i64))), (11, (.byv (.sl (.int .u8)))), (12, (.byv (.int .i64))), (13, (.byv (.int .i64)))] else none, fun _ _ => false, fun _ _ => none, fun _ => [], 0⟩
def var93 : Var := ⟨93, [(.byv .str)], [(.byv .bool)], fun _ => none, fun _ _ => false, fun _ _ => none, fun _ => [], 0⟩
def var94 : Var := ⟨94, [(.byv (.int .i64)), (.byv .str)], [(.byv .bool)], fun _ => none, fun _ _ => false, fun _ _ => none, fun _ => [], 0⟩
def var95 : Var := ⟨95, [(.byv (.int .i64)), (.byv (.int .i64))], [(.byv (.int .i64))], fun _ => none, fun _ _ => false, fun _ _ => none, fun _ => [], 0⟩
def var99 : Var := ⟨99, [(.byv (.pair .bool (.sl (.int .u32)))), (.byv (.pair .bool (.sl (.int .u32))))], [(.byv (.pair .bool (.sl (.int .u32))))], fun r => if r = 3 then some [(2, (.box 65 [(.byv .bool), (.byv (.sl (.int .u32)))])), (3, (.box 65 [(.byv .bool), (.byv (.sl (.int .u32)))])), (4, (.box 65 [(.byv .bool), (.own 118 (.int .u32))])), (5, (.own 118 (.int .u32))), (20, (.byv (.sl (.int .u32)))), (21, (.byv (.int .i64))), (22, (.byv (.int .i64)))] else if r = 7 then some [(2, (.box 65 [(.byv .bool), (.byv (.sl (.int .u32)))])), (3, (.box 65 [(.byv .bool), (.byv (.sl (.int .u32)))])), (4, (.box 65 [(.byv .bool), (.own 118 (.int .u32))])), (5, (.own 118 (.int .u32))), (6, (.byv (.int .i64))), (7, (.byv (.int .u32))), (8, (.byv (.int .u64))), (20, (.byv (.sl (.int .u32)))), (21, (.byv (.int .i64))), (22, (.byv (.int .i64))), (28, (.byv (.sl (.int .u32)))), (29, (.byv (.int .i64))), (30, (.byv (.int .i64)))] else none, fun _ _ => false, fun _ _ => none, fun _ => [], 0⟩
def var110 : Var := ⟨110, [(.byv .bool), (.byv (.sl (.int .u32)))], [(.byv (.pair .bool (.sl (.int .u32))))], fun _ => none, fun _ _ => false, fun _ _ => none, fun _ => [], 0⟩
def var113 : Var := ⟨113, [(.byv (.sl (.int .u32)))], [(.byv (.sl (.int .u32)))], fun r => if r = 1 then some [(0, (.byv (.sl (.int .u32))))] else none, fun _ _ => false, fun _ _ => none, fun _ => [], 0⟩
def var115 : Var := ⟨115, [(.byv .str), (.byv .str)], [(.byv .str), (.byv .bool)], fun _ => none, fun _ _ => false, fun _ _ => none, fun _ => [], 0⟩
def var116 : Var := ⟨116, [(.byv .str), (.byv .str)], [(.byv .str), (.byv .str), (.byv .bool)], fun _ => none, fun _ _ => false, fun _ _ => none, fun _ => [], 0⟩
def var117 : Var := ⟨117, [(.byv .str), (.byv (.int .u8)), (.byv (.int .u8))], [(.byv .bool)], fun r => if r = 2 then some [(0, (.byv .str)), (1, (.byv (.int .u8))), (2, (.byv (.int .u8))), (9, (.byv (.int .i64))), (10, (.byv (.int .i64)))] else none, fun _ _ => false, fun _ _ => none, fun _ => [], 0⟩
def var118 : Var := ⟨118, [(.byv (.pair .bool (.sl (.int .u32)))), (.byv (.pair .bool (.sl (.int .u32))))], [(.byv (.pair .bool (.sl (.int .u32))))], fun _ => none, fun _ _ => false, fun _ _ => none, fun _ => [], 0⟩
def var119 : Var := ⟨119, [(.byv (.pair .bool (.sl (.int .u32))))], [(.byv (.pair .bool (.sl (.int .u32))))], fun _ => none, fun _ _ => false, fun _ _ => none, fun _ => [], 0⟩
def var120 : Var := ⟨120, [(.byv (.pair .bool (.sl (.int .u32)))), (.byv (.int .i64))], [(.byv (.pair (.int .i64) (.int .i64))), (.byv (.int .i64))], fun _ => none, fun _ _ => false, fun _ _ => none, fun _ => [], 0⟩
def var124 : Var := ⟨124, [(.byv (.sl (.int .u32))), (.byv (.sl (.int .u32)))], [(.own 118 (.int .u32))], fun r => if r = 3 then some [(0, (.byv (.sl (.int .u32)))), (1, (.byv (.sl (.int .u32))))] else if r = 6 then some [(1, (.byv (.sl (.int .u32)))), (5, (.own 118 (.int .u32))), (6, (.byv (.int .u64))), (20, (.byv (.sl (.int .u32)))), (21, (.byv (.int .i64))), (22, (.byv (.int .i64)))] else none, fun _ _ => false, fun _ _ => none, fun _ => [], 0⟩
def var125 : Var := ⟨125, [(.byv (.sl (.int .u32))), (.byv (.sl (.int .u32)))], [(.byv (.int .i64))], fun r => if r = 4 then some [(0, (.byv (.sl (.int .u32)))), (1, (.byv (.sl (.int .u32)))), (5, (.byv (.int .i64)))] else none, fun _ _ => false, fun _ _ => none, fun _ => [], 0⟩
def var126 : Var := ⟨126, [(.byv (.sl (.int .u32))), (.byv (.sl (.int .u32)))], [(.byv (.sl (.int .u32)))], fun r => if r = 4 then some [(1, (.byv (.sl (.int .u32)))), (5, (.own 118 (.int .u32))), (6, (.byv (.int .u64))), (13, (.byv (.sl (.int .u32)))), (14, (.byv (.int .i64))), (15, (.byv (.int .i64)))] else none, fun _ _ => false, fun _ _ => none, fun _ => [], 0⟩
def var141 : Var := ⟨141, [(.byv .str), (.byv (.int .u8))], [(.byv (.int .i64))], fun _ => none, fun _ _ => false, fun _ _ => none, fun _ => [], 0⟩
def var144 : Var := ⟨144, [(.byv .str)], [(.byv .bool)], fun _ => none, fun _ _ => false, fun _ _ => none, fun _ => [], 0⟩
def var145 : Var := ⟨145, [(.byv .str)], [(.byv .bool)], fun _ => none, fun _ _ => false, fun _ _ => none, fun _ => [], 0⟩
def var146 : Var := ⟨146, [(.byv .str)], [(.byv .bool)], fun _ => none, fun _ _ => false, fun _ _ => none, fun _ => [], 0⟩
def var147 : Var := ⟨147, [(.byv (.sl (.int .i64))), (.byv (.int .i64))], [(.byv .bool)], fun _ => none, fun _ _ => false, fun _ _ => none, fun _ => [], 0⟩
def var148 : Var := ⟨148, [(.byv (.int .i64))], [(.own 3 (.int .i64))], fun _ => none, fun _ _ => false, fun _ _ => none, fun _ => [], 0⟩
def var149 : Var := ⟨149, [(.byv .str)], [(.byv .bool)], fun r => if r = 3 then some [(0, (.byv .str)), (3, (.byv (.int .i64))), (7, (.byv (.int .i64))), (8, (.byv (.int .i64)))] else none, fun _ _ => false, fun _ _ => none, fun _ => [], 0⟩
def var155 : Var := ⟨155, [(.byv .str), (.byv .str)], [(.byv .bool)], fun _ => none, fun _ _ => false, fun _ _ => none, fun _ => [], 0⟩
def var156 : Var := ⟨156, [(.byv .str), (.byv .str)], [(.byv (.int .i64))], fun _ => none, fun _ _ => false, fun _ _ => none, fun _ => [], 0⟩
def var169 : Var := ⟨169, [(.byv .str)], [(.byv (.int .u8))], fun r => if r = 3 then some [(0, (.byv .str)), (3, (.byv (.int .i64))), (7, (.byv (.int .i64))), (8, (.byv (.int .i64)))] else none, fun _ _ => false, fun _ _ => none, fun _ => [], 0⟩
def var170 : Var := ⟨170, [(.byv (.sl (.int .i64))), (.byv (.int .i64))], [(.byv (.int .i64))], fun r => if r = 2 then some [(0, (.byv (.sl (.int .i64)))), (1, (.byv (.int .i64))), (7, (.byv (.int .i64))), (8, (.byv (.int .i64)))] else none, fun _ _ => false, fun _ _ => none, fun _ => [], 0⟩
def varT (u : Nat) : Var := cond (Nat.blt u 94) (cond (Nat.blt u 63) (cond (Nat.blt u 36) (cond (Nat.blt u 33) (cond (Nat.blt u 11) (var8) (cond (Nat.blt u 21) (var11) (var21))) (cond (Nat.blt u 34) (var33) (cond (Nat.blt u 35) (var34) (var35)))) (cond (Nat.blt u 55) (cond (Nat.blt u 37) (var36) (cond (Nat.blt u 41) (var37) (var41))) (cond (Nat.blt u 57) (var55) (cond (Nat.blt u 59) (var57) (var59))))) (cond (Nat.blt u 78) (cond (Nat.blt u 69) (cond (Nat.blt u 67) (var63) (cond (Nat.blt u 68) (var67) (var68))) (cond (Nat.blt u 70) (var69) (cond (Nat.blt u 71) (var70) (var71)))) (cond (Nat.blt u 90) (cond (Nat.blt u 79) (var78) (cond (Nat.blt u 83) (var79) (var83))) (cond (Nat.blt u 92) (cond (Nat.blt u 91) (var90) (var91)) (cond (Nat.blt u 93) (var92) (var93)))))) (cond (Nat.blt u 125) (cond (Nat.blt u 116) (cond (Nat.blt u 110) (cond (Nat.blt u 95) (var94) (cond (Nat.blt u 99) (var95) (var99))) (cond (Nat.blt u 113) (var110) (cond (Nat.blt u 115) (var113) (var115)))) (cond (Nat.blt u 119) (cond (Nat.blt u 117) (var116) (cond (Nat.blt u 118) (var117) (var118))) (cond (Nat.blt u 120) (var119) (cond (Nat.blt u 124) (var120) (var124))))) (cond (Nat.blt u 147) (cond (Nat.blt u 144) (cond (Nat.blt u 126) (var125) (cond (Nat.blt u 141) (var126) (var141))) (cond (Nat.blt u 145) (var144) (cond (Nat.blt u 146) (var145) (var146)))) (cond (Nat.blt u 155) (cond (Nat.blt u 148) (var147) (cond (Nat.blt u 149) (var148) (var149))) (cond (Nat.blt u 169) (cond (Nat.blt u 156) (var155) (var156)) (cond (Nat.blt u 170) (var169) (var170))))))
def gf57 : Int → Option ByteArray := fun (a) => cond (decide (-9223372036854775808 ≤ a) && decide (a ≤ 9223372036854775807)) (some ⟨(Lib.itoa a).toArray⟩) none
def g57 : var57.PT → Option var57.RT := gf57
def gf79 : (ByteArray × Int) → Option ByteArray := fun (a, b) => cond (decide (0 ≤ b) && decide (b ≤ 9223372036854775807) && decide (a.size * b.toNat ≤ 140737488355328)) (some ⟨(Lib.repeatL a.data.toList b.toNat).toArray⟩) none
def g79 : var79.PT → Option var79.RT := gf79
def gf83 : (ByteArray × ByteArray) → Option ByteArray := fun (a, b) => cond (decide (a.size ≤ 9223372036854775807) && decide (b.size < 4294967281) && b.data.toList.all fun x => decide (x.toNat < 128)) (some ⟨(Lib.trimS a.data.toList b.data.toList).toArray⟩) none
def g83 : var83.PT → Option var83.RT := gf83
def gf141 : (ByteArray × Int) → Option Int := fun (a, b) => some (Lib.indexByte a.data.toList b.toNat.toUInt8)
def g141 : var141.PT → Option var141.RT := gf141
def gvT (u : Nat) : Option ((varT u).PT → Option (varT u).RT) := if h : u = 141 then some (h ▸ g141) else if h : u = 83 then some (h ▸ g83) else if h : u = 79 then some (h ▸ g79) else if h : u = 57 then some (h ▸ g57) else none
def prT (f : FuncId) : Option Prim := none
def A : An := ⟨varT, fun f => f, gvT, prT⟩
noncomputable abbrev P : Program := Tryd.prog
/-- interchange/kit.Outside -/
noncomputable def kit_Outside (k : Nat) (a : Int) (b : Int) (c : Int) : Option Bool := callA P A k 59 (a, b, c)
theorem kit_Outside_eq (k : Nat) (a : Int) (b : Int) (c : Int) : kit_Outside (k + 1) a b c =
  some (cond (decide (a < b)) true (decide (a > c))) := by kernel_rfl
/-- interchange/amount.isKind -/
noncomputable def amount_isKind (k : Nat) (a : Int) : Option Bool := callA P A k 90 a
theorem amount_isKind_eq (k : Nat) (a : Int) : amount_isKind (k + 1) a =
  (kit_Outside k a 1 5).bind fun y0 =>
  some (!y0) := by kernel_rfl
/-- strings.Trim -/
noncomputable def strings_Trim (k : Nat) (a : ByteArray) (b : ByteArray) : Option ByteArray := callA P A k 83 (a, b)
theorem strings_Trim_eq (k : Nat) (a : ByteArray) (b : ByteArray) : strings_Trim k a b = cond (decide (a.size ≤ 9223372036854775807) && decide (b.size < 4294967281) && b.data.toList.all fun x => decide (x.toNat < 128)) (some ⟨(Lib.trimS a.data.toList b.data.toList).toArray⟩) none := by kernel_rfl
/-- interchange/kit.IsTagPart -/
noncomputable def kit_IsTagPart (k : Nat) (a : ByteArray) : Option Bool := callA P A k 144 a
theorem kit_IsTagPart_eq (k : Nat) (a : ByteArray) : kit_IsTagPart (k + 1) a =
  (strings_Trim k a (bs [65, 66, 67, 68, 69, 70, 71, 72, 73, 74, 75, 76, 77, 78, 79, 80, 81, 82, 83, 84, 85, 86, 87, 88, 89, 90, 48, 49, 50, 51, 52, 53, 54, 55, 56, 57])).bind fun y0 =>
  some (eqS y0 (bs [])) := by kernel_rfl
/-- interchange/amount.isBody -/
noncomputable def amount_isBody (k : Nat) (a : ByteArray) : Option Bool := callA P A k 91 a
theorem amount_isBody_eq (k : Nat) (a : ByteArray) : amount_isBody (k + 1) a =
  (kit_IsTagPart k a).bind fun y0 =>
  some y0 := by kernel_rfl
/-- interchange/amount.bankRestOf -/
noncomputable def amount_bankRestOf (k : Nat) (a : ByteArray) : Option Int := callA P A k 92 a
noncomputable def amount_bankRestOf_c3 (k : Nat) (s3 : Int) (s11 : List Int) (s12 : Int) (s13 : Int) : Option Int := cutA P A k 92 (todoAt P A 92 3) [(3, (.byv (.int .i64))), (11, (.byv (.sl (.int .u8)))), (12, (.byv (.int .i64))), (13, (.byv (.int .i64)))] (s3, s11, s12, s13)
theorem amount_bankRestOf_eq (k : Nat) (a : ByteArray) : amount_bankRestOf (k + 1) a =
  cond (decide (4 ≤ (a.size : Int))) (
  cond (decide (4 ≤ (a.size : Int))) (
  cond (decide ((a.extract 4 a.size).size + (a.extract 0 4).size ≤ 9223372036854775807)) (
  amount_bankRestOf_c3 k 0 (byts ((a.extract 4 a.size) ++ (a.extract 0 4))) ((byts ((a.extract 4 a.size) ++ (a.extract 0 4))).length : Int) 0) none) none) none := by kernel_rfl
theorem amount_bankRestOf_c3_eq (k : Nat) (s3 : Int) (s11 : List Int) (s12 : Int) (s13 : Int) : amount_bankRestOf_c3 (k + 1) s3 s11 s12 s13 =
  cond (decide (s13 < s12)) (
    cond (decide (0 ≤ s13)) (
    cond (decide (s13 < (s11.length : Int))) (
    cond (decide ((s11.getD s13.toNat 0) ≥ 65)) (
      amount_bankRestOf_c3 k ((wi64 ((wi64 ((wi64 ((wi64 (s3 * 10)) * 10)) + (wi64 (wu8 ((s11.getD s13.toNat 0) - 65))))) + 10)).tmod 97) s11 s12 (wi64 (s13 + 1))) (
      amount_bankRestOf_c3 k ((wi64 ((wi64 (s3 * 10)) + (wi64 (wu8 ((s11.getD s13.toNat 0) - 48))))).tmod 97) s11 s12 (wi64 (s13 + 1)))) none) none) (
    some s3) := by kernel_rfl
/-- strconv.Itoa -/
noncomputable def strconv_Itoa (k : Nat) (a : Int) : Option ByteArray := callA P A k 57 a
theorem strconv_Itoa_eq (k : Nat) (a : Int) : strconv_Itoa k a = cond (decide (-9223372036854775808 ≤ a) && decide (a ≤ 9223372036854775807)) (some ⟨(Lib.itoa a).toArray⟩) none := by kernel_rfl
/-- strings.Repeat -/
noncomputable def strings_Repeat (k : Nat) (a : ByteArray) (b : Int) : Option ByteArray := callA P A k 79 (a, b)
theorem strings_Repeat_eq (k : Nat) (a : ByteArray) (b : Int) : strings_Repeat k a b = cond (decide (0 ≤ b) && decide (b ≤ 9223372036854775807) && decide (a.size * b.toNat ≤ 140737488355328)) (some ⟨(Lib.repeatL a.data.toList b.toNat).toArray⟩) none := by kernel_rfl
/-- interchange/amount.padded -/
noncomputable def amount_padded (k : Nat) (a : Int) (b : Int) : Option ByteArray := callA P A k 55 (a, b)
theorem amount_padded_eq (k : Nat) (a : Int) (b : Int) : amount_padded (k + 1) a b =
  (strconv_Itoa k a).bind fun y0 =>
  (strings_Repeat k (bs [48]) (wi64 (b - (y0.size : Int)))).bind fun y1 =>
  cond (decide (y1.size + y0.size ≤ 9223372036854775807)) (
  some (y1 ++ y0)) none := by kernel_rfl
/-- interchange/kit.InBytes -/
noncomputable def kit_InBytes (k : Nat) (a : ByteArray) (b : Int) (c : Int) : Option Bool := callA P A k 117 (a, b, c)
noncomputable def kit_InBytes_c2 (k : Nat) (s0 : ByteArray) (s1 : Int) (s2 : Int) (s9 : Int) (s10 : Int) : Option Bool := cutA P A k 117 (todoAt P A 117 2) [(0, (.byv .str)), (1, (.byv (.int .u8))), (2, (.byv (.int .u8))), (9, (.byv (.int .i64))), (10, (.byv (.int .i64)))] (s0, s1, s2, s9, s10)
theorem kit_InBytes_eq (k : Nat) (a : ByteArray) (b : Int) (c : Int) : kit_InBytes (k + 1) a b c =
  kit_InBytes_c2 k a b c (a.size : Int) 0 := by kernel_rfl
theorem kit_InBytes_c2_eq (k : Nat) (s0 : ByteArray) (s1 : Int) (s2 : Int) (s9 : Int) (s10 : Int) : kit_InBytes_c2 (k + 1) s0 s1 s2 s9 s10 =
  cond (decide (s10 < s9)) (
    cond (decide (0 ≤ s10)) (
    cond (decide (s10 < (s0.size : Int))) (
    cond ((!(!(decide ((bt s0 s10) < s1)))) || (decide (0 ≤ s10))) (
    cond ((!(!(decide ((bt s0 s10) < s1)))) || (decide (s10 < (s0.size : Int)))) (
    cond (cond (decide ((bt s0 s10) < s1)) true (decide ((bt s0 s10) > s2))) (
      some false) (
      kit_InBytes_c2 k s0 s1 s2 s9 (wi64 (s10 + 1)))) none) none) none) none) (
    some true) := by kernel_rfl
/-- interchange/amount.isLetters -/
noncomputable def amount_isLetters (k : Nat) (a : ByteArray) : Option Bool := callA P A k 145 a
theorem amount_isLetters_eq (k : Nat) (a : ByteArray) : amount_isLetters (k + 1) a =
  (kit_InBytes k a 65 90).bind fun y0 =>
  some y0 := by kernel_rfl
/-- interchange/kit.IsDigits -/
noncomputable def kit_IsDigits (k : Nat) (a : ByteArray) : Option Bool := callA P A k 70 a
theorem kit_IsDigits_eq (k : Nat) (a : ByteArray) : kit_IsDigits (k + 1) a =
  (cond (!(eqS a (bs []))) (kit_InBytes k a 48 57) (some false)).bind fun y0 =>
  some (cond (!(eqS a (bs []))) y0 false) := by kernel_rfl
/-- interchange/amount.isBank -/
noncomputable def amount_isBank (k : Nat) (a : ByteArray) : Option Bool := callA P A k 93 a
theorem amount_isBank_eq (k : Nat) (a : ByteArray) : amount_isBank (k + 1) a =
  cond ((!(!(cond (decide ((a.size : Int) < 15)) true (decide ((a.size : Int) > 34))))) || true) (
  cond ((!(!(cond (decide ((a.size : Int) < 15)) true (decide ((a.size : Int) > 34))))) || (decide (2 ≤ (a.size : Int)))) (
  (cond (!(cond (decide ((a.size : Int) < 15)) true (decide ((a.size : Int) > 34)))) (amount_isLetters k (a.extract 0 2)) (some false)).bind fun y0 =>
  cond ((!(!(cond (cond (decide ((a.size : Int) < 15)) true (decide ((a.size : Int) > 34))) true (!y0)))) || true) (
  cond ((!(!(cond (cond (decide ((a.size : Int) < 15)) true (decide ((a.size : Int) > 34))) true (!y0)))) || true) (
  cond ((!(!(cond (cond (decide ((a.size : Int) < 15)) true (decide ((a.size : Int) > 34))) true (!y0)))) || (decide (4 ≤ (a.size : Int)))) (
  (cond (!(cond (cond (decide ((a.size : Int) < 15)) true (decide ((a.size : Int) > 34))) true (!y0))) (kit_IsDigits k (a.extract 2 4)) (some false)).bind fun y1 =>
  cond ((!(!(cond (cond (cond (decide ((a.size : Int) < 15)) true (decide ((a.size : Int) > 34))) true (!y0)) true (!y1)))) || true) (
  cond ((!(!(cond (cond (cond (decide ((a.size : Int) < 15)) true (decide ((a.size : Int) > 34))) true (!y0)) true (!y1)))) || (decide (4 ≤ (a.size : Int)))) (
  (cond (!(cond (cond (cond (decide ((a.size : Int) < 15)) true (decide ((a.size : Int) > 34))) true (!y0)) true (!y1))) (amount_isBody k (a.extract 4 a.size)) (some false)).bind fun y2 =>
  cond (cond (cond (cond (cond (decide ((a.size : Int) < 15)) true (decide ((a.size : Int) > 34))) true (!y0)) true (!y1)) true (!y2)) (
    some false) (
    (amount_bankRestOf k a).bind fun y3 =>
    cond ((!(y3 == 1)) || true) (
    cond ((!(y3 == 1)) || true) (
    cond ((!(y3 == 1)) || (decide (4 ≤ (a.size : Int)))) (
    cond ((!(cond (y3 == 1) (!(ltS (a.extract 2 4) (bs [48, 50]))) false)) || true) (
    cond ((!(cond (y3 == 1) (!(ltS (a.extract 2 4) (bs [48, 50]))) false)) || true) (
    cond ((!(cond (y3 == 1) (!(ltS (a.extract 2 4) (bs [48, 50]))) false)) || (decide (4 ≤ (a.size : Int)))) (
    some (cond (cond (y3 == 1) (!(ltS (a.extract 2 4) (bs [48, 50]))) false) (ltS (a.extract 2 4) (bs [57, 56]) || eqS (a.extract 2 4) (bs [57, 56])) false)) none) none) none) none) none) none)) none) none) none) none) none) none) none := by kernel_rfl
/-- interchange/amount.taxDigit -/
noncomputable def amount_taxDigit (k : Nat) (a : ByteArray) : Option Int := callA P A k 169 a
noncomputable def amount_taxDigit_c3 (k : Nat) (s0 : ByteArray) (s3 : Int) (s7 : Int) (s8 : Int) : Option Int := cutA P A k 169 (todoAt P A 169 3) [(0, (.byv .str)), (3, (.byv (.int .i64))), (7, (.byv (.int .i64))), (8, (.byv (.int .i64)))] (s0, s3, s7, s8)
theorem amount_taxDigit_eq (k : Nat) (a : ByteArray) : amount_taxDigit (k + 1) a =
  amount_taxDigit_c3 k a 10 (a.size : Int) 0 := by kernel_rfl
theorem amount_taxDigit_c3_eq (k : Nat) (s0 : ByteArray) (s3 : Int) (s7 : Int) (s8 : Int) : amount_taxDigit_c3 (k + 1) s0 s3 s7 s8 =
  cond (decide (s8 < s7)) (
    cond (decide (0 ≤ s8)) (
    cond (decide (s8 < (s0.size : Int))) (
    cond (((wi64 ((wi64 (wu8 ((bt s0 s8) - 48))) + s3)).tmod 10) == 0) (
      amount_taxDigit_c3 k s0 9 s7 (wi64 (s8 + 1))) (
      amount_taxDigit_c3 k s0 ((wi64 (2 * ((wi64 ((wi64 (wu8 ((bt s0 s8) - 48))) + s3)).tmod 10))).tmod 11) s7 (wi64 (s8 + 1)))) none) none) (
    some (wu8 (48 + (wu8 ((wi64 (11 - s3)).tmod 10))))) := by kernel_rfl
/-- interchange/amount.isTax -/
noncomputable def amount_isTax (k : Nat) (a : ByteArray) : Option Bool := callA P A k 146 a
theorem amount_isTax_eq (k : Nat) (a : ByteArray) : amount_isTax (k + 1) a =
  (cond ((a.size : Int) == 11) (kit_IsDigits k a) (some false)).bind fun y0 =>
  cond ((!(cond ((a.size : Int) == 11) y0 false)) || true) (
  cond ((!(cond ((a.size : Int) == 11) y0 false)) || (decide (0 < (a.size : Int)))) (
  cond ((!(cond (cond ((a.size : Int) == 11) y0 false) ((bt a 0) != 48) false)) || true) (
  cond ((!(cond (cond ((a.size : Int) == 11) y0 false) ((bt a 0) != 48) false)) || (decide (10 ≤ (a.size : Int)))) (
  (cond (cond (cond ((a.size : Int) == 11) y0 false) ((bt a 0) != 48) false) (amount_taxDigit k (a.extract 0 10)) (some 0)).bind fun y1 =>
  cond ((!(cond (cond ((a.size : Int) == 11) y0 false) ((bt a 0) != 48) false)) || true) (
  cond ((!(cond (cond ((a.size : Int) == 11) y0 false) ((bt a 0) != 48) false)) || (decide (10 < (a.size : Int)))) (
  some (cond (cond (cond ((a.size : Int) == 11) y0 false) ((bt a 0) != 48) false) (y1 == (bt a 10)) false)) none) none) none) none) none) none := by kernel_rfl
/-- interchange/amount.lengths -/
noncomputable def amount_lengths (k : Nat) (a : Int) : Option (List Int) := callA P A k 148 a
theorem amount_lengths_eq (k : Nat) (a : Int) : amount_lengths (k + 1) a =
  cond (a == 1) (
    some ([8, 12, 13, 14])) (
    cond (a == 2) (
      some ([13])) (
      some ([18]))) := by kernel_rfl
/-- slices.Index[[]int,int] -/
noncomputable def slices_Index_Lint_int (k : Nat) (a : List Int) (b : Int) : Option Int := callA P A k 170 (a, b)
noncomputable def slices_Index_Lint_int_c2 (k : Nat) (s0 : List Int) (s1 : Int) (s7 : Int) (s8 : Int) : Option Int := cutA P A k 170 (todoAt P A 170 2) [(0, (.byv (.sl (.int .i64)))), (1, (.byv (.int .i64))), (7, (.byv (.int .i64))), (8, (.byv (.int .i64)))] (s0, s1, s7, s8)
theorem slices_Index_Lint_int_eq (k : Nat) (a : List Int) (b : Int) : slices_Index_Lint_int (k + 1) a b =
  slices_Index_Lint_int_c2 k a b (a.length : Int) 0 := by kernel_rfl
theorem slices_Index_Lint_int_c2_eq (k : Nat) (s0 : List Int) (s1 : Int) (s7 : Int) (s8 : Int) : slices_Index_Lint_int_c2 (k + 1) s0 s1 s7 s8 =
  cond (decide (s8 < s7)) (
    cond (decide (0 ≤ s8)) (
    cond (decide (s8 < (s0.length : Int))) (
    cond (s1 == (s0.getD s8.toNat 0)) (
      some s8) (
      slices_Index_Lint_int_c2 k s0 s1 s7 (wi64 (s8 + 1)))) none) none) (
    some (-1)) := by kernel_rfl
/-- slices.Contains[[]int,int] -/
noncomputable def slices_Contains_Lint_int (k : Nat) (a : List Int) (b : Int) : Option Bool := callA P A k 147 (a, b)
theorem slices_Contains_Lint_int_eq (k : Nat) (a : List Int) (b : Int) : slices_Contains_Lint_int (k + 1) a b =
  (slices_Index_Lint_int k a b).bind fun y0 =>
  some (decide (y0 ≥ 0)) := by kernel_rfl
/-- interchange/amount.isSum -/
noncomputable def amount_isSum (k : Nat) (a : ByteArray) : Option Bool := callA P A k 149 a
noncomputable def amount_isSum_c3 (k : Nat) (s0 : ByteArray) (s3 : Int) (s7 : Int) (s8 : Int) : Option Bool := cutA P A k 149 (todoAt P A 149 3) [(0, (.byv .str)), (3, (.byv (.int .i64))), (7, (.byv (.int .i64))), (8, (.byv (.int .i64)))] (s0, s3, s7, s8)
theorem amount_isSum_eq (k : Nat) (a : ByteArray) : amount_isSum (k + 1) a =
  amount_isSum_c3 k a 0 (a.size : Int) 0 := by kernel_rfl
theorem amount_isSum_c3_eq (k : Nat) (s0 : ByteArray) (s3 : Int) (s7 : Int) (s8 : Int) : amount_isSum_c3 (k + 1) s0 s3 s7 s8 =
  cond (decide (s8 < s7)) (
    cond (decide (0 ≤ (wi64 ((wi64 ((s0.size : Int) - 1)) - s8)))) (
    cond (decide ((wi64 ((wi64 ((s0.size : Int) - 1)) - s8)) < (s0.size : Int))) (
    cond ((s8.tmod 2) == 1) (
      amount_isSum_c3 k s0 (wi64 (s3 + (wi64 ((wi64 (wu8 ((bt s0 (wi64 ((wi64 ((s0.size : Int) - 1)) - s8))) - 48))) * 3)))) s7 (wi64 (s8 + 1))) (
      amount_isSum_c3 k s0 (wi64 (s3 + (wi64 (wu8 ((bt s0 (wi64 ((wi64 ((s0.size : Int) - 1)) - s8))) - 48))))) s7 (wi64 (s8 + 1)))) none) none) (
    some ((s3.tmod 10) == 0)) := by kernel_rfl
/-- interchange/amount.isNumber -/
noncomputable def amount_isNumber (k : Nat) (a : Int) (b : ByteArray) : Option Bool := callA P A k 94 (a, b)
theorem amount_isNumber_eq (k : Nat) (a : Int) (b : ByteArray) : amount_isNumber (k + 1) a b =
  cond (a == 4) (
    (amount_isBank k b).bind fun y0 =>
    some y0) (
    cond (a == 5) (
      (amount_isTax k b).bind fun y1 =>
      some y1) (
      (amount_lengths k a).bind fun y2 =>
      (slices_Contains_Lint_int k y2 (b.size : Int)).bind fun y3 =>
      (cond y3 (kit_IsDigits k b) (some false)).bind fun y4 =>
      (cond (cond y3 y4 false) (amount_isSum k b) (some false)).bind fun y5 =>
      some (cond (cond y3 y4 false) y5 false))) := by kernel_rfl
/-- interchange/amount.Completed -/
noncomputable def amount_Completed (k : Nat) (a : Int) (b : ByteArray) : Option (ByteArray × Int) := callA P A k 33 (a, b)
noncomputable def amount_Completed_c16 (k : Nat) (s0 : Int) (s1 : ByteArray) (s49 : Int) : Option (ByteArray × Int) := cutA P A k 33 (todoAt P A 33 16) [(0, (.byv (.int .i64))), (1, (.byv .str)), (49, (.byv (.int .i64)))] (s0, s1, s49)
theorem amount_Completed_eq (k : Nat) (a : Int) (b : ByteArray) : amount_Completed (k + 1) a b =
  (amount_isKind k a).bind fun y0 =>
  cond (!y0) (
    some ((bs []), 4)) (
    cond (decide ((b.size : Int) > 34)) (
      some ((bs []), 3)) (
      cond (a == 4) (
        (cond (!(decide ((b.size : Int) < 2))) (amount_isBody k b) (some false)).bind fun y1 =>
        cond (cond (decide ((b.size : Int) < 2)) true (!y1)) (
          some ((bs []), 3)) (
          cond (decide ((b.size : Int) < 13)) (
            some ((bs []), 3)) (
            cond (decide (2 ≤ (b.size : Int))) (
            cond (decide ((b.extract 0 2).size + 2 ≤ 9223372036854775807)) (
            cond (decide (2 ≤ (b.size : Int))) (
            cond (decide (((b.extract 0 2) ++ (bs [48, 48])).size + (b.extract 2 b.size).size ≤ 9223372036854775807)) (
            (amount_bankRestOf k (((b.extract 0 2) ++ (bs [48, 48])) ++ (b.extract 2 b.size))).bind fun y2 =>
            cond (decide (2 ≤ (b.size : Int))) (
            (amount_padded k (wi64 (98 - y2)) 2).bind fun y3 =>
            cond (decide ((b.extract 0 2).size + y3.size ≤ 9223372036854775807)) (
            cond (decide (2 ≤ (b.size : Int))) (
            cond (decide (((b.extract 0 2) ++ y3).size + (b.extract 2 b.size).size ≤ 9223372036854775807)) (
            (amount_isBank k (((b.extract 0 2) ++ y3) ++ (b.extract 2 b.size))).bind fun y4 =>
            cond (!y4) (
              some ((bs []), 3)) (
              some ((((b.extract 0 2) ++ y3) ++ (b.extract 2 b.size)), 0))) none) none) none) none) none) none) none) none))) (
        amount_Completed_c16 k a b 0))) := by kernel_rfl
theorem amount_Completed_c16_eq (k : Nat) (s0 : Int) (s1 : ByteArray) (s49 : Int) : amount_Completed_c16 (k + 1) s0 s1 s49 =
  cond (decide (s49 < 10)) (
    (strconv_Itoa k s49).bind fun y5 =>
    cond (decide (s1.size + y5.size ≤ 9223372036854775807)) (
    (amount_isNumber k s0 (s1 ++ y5)).bind fun y6 =>
    cond y6 (
      some ((s1 ++ y5), 0)) (
      amount_Completed_c16 k s0 s1 (wi64 (s49 + 1)))) none) (
    some ((bs []), 3)) := by kernel_rfl
/-- internal/stringslite.HasPrefix -/
noncomputable def stringslite_HasPrefix (k : Nat) (a : ByteArray) (b : ByteArray) : Option Bool := callA P A k 155 (a, b)
theorem stringslite_HasPrefix_eq (k : Nat) (a : ByteArray) (b : ByteArray) : stringslite_HasPrefix (k + 1) a b =
  cond ((!(decide ((a.size : Int) ≥ (b.size : Int)))) || (decide (0 ≤ (b.size : Int)))) (
  cond ((!(decide ((a.size : Int) ≥ (b.size : Int)))) || (decide ((b.size : Int) ≤ (a.size : Int)))) (
  some (cond (decide ((a.size : Int) ≥ (b.size : Int))) (eqS (a.extract 0 (b.size : Int).toNat) b) false)) none) none := by kernel_rfl
/-- internal/stringslite.CutPrefix -/
noncomputable def stringslite_CutPrefix (k : Nat) (a : ByteArray) (b : ByteArray) : Option (ByteArray × Bool) := callA P A k 115 (a, b)
theorem stringslite_CutPrefix_eq (k : Nat) (a : ByteArray) (b : ByteArray) : stringslite_CutPrefix (k + 1) a b =
  (stringslite_HasPrefix k a b).bind fun y0 =>
  cond (!y0) (
    some (a, false)) (
    cond (decide (0 ≤ (b.size : Int))) (
    cond (decide ((b.size : Int) ≤ (a.size : Int))) (
    some ((a.extract (b.size : Int).toNat a.size), true)) none) none) := by kernel_rfl
/-- strings.CutPrefix -/
noncomputable def strings_CutPrefix (k : Nat) (a : ByteArray) (b : ByteArray) : Option (ByteArray × Bool) := callA P A k 67 (a, b)
theorem strings_CutPrefix_eq (k : Nat) (a : ByteArray) (b : ByteArray) : strings_CutPrefix (k + 1) a b =
  (stringslite_CutPrefix k a b).bind fun y0 =>
  some y0 := by kernel_rfl
/-- internal/stringslite.IndexByte -/
noncomputable def stringslite_IndexByte (k : Nat) (a : ByteArray) (b : Int) : Option Int := callA P A k 141 (a, b)
theorem stringslite_IndexByte_eq (k : Nat) (a : ByteArray) (b : Int) : stringslite_IndexByte k a b = some (Lib.indexByte a.data.toList b.toNat.toUInt8) := by kernel_rfl
/-- internal/stringslite.Index -/
noncomputable def stringslite_Index (k : Nat) (a : ByteArray) (b : ByteArray) : Option Int := callA P A k 156 (a, b)
theorem stringslite_Index_eq (k : Nat) (a : ByteArray) (b : ByteArray) : stringslite_Index (k + 1) a b =
  cond (cond ((b.size : Int) == 0) true (eqS b a)) (
    some 0) (
    cond ((b.size : Int) == 1) (
      cond (decide (0 < (b.size : Int))) (
      (stringslite_IndexByte k a (bt b 0)).bind fun y0 =>
      some y0) none) (
      cond (decide ((b.size : Int) ≥ (a.size : Int))) (
        some (-1)) (
        none))) := by kernel_rfl
/-- internal/stringslite.Cut -/
noncomputable def stringslite_Cut (k : Nat) (a : ByteArray) (b : ByteArray) : Option (ByteArray × ByteArray × Bool) := callA P A k 116 (a, b)
theorem stringslite_Cut_eq (k : Nat) (a : ByteArray) (b : ByteArray) : stringslite_Cut (k + 1) a b =
  (stringslite_Index k a b).bind fun y0 =>
  cond (decide (y0 ≥ 0)) (
    cond (decide (0 ≤ y0)) (
    cond (decide (y0 ≤ (a.size : Int))) (
    cond (decide (0 ≤ (wi64 (y0 + (b.size : Int))))) (
    cond (decide ((wi64 (y0 + (b.size : Int))) ≤ (a.size : Int))) (
    some ((a.extract 0 y0.toNat), ((a.extract (wi64 (y0 + (b.size : Int))).toNat a.size), true))) none) none) none) none) (
    some (a, ((bs []), false))) := by kernel_rfl
/-- strings.Cut -/
noncomputable def strings_Cut (k : Nat) (a : ByteArray) (b : ByteArray) : Option (ByteArray × ByteArray × Bool) := callA P A k 68 (a, b)
theorem strings_Cut_eq (k : Nat) (a : ByteArray) (b : ByteArray) : strings_Cut (k + 1) a b =
  (stringslite_Cut k a b).bind fun y0 =>
  some y0 := by kernel_rfl
/-- interchange/amount.isWhole -/
noncomputable def amount_isWhole (k : Nat) (a : ByteArray) : Option Bool := callA P A k 69 a
theorem amount_isWhole_eq (k : Nat) (a : ByteArray) : amount_isWhole (k + 1) a =
  (kit_IsDigits k a).bind fun y0 =>
  cond ((!(y0 && (!((a.size : Int) == 1)))) || true) (
  cond ((!(y0 && (!((a.size : Int) == 1)))) || (decide (0 < (a.size : Int)))) (
  some (cond y0 (cond ((a.size : Int) == 1) true ((bt a 0) != 48)) false)) none) none := by kernel_rfl
/-- interchange/whole.trimmed -/
noncomputable def whole_trimmed (k : Nat) (a : List Int) : Option (List Int) := callA P A k 113 a
noncomputable def whole_trimmed_c1 (k : Nat) (s0 : List Int) : Option (List Int) := cutA P A k 113 (todoAt P A 113 1) [(0, (.byv (.sl (.int .u32))))] s0
theorem whole_trimmed_eq (k : Nat) (a : List Int) : whole_trimmed (k + 1) a =
  whole_trimmed_c1 k a := by kernel_rfl
theorem whole_trimmed_c1_eq (k : Nat) (s0 : List Int) : whole_trimmed_c1 (k + 1) s0 =
  cond ((!(decide ((s0.length : Int) > 0))) || (decide (0 ≤ (wi64 ((s0.length : Int) - 1))))) (
  cond ((!(decide ((s0.length : Int) > 0))) || (decide ((wi64 ((s0.length : Int) - 1)) < (s0.length : Int)))) (
  cond (cond (decide ((s0.length : Int) > 0)) ((s0.getD (wi64 ((s0.length : Int) - 1)).toNat 0) == 0) false) (
    cond (decide (0 ≤ (wi64 ((s0.length : Int) - 1)))) (
    cond (decide ((wi64 ((s0.length : Int) - 1)) ≤ (s0.length : Int))) (
    whole_trimmed_c1 k (s0.take (wi64 ((s0.length : Int) - 1)).toNat)) none) none) (
    some s0)) none) none := by kernel_rfl
/-- interchange/whole.made -/
noncomputable def whole_made (k : Nat) (a : Bool) (b : List Int) : Option (Bool × List Int) := callA P A k 110 (a, b)
theorem whole_made_eq (k : Nat) (a : Bool) (b : List Int) : whole_made (k + 1) a b =
  (whole_trimmed k b).bind fun y0 =>
  some ((cond a (decide ((y0.length : Int) > 0)) false), y0) := by kernel_rfl
/-- interchange/whole.Of -/
noncomputable def whole_Of (k : Nat) (a : Int) : Option (Bool × List Int) := callA P A k 63 a
theorem whole_Of_eq (k : Nat) (a : Int) : whole_Of (k + 1) a =
  cond (decide (a < 0)) (
    (whole_made k (decide (a < 0)) [(wu32 (wu64 (0 - (wu64 a)))), (wu32 (shrI .u64 (wu64 (0 - (wu64 a))) 32))]).bind fun y0 =>
    some y0) (
    (whole_made k (decide (a < 0)) [(wu32 (wu64 a)), (wu32 (shrI .u64 (wu64 a) 32))]).bind fun y1 =>
    some y1) := by kernel_rfl
/-- (interchange/whole.Int).Times -/
noncomputable def whole_Int_Times (k : Nat) (a : Bool × List Int) (b : Bool × List Int) : Option (Bool × List Int) := callA P A k 99 (a, b)
noncomputable def whole_Int_Times_c3 (k : Nat) (s2 : Bool × List Int) (s3 : Bool × List Int) (s4 : Bool × List Int) (s5 : List Int) (s20 : List Int) (s21 : Int) (s22 : Int) : Option (Bool × List Int) := cutA P A k 99 (todoAt P A 99 3) [(2, (.box 65 [(.byv .bool), (.byv (.sl (.int .u32)))])), (3, (.box 65 [(.byv .bool), (.byv (.sl (.int .u32)))])), (4, (.box 65 [(.byv .bool), (.own 118 (.int .u32))])), (5, (.own 118 (.int .u32))), (20, (.byv (.sl (.int .u32)))), (21, (.byv (.int .i64))), (22, (.byv (.int .i64)))] (s2, s3, s4, s5, s20, s21, s22)
noncomputable def whole_Int_Times_c7 (k : Nat) (s2 : Bool × List Int) (s3 : Bool × List Int) (s4 : Bool × List Int) (s5 : List Int) (s6 : Int) (s7 : Int) (s8 : Int) (s20 : List Int) (s21 : Int) (s22 : Int) (s28 : List Int) (s29 : Int) (s30 : Int) : Option (Bool × List Int) := cutA P A k 99 (todoAt P A 99 7) [(2, (.box 65 [(.byv .bool), (.byv (.sl (.int .u32)))])), (3, (.box 65 [(.byv .bool), (.byv (.sl (.int .u32)))])), (4, (.box 65 [(.byv .bool), (.own 118 (.int .u32))])), (5, (.own 118 (.int .u32))), (6, (.byv (.int .i64))), (7, (.byv (.int .u32))), (8, (.byv (.int .u64))), (20, (.byv (.sl (.int .u32)))), (21, (.byv (.int .i64))), (22, (.byv (.int .i64))), (28, (.byv (.sl (.int .u32)))), (29, (.byv (.int .i64))), (30, (.byv (.int .i64)))] (s2, s3, s4, s5, s6, s7, s8, s20, s21, s22, s28, s29, s30)
theorem whole_Int_Times_eq (k : Nat) (a : Bool × List Int) (b : Bool × List Int) : whole_Int_Times (k + 1) a b =
  cond (decide (0 ≤ (wi64 ((a.2.length : Int) + (b.2.length : Int))))) (
  cond (decide ((wi64 ((a.2.length : Int) + (b.2.length : Int))).toNat ≤ 35184372088832)) (
  whole_Int_Times_c3 k a b (false, []) (List.replicate (wi64 ((a.2.length : Int) + (b.2.length : Int))).toNat 0) a.2 (a.2.length : Int) 0) none) none := by kernel_rfl
theorem whole_Int_Times_c3_eq (k : Nat) (s2 : Bool × List Int) (s3 : Bool × List Int) (s4 : Bool × List Int) (s5 : List Int) (s20 : List Int) (s21 : Int) (s22 : Int) : whole_Int_Times_c3 (k + 1) s2 s3 s4 s5 s20 s21 s22 =
  cond (decide (s22 < s21)) (
    cond (decide (0 ≤ s22)) (
    cond (decide (s22 < (s20.length : Int))) (
    whole_Int_Times_c7 k s2 s3 s4 s5 s22 (s20.getD s22.toNat 0) 0 s20 s21 s22 s3.2 (s3.2.length : Int) 0) none) none) (
    (whole_made k (!(s2.1 == s3.1)) s5).bind fun y0 =>
    some y0) := by kernel_rfl
theorem whole_Int_Times_c7_eq (k : Nat) (s2 : Bool × List Int) (s3 : Bool × List Int) (s4 : Bool × List Int) (s5 : List Int) (s6 : Int) (s7 : Int) (s8 : Int) (s20 : List Int) (s21 : Int) (s22 : Int) (s28 : List Int) (s29 : Int) (s30 : Int) : whole_Int_Times_c7 (k + 1) s2 s3 s4 s5 s6 s7 s8 s20 s21 s22 s28 s29 s30 =
  cond (decide (s30 < s29)) (
    cond (decide (0 ≤ s30)) (
    cond (decide (s30 < (s28.length : Int))) (
    cond (decide (0 ≤ (wi64 (s6 + s30)))) (
    cond (decide ((wi64 (s6 + s30)) < (s5.length : Int))) (
    cond (decide (0 ≤ (wi64 (s6 + s30)))) (
    cond (decide ((wi64 (s6 + s30)) < (s5.length : Int))) (
    whole_Int_Times_c7 k s2 s3 s4 (s5.set (wi64 (s6 + s30)).toNat (wu32 (wu64 (s8 + (wu64 ((wu64 (s5.getD (wi64 (s6 + s30)).toNat 0)) + (wu64 ((wu64 s7) * (wu64 (s28.getD s30.toNat 0)))))))))) s6 s7 (shrI .u64 (wu64 (s8 + (wu64 ((wu64 (s5.getD (wi64 (s6 + s30)).toNat 0)) + (wu64 ((wu64 s7) * (wu64 (s28.getD s30.toNat 0)))))))) 32) s20 s21 s22 s28 s29 (wi64 (s30 + 1))) none) none) none) none) none) none) (
    cond (decide (0 ≤ (wi64 (s6 + (s3.2.length : Int))))) (
    cond (decide ((wi64 (s6 + (s3.2.length : Int))) < (s5.length : Int))) (
    whole_Int_Times_c3 k s2 s3 s4 (s5.set (wi64 (s6 + (s3.2.length : Int))).toNat (wu32 s8)) s20 s21 (wi64 (s22 + 1))) none) none) := by kernel_rfl
/-- interchange/whole.sum -/
noncomputable def whole_sum (k : Nat) (a : List Int) (b : List Int) : Option (List Int) := callA P A k 124 (a, b)
noncomputable def whole_sum_c3 (k : Nat) (s0 : List Int) (s1 : List Int) : Option (List Int) := cutA P A k 124 (todoAt P A 124 3) [(0, (.byv (.sl (.int .u32)))), (1, (.byv (.sl (.int .u32))))] (s0, s1)
noncomputable def whole_sum_c6 (k : Nat) (s1 : List Int) (s5 : List Int) (s6 : Int) (s20 : List Int) (s21 : Int) (s22 : Int) : Option (List Int) := cutA P A k 124 (todoAt P A 124 6) [(1, (.byv (.sl (.int .u32)))), (5, (.own 118 (.int .u32))), (6, (.byv (.int .u64))), (20, (.byv (.sl (.int .u32)))), (21, (.byv (.int .i64))), (22, (.byv (.int .i64)))] (s1, s5, s6, s20, s21, s22)
theorem whole_sum_eq (k : Nat) (a : List Int) (b : List Int) : whole_sum (k + 1) a b =
  cond (decide ((a.length : Int) < (b.length : Int))) (
    whole_sum_c3 k b a) (
    whole_sum_c3 k a b) := by kernel_rfl
theorem whole_sum_c3_eq (k : Nat) (s0 : List Int) (s1 : List Int) : whole_sum_c3 (k + 1) s0 s1 =
  cond (decide (0 ≤ (wi64 ((s0.length : Int) + 1)))) (
  cond (decide ((wi64 ((s0.length : Int) + 1)).toNat ≤ 35184372088832)) (
  whole_sum_c6 k s1 (List.replicate 0 0) 0 s0 (s0.length : Int) 0) none) none := by kernel_rfl
theorem whole_sum_c6_eq (k : Nat) (s1 : List Int) (s5 : List Int) (s6 : Int) (s20 : List Int) (s21 : Int) (s22 : Int) : whole_sum_c6 (k + 1) s1 s5 s6 s20 s21 s22 =
  cond (decide (s22 < s21)) (
    cond (decide (0 ≤ s22)) (
    cond (decide (s22 < (s20.length : Int))) (
    cond (decide (s22 < (s1.length : Int))) (
      cond (decide (0 ≤ s22)) (
      cond (decide (s22 < (s1.length : Int))) (
      cond (decide (s5.length + 1 < 35184372088832)) (
      whole_sum_c6 k s1 (s5 ++ [(wu32 (wu64 ((wu64 (s6 + (wu64 (s20.getD s22.toNat 0)))) + (wu64 (s1.getD s22.toNat 0)))))]) (shrI .u64 (wu64 ((wu64 (s6 + (wu64 (s20.getD s22.toNat 0)))) + (wu64 (s1.getD s22.toNat 0)))) 32) s20 s21 (wi64 (s22 + 1))) none) none) none) (
      cond (decide (s5.length + 1 < 35184372088832)) (
      whole_sum_c6 k s1 (s5 ++ [(wu32 (wu64 (s6 + (wu64 (s20.getD s22.toNat 0)))))]) (shrI .u64 (wu64 (s6 + (wu64 (s20.getD s22.toNat 0)))) 32) s20 s21 (wi64 (s22 + 1))) none)) none) none) (
    cond (decide (s5.length + 1 < 35184372088832)) (
    some (s5 ++ [(wu32 s6)])) none) := by kernel_rfl
/-- interchange/whole.compare -/
noncomputable def whole_compare (k : Nat) (a : List Int) (b : List Int) : Option Int := callA P A k 125 (a, b)
noncomputable def whole_compare_c4 (k : Nat) (s0 : List Int) (s1 : List Int) (s5 : Int) : Option Int := cutA P A k 125 (todoAt P A 125 4) [(0, (.byv (.sl (.int .u32)))), (1, (.byv (.sl (.int .u32)))), (5, (.byv (.int .i64)))] (s0, s1, s5)
theorem whole_compare_eq (k : Nat) (a : List Int) (b : List Int) : whole_compare (k + 1) a b =
  cond ((a.length : Int) != (b.length : Int)) (
    some (wi64 ((a.length : Int) - (b.length : Int)))) (
    whole_compare_c4 k a b (wi64 ((a.length : Int) - 1))) := by kernel_rfl
theorem whole_compare_c4_eq (k : Nat) (s0 : List Int) (s1 : List Int) (s5 : Int) : whole_compare_c4 (k + 1) s0 s1 s5 =
  cond (decide (s5 ≥ 0)) (
    cond (decide (0 ≤ s5)) (
    cond (decide (s5 < (s0.length : Int))) (
    cond (decide (0 ≤ s5)) (
    cond (decide (s5 < (s1.length : Int))) (
    cond ((s0.getD s5.toNat 0) != (s1.getD s5.toNat 0)) (
      cond (decide (0 ≤ s5)) (
      cond (decide (s5 < (s0.length : Int))) (
      cond (decide (0 ≤ s5)) (
      cond (decide (s5 < (s1.length : Int))) (
      cond (decide ((s0.getD s5.toNat 0) < (s1.getD s5.toNat 0))) (
        some (-1)) (
        some 1)) none) none) none) none) (
      whole_compare_c4 k s0 s1 (wi64 (s5 - 1)))) none) none) none) none) (
    some 0) := by kernel_rfl
/-- interchange/whole.less -/
noncomputable def whole_less (k : Nat) (a : List Int) (b : List Int) : Option (List Int) := callA P A k 126 (a, b)
noncomputable def whole_less_c4 (k : Nat) (s1 : List Int) (s5 : List Int) (s6 : Int) (s13 : List Int) (s14 : Int) (s15 : Int) : Option (List Int) := cutA P A k 126 (todoAt P A 126 4) [(1, (.byv (.sl (.int .u32)))), (5, (.own 118 (.int .u32))), (6, (.byv (.int .u64))), (13, (.byv (.sl (.int .u32)))), (14, (.byv (.int .i64))), (15, (.byv (.int .i64)))] (s1, s5, s6, s13, s14, s15)
theorem whole_less_eq (k : Nat) (a : List Int) (b : List Int) : whole_less (k + 1) a b =
  cond (decide (0 ≤ (a.length : Int))) (
  cond (decide ((a.length : Int).toNat ≤ 35184372088832)) (
  whole_less_c4 k b (List.replicate 0 0) 0 a (a.length : Int) 0) none) none := by kernel_rfl
theorem whole_less_c4_eq (k : Nat) (s1 : List Int) (s5 : List Int) (s6 : Int) (s13 : List Int) (s14 : Int) (s15 : Int) : whole_less_c4 (k + 1) s1 s5 s6 s13 s14 s15 =
  cond (decide (s15 < s14)) (
    cond (decide (0 ≤ s15)) (
    cond (decide (s15 < (s13.length : Int))) (
    cond (decide (s15 < (s1.length : Int))) (
      cond (decide (0 ≤ s15)) (
      cond (decide (s15 < (s1.length : Int))) (
      cond (decide (s5.length + 1 < 35184372088832)) (
      whole_less_c4 k s1 (s5 ++ [(wu32 (wu64 ((wu64 ((wu64 (s13.getD s15.toNat 0)) - s6)) - (wu64 (s1.getD s15.toNat 0)))))]) (bitsI .and .u64 (shrI .u64 (wu64 ((wu64 ((wu64 (s13.getD s15.toNat 0)) - s6)) - (wu64 (s1.getD s15.toNat 0)))) 32) 1) s13 s14 (wi64 (s15 + 1))) none) none) none) (
      cond (decide (s5.length + 1 < 35184372088832)) (
      whole_less_c4 k s1 (s5 ++ [(wu32 (wu64 ((wu64 (s13.getD s15.toNat 0)) - s6)))]) (bitsI .and .u64 (shrI .u64 (wu64 ((wu64 (s13.getD s15.toNat 0)) - s6)) 32) 1) s13 s14 (wi64 (s15 + 1))) none)) none) none) (
    (whole_trimmed k s5).bind fun y0 =>
    some y0) := by kernel_rfl
/-- (interchange/whole.Int).Plus -/
noncomputable def whole_Int_Plus (k : Nat) (a : Bool × List Int) (b : Bool × List Int) : Option (Bool × List Int) := callA P A k 118 (a, b)
theorem whole_Int_Plus_eq (k : Nat) (a : Bool × List Int) (b : Bool × List Int) : whole_Int_Plus (k + 1) a b =
  cond (a.1 == b.1) (
    (whole_sum k a.2 b.2).bind fun y0 =>
    (whole_made k a.1 y0).bind fun y1 =>
    some y1) (
    (whole_compare k a.2 b.2).bind fun y2 =>
    cond (decide (y2 ≥ 0)) (
      (whole_less k a.2 b.2).bind fun y3 =>
      (whole_made k a.1 y3).bind fun y4 =>
      some y4) (
      (whole_less k b.2 a.2).bind fun y5 =>
      (whole_made k b.1 y5).bind fun y6 =>
      some y6)) := by kernel_rfl
/-- (interchange/whole.Int).Sign -/
noncomputable def whole_Int_Sign (k : Nat) (a : Bool × List Int) : Option Int := callA P A k 78 a
theorem whole_Int_Sign_eq (k : Nat) (a : Bool × List Int) : whole_Int_Sign (k + 1) a =
  cond a.1 (
    some (-1)) (
    cond ((a.2.length : Int) == 0) (
      some 0) (
      some 1)) := by kernel_rfl
/-- (interchange/whole.Int).Minus -/
noncomputable def whole_Int_Minus (k : Nat) (a : Bool × List Int) : Option (Bool × List Int) := callA P A k 119 a
theorem whole_Int_Minus_eq (k : Nat) (a : Bool × List Int) : whole_Int_Minus (k + 1) a =
  (whole_made k (!a.1) a.2).bind fun y0 =>
  some y0 := by kernel_rfl
/-- (interchange/whole.Int).Int -/
noncomputable def whole_Int_Int (k : Nat) (a : Bool × List Int) (b : Int) : Option (Int × Bool) := callA P A k 41 (a, b)
noncomputable def whole_Int_Int_c5 (k : Nat) (s1 : Int) (s2 : Bool × List Int) (s6 : Int) (s14 : List Int) (s15 : Int) (s16 : Int) : Option (Int × Bool) := cutA P A k 41 (todoAt P A 41 5) [(1, (.byv (.int .i64))), (2, (.box 65 [(.byv .bool), (.byv (.sl (.int .u32)))])), (6, (.byv (.int .u64))), (14, (.byv (.sl (.int .u32)))), (15, (.byv (.int .i64))), (16, (.byv (.int .i64)))] (s1, s2, s6, s14, s15, s16)
theorem whole_Int_Int_eq (k : Nat) (a : Bool × List Int) (b : Int) : whole_Int_Int (k + 1) a b =
  cond (decide ((a.2.length : Int) > 2)) (
    some (0, false)) (
    whole_Int_Int_c5 k b a 0 a.2 (a.2.length : Int) 0) := by kernel_rfl
theorem whole_Int_Int_c5_eq (k : Nat) (s1 : Int) (s2 : Bool × List Int) (s6 : Int) (s14 : List Int) (s15 : Int) (s16 : Int) : whole_Int_Int_c5 (k + 1) s1 s2 s6 s14 s15 s16 =
  cond (decide (s16 < s15)) (
    cond (decide (0 ≤ s16)) (
    cond (decide (s16 < (s14.length : Int))) (
    cond (decide (0 ≤ (wi64 (32 * s16)))) (
    whole_Int_Int_c5 k s1 s2 (bitsI .or .u64 s6 (shlI .u64 (wu64 (s14.getD s16.toNat 0)) (wi64 (32 * s16)))) s14 s15 (wi64 (s16 + 1))) none) none) none) (
    cond (decide (s6 > (wu64 s1))) (
      some (0, false)) (
      cond s2.1 (
        some ((wi64 (0 - (wi64 s6))), true)) (
        some ((wi64 s6), true)))) := by kernel_rfl
/-- interchange/amount.Made -/
noncomputable def amount_Made (k : Nat) (a : Bool × List Int) (b : Int) : Option ((Int × Int) × Int) := callA P A k 120 (a, b)
theorem amount_Made_eq (k : Nat) (a : Bool × List Int) (b : Int) : amount_Made (k + 1) a b =
  (whole_Int_Int k a 1000000000000000).bind fun y0 =>
  cond (!y0.2) (
    some ((0, 0), 1)) (
    some ((y0.1, b), 0)) := by kernel_rfl
/-- interchange/amount.read -/
noncomputable def amount_read (k : Nat) (a : Bool) (b : ByteArray) (c : ByteArray) : Option ((Int × Int) × Int) := callA P A k 71 (a, b, c)
noncomputable def amount_read_c3 (k : Nat) (s0 : Bool) (s1 : ByteArray) (s2 : ByteArray) (s6 : Int × Int) (s8 : Bool × List Int) (s14 : Int) (s15 : Int) : Option ((Int × Int) × Int) := cutA P A k 71 (todoAt P A 71 3) [(0, (.byv .bool)), (1, (.byv .str)), (2, (.byv .str)), (6, (.box 40 [(.byv (.int .i64)), (.byv (.int .i64))])), (8, (.box 65 [(.byv .bool), (.byv (.sl (.int .u32)))])), (14, (.byv (.int .i64))), (15, (.byv (.int .i64)))] (s0, s1, s2, s6, s8, s14, s15)
theorem amount_read_eq (k : Nat) (a : Bool) (b : ByteArray) (c : ByteArray) : amount_read (k + 1) a b c =
  (whole_Of k 0).bind fun y0 =>
  cond (decide (b.size + c.size ≤ 9223372036854775807)) (
  amount_read_c3 k a b c (0, 0) y0 ((b ++ c).size : Int) 0) none := by kernel_rfl
theorem amount_read_c3_eq (k : Nat) (s0 : Bool) (s1 : ByteArray) (s2 : ByteArray) (s6 : Int × Int) (s8 : Bool × List Int) (s14 : Int) (s15 : Int) : amount_read_c3 (k + 1) s0 s1 s2 s6 s8 s14 s15 =
  cond (decide (s15 < s14)) (
    (whole_Of k 10).bind fun y1 =>
    (whole_Int_Times k s8 y1).bind fun y2 =>
    cond (decide (s1.size + s2.size ≤ 9223372036854775807)) (
    cond (decide (0 ≤ s15)) (
    cond (decide (s15 < ((s1 ++ s2).size : Int))) (
    (whole_Of k (wi64 (wu8 ((bt (s1 ++ s2) s15) - 48)))).bind fun y3 =>
    (whole_Int_Plus k y2 y3).bind fun y4 =>
    amount_read_c3 k s0 s1 s2 s6 y4 s14 (wi64 (s15 + 1))) none) none) none) (
    cond s0 (
      (whole_Int_Sign k s8).bind fun y5 =>
      cond (y5 == 0) (
        some ((0, 0), 10)) (
        (whole_Int_Minus k s8).bind fun y6 =>
        (amount_Made k y6 (s2.size : Int)).bind fun y7 =>
        some y7)) (
      (amount_Made k s8 (s2.size : Int)).bind fun y8 =>
      some y8)) := by kernel_rfl
/-- interchange/amount.ReadText -/
noncomputable def amount_ReadText (k : Nat) (a : ByteArray) : Option ((Int × Int) × Int) := callA P A k 21 a
theorem amount_ReadText_eq (k : Nat) (a : ByteArray) : amount_ReadText (k + 1) a =
  (strings_CutPrefix k a (bs [45])).bind fun y0 =>
  (strings_Cut k y0.1 (bs [46])).bind fun y1 =>
  (cond (!(decide ((a.size : Int) > 40))) (amount_isWhole k y1.1) (some false)).bind fun y2 =>
  (cond ((!(cond (decide ((a.size : Int) > 40)) true (!y2))) && y1.2.2) (kit_IsDigits k y1.2.1) (some false)).bind fun y3 =>
  cond (cond (cond (decide ((a.size : Int) > 40)) true (!y2)) true (cond y1.2.2 (cond (!y3) true (decide ((y1.2.1.size : Int) > 9))) false)) (
    some ((0, 0), 10)) (
    (amount_read k y0.2 y1.1 y1.2.1).bind fun y4 =>
    some y4) := by kernel_rfl
/-- interchange/interchangelaw1.awake -/
noncomputable def interchangelaw1_awake (k : Nat) : Option Bool := callA P A k 11 ()
theorem interchangelaw1_awake_eq (k : Nat) : interchangelaw1_awake (k + 1) =
  (amount_ReadText k (bs [49, 46, 53, 48])).bind fun y0 =>
  some (cond (y0.2 == 0) ((y0.1.1 == 150) && ((y0.1.2 == 2) && true)) false) := by kernel_rfl
/-- interchange/amount.IsNumber -/
noncomputable def amount_IsNumber (k : Nat) (a : Int) (b : ByteArray) : Option (Bool × Int) := callA P A k 34 (a, b)
theorem amount_IsNumber_eq (k : Nat) (a : Int) (b : ByteArray) : amount_IsNumber (k + 1) a b =
  (amount_isKind k a).bind fun y0 =>
  cond (!y0) (
    some (false, 4)) (
    (amount_isNumber k a b).bind fun y1 =>
    some (y1, 0)) := by kernel_rfl
/-- interchange/interchangeref1.Below -/
noncomputable def interchangeref1_Below (k : Nat) (a : Int) (b : Int) : Option Int := callA P A k 95 (a, b)
theorem interchangeref1_Below_eq (k : Nat) (a : Int) (b : Int) : interchangeref1_Below (k + 1) a b =
  cond (!(decide (b = 0))) (
  cond (decide ((a.tmod b) < 0)) (
    some (wi64 ((a.tmod b) + b))) (
    some (a.tmod b))) none := by kernel_rfl
/-- interchange/interchangeref1.Changed -/
noncomputable def interchangeref1_Changed (k : Nat) (a : ByteArray) (b : Int) (c : Int) : Option ByteArray := callA P A k 35 (a, b, c)
theorem interchangeref1_Changed_eq (k : Nat) (a : ByteArray) (b : Int) (c : Int) : interchangeref1_Changed (k + 1) a b c =
  (interchangeref1_Below k b (a.size : Int)).bind fun y0 =>
  cond (decide (0 ≤ y0)) (
  cond (decide (y0 < (a.size : Int))) (
  cond ((!(!(decide ((bt a y0) < 48)))) || (decide (0 ≤ y0))) (
  cond ((!(!(decide ((bt a y0) < 48)))) || (decide (y0 < (a.size : Int)))) (
  cond (cond (decide ((bt a y0) < 48)) true (decide ((bt a y0) > 57))) (
    some a) (
    cond (decide (0 ≤ y0)) (
    cond (decide (y0 < (a.size : Int))) (
    (interchangeref1_Below k c 9).bind fun y1 =>
    cond (decide (0 ≤ y0)) (
    cond (decide (y0 < ((byts a).length : Int))) (
    some (strOf ((byts a).set y0.toNat (wu8 (wi64 (48 + ((wi64 ((wi64 ((wi64 (wu8 ((bt a y0) - 48))) + 1)) + y1)).tmod 10))))))) none) none) none) none)) none) none) none) none := by kernel_rfl
/-- interchange/amount.Widened -/
noncomputable def amount_Widened (k : Nat) (a : ByteArray) : Option (ByteArray × Int) := callA P A k 36 a
theorem amount_Widened_eq (k : Nat) (a : ByteArray) : amount_Widened (k + 1) a =
  (amount_isNumber k 1 a).bind fun y0 =>
  cond (!y0) (
    some ((bs []), 3)) (
    (strings_Repeat k (bs [48]) (wi64 (14 - (a.size : Int)))).bind fun y1 =>
    cond (decide (y1.size + a.size ≤ 9223372036854775807)) (
    some ((y1 ++ a), 0)) none) := by kernel_rfl
/-- interchange/interchangeref1.Exchanged -/
noncomputable def interchangeref1_Exchanged (k : Nat) (a : ByteArray) (b : Int) : Option ByteArray := callA P A k 37 (a, b)
theorem interchangeref1_Exchanged_eq (k : Nat) (a : ByteArray) (b : Int) : interchangeref1_Exchanged (k + 1) a b =
  (interchangeref1_Below k b (wi64 ((a.size : Int) - 1))).bind fun y0 =>
  cond (decide (0 ≤ y0)) (
  cond (decide (y0 < (a.size : Int))) (
  cond (decide (0 ≤ (wi64 (y0 + 1)))) (
  cond (decide ((wi64 (y0 + 1)) < (a.size : Int))) (
  cond (cond (cond ((wi64 ((wi64 (bt a y0)) - (wi64 (bt a (wi64 (y0 + 1)))))) == 0) true ((wi64 ((wi64 (bt a y0)) - (wi64 (bt a (wi64 (y0 + 1)))))) == 5)) true ((wi64 ((wi64 (bt a y0)) - (wi64 (bt a (wi64 (y0 + 1)))))) == (-5))) (
    some a) (
    cond (decide (0 ≤ (wi64 (y0 + 1)))) (
    cond (decide ((wi64 (y0 + 1)) < (a.size : Int))) (
    cond (decide (0 ≤ y0)) (
    cond (decide (y0 < (a.size : Int))) (
    cond (decide (0 ≤ y0)) (
    cond (decide (y0 < ((byts a).length : Int))) (
    cond (decide (0 ≤ (wi64 (y0 + 1)))) (
    cond (decide ((wi64 (y0 + 1)) < (((byts a).set y0.toNat (bt a (wi64 (y0 + 1)))).length : Int))) (
    some (strOf (((byts a).set y0.toNat (bt a (wi64 (y0 + 1)))).set (wi64 (y0 + 1)).toNat (bt a y0)))) none) none) none) none) none) none) none) none)) none) none) none) none := by kernel_rfl
/-- interchange/interchangelaw1.AmountNumbersTellMistakes -/
noncomputable def interchangelaw1_AmountNumbersTellMistakes (k : Nat) (a : Int) (b : ByteArray) (c : Int) (d : Int) : Option Bool := callA P A k 8 (a, b, c, d)
noncomputable def interchangelaw1_AmountNumbersTellMistakes_c12 (k : Nat) (s0 : Int) (s2 : Int) (s9 : ByteArray) : Option Bool := cutA P A k 8 (todoAt P A 8 12) [(0, (.byv (.int .i64))), (2, (.byv (.int .i64))), (9, (.byv .str))] (s0, s2, s9)
theorem interchangelaw1_AmountNumbersTellMistakes_eq (k : Nat) (a : Int) (b : ByteArray) (c : Int) (d : Int) : interchangelaw1_AmountNumbersTellMistakes (k + 1) a b c d =
  (amount_Completed k a b).bind fun y0 =>
  cond (y0.2 != 0) (
    (cond (eqS y0.1 (bs [])) (interchangelaw1_awake k) (some false)).bind fun y1 =>
    some (cond (eqS y0.1 (bs [])) y1 false)) (
    (amount_IsNumber k a y0.1).bind fun y2 =>
    (cond (!(cond (y2.2 != 0) true (!y2.1))) (interchangelaw1_awake k) (some false)).bind fun y3 =>
    cond (cond (cond (y2.2 != 0) true (!y2.1)) true (!y3)) (
      some false) (
      (interchangeref1_Changed k y0.1 c d).bind fun y4 =>
      cond (!(eqS y4 y0.1)) (
        (amount_IsNumber k a y4).bind fun y5 =>
        cond (cond (y5.2 != 0) true y5.1) (
          some false) (
          interchangelaw1_AmountNumbersTellMistakes_c12 k a c y0.1)) (
        interchangelaw1_AmountNumbersTellMistakes_c12 k a c y0.1))) := by kernel_rfl
theorem interchangelaw1_AmountNumbersTellMistakes_c12_eq (k : Nat) (s0 : Int) (s2 : Int) (s9 : ByteArray) : interchangelaw1_AmountNumbersTellMistakes_c12 (k + 1) s0 s2 s9 =
  cond (decide (s0 > 3)) (
    some true) (
    cond (s0 == 1) (
      (amount_Widened k s9).bind fun y6 =>
      cond (y6.2 != 0) (
        some false) (
        (amount_IsNumber k s0 y6.1).bind fun y7 =>
        cond (cond (y7.2 != 0) true (!y7.1)) (
          some false) (
          (interchangeref1_Exchanged k s9 s2).bind fun y8 =>
          (amount_IsNumber k s0 y8).bind fun y9 =>
          some (cond (y9.2 == 0) (y9.1 == (eqS y8 s9)) false)))) (
      (interchangeref1_Exchanged k s9 s2).bind fun y10 =>
      (amount_IsNumber k s0 y10).bind fun y11 =>
      some (cond (y11.2 == 0) (y11.1 == (eqS y10 s9)) false))) := by kernel_rfl
end Go.Proofs.YtegiadfbniamkaaDoor.Eq
