/- The functions that these laws reach: how their calls are read, and the equations that they obey. Printed by a program of this session's own; Lean checks each equation. -/
import Derived.Test.YtegiadfbniamkaaGreatDoorK1
import Derived.Test.YtegiadfbniamkaaGreatDoorProg
import Derived.KernelRfl
import Derived.Lib.Bytealg
import Derived.Lib.SlTrimSet
import Derived.Lib.ItoaNum
import Derived.Lib.Repeat
import Derived.Lib.Replace
import Derived.Lib.Atoi
namespace Go.Proofs.YtegiadfbniamkaaGreatDoor.Eq
open Go Go.Ra
set_option linter.unusedVariables false
def var4 : Var := ⟨4, [(.byv (.int .i64)), (.byv .str), (.byv .str)], [(.byv .bool)], fun _ => none, fun _ _ => false, fun _ _ => none, fun _ => []⟩
def var14 : Var := ⟨14, [], [(.byv .bool)], fun _ => none, fun _ _ => false, fun _ _ => none, fun _ => []⟩
def var15 : Var := ⟨15, [(.byv (.int .i64)), (.byv .str)], [(.byv .bool), (.byv (.int .i64))], fun _ => none, fun _ _ => false, fun _ _ => none, fun _ => []⟩
def var16 : Var := ⟨16, [(.byv (.int .i64)), (.byv .str)], [(.byv .bool), (.byv (.int .i64))], fun _ => none, fun _ _ => false, fun _ _ => none, fun _ => []⟩
def var17 : Var := ⟨17, [(.byv (.int .i64)), (.byv .str)], [(.byv .str), (.byv (.int .i64))], fun r => if r = 6 then some [(0, (.byv (.int .i64))), (1, (.byv .str)), (18, (.byv (.int .i64)))] else none, fun _ _ => false, fun _ _ => none, fun _ => []⟩
def var18 : Var := ⟨18, [(.byv (.int .i64)), (.byv .str)], [(.byv .str), (.byv (.int .i64))], fun r => if r = 16 then some [(0, (.byv (.int .i64))), (1, (.byv .str)), (49, (.byv (.int .i64)))] else none, fun _ _ => false, fun _ _ => none, fun _ => []⟩
def var19 : Var := ⟨19, [(.byv .str)], [(.byv .str), (.byv (.int .i64))], fun _ => none, fun _ _ => false, fun _ _ => none, fun _ => []⟩
def var20 : Var := ⟨20, [(.byv .str)], [(.byv .str), (.byv (.int .i64))], fun _ => none, fun _ _ => false, fun _ _ => none, fun _ => []⟩
def var52 : Var := ⟨52, [(.byv (.pair .bool (.sl (.int .u32)))), (.byv (.int .i64))], [(.byv (.int .i64)), (.byv .bool)], fun r => if r = 5 then some [(1, (.byv (.int .i64))), (2, (.box 86 [(.byv .bool), (.byv (.sl (.int .u32)))])), (6, (.byv (.int .u64))), (14, (.byv (.sl (.int .u32)))), (15, (.byv (.int .i64))), (16, (.byv (.int .i64)))] else none, fun _ _ => false, fun _ _ => none, fun _ => []⟩
def var60 : Var := ⟨60, [(.byv (.int .i64)), (.byv (.int .i64)), (.byv (.int .i64))], [(.byv .bool)], fun _ => none, fun _ _ => false, fun _ _ => none, fun _ => []⟩
def var69 : Var := ⟨69, [(.byv (.int .i64))], [(.byv (.pair .bool (.sl (.int .u32))))], fun _ => none, fun _ _ => false, fun _ _ => none, fun _ => []⟩
def var70 : Var := ⟨70, [(.byv (.pair .bool (.sl (.int .u32)))), (.byv (.pair .bool (.sl (.int .u32))))], [(.byv (.pair .bool (.sl (.int .u32))))], fun r => if r = 3 then some [(2, (.box 86 [(.byv .bool), (.byv (.sl (.int .u32)))])), (3, (.box 86 [(.byv .bool), (.byv (.sl (.int .u32)))])), (4, (.box 86 [(.byv .bool), (.own 143 (.int .u32))])), (5, (.own 143 (.int .u32))), (20, (.byv (.sl (.int .u32)))), (21, (.byv (.int .i64))), (22, (.byv (.int .i64)))] else if r = 7 then some [(2, (.box 86 [(.byv .bool), (.byv (.sl (.int .u32)))])), (3, (.box 86 [(.byv .bool), (.byv (.sl (.int .u32)))])), (4, (.box 86 [(.byv .bool), (.own 143 (.int .u32))])), (5, (.own 143 (.int .u32))), (6, (.byv (.int .i64))), (7, (.byv (.int .u32))), (8, (.byv (.int .u64))), (20, (.byv (.sl (.int .u32)))), (21, (.byv (.int .i64))), (22, (.byv (.int .i64))), (28, (.byv (.sl (.int .u32)))), (29, (.byv (.int .i64))), (30, (.byv (.int .i64)))] else none, fun _ _ => false, fun _ _ => none, fun _ => []⟩
def var72 : Var := ⟨72, [(.byv (.pair .bool (.sl (.int .u32)))), (.byv (.int .i64))], [(.byv (.pair (.int .i64) (.int .i64))), (.byv (.int .i64))], fun _ => none, fun _ _ => false, fun _ _ => none, fun _ => []⟩
def var74 : Var := ⟨74, [(.byv .str)], [(.byv (.pair (.int .i64) (.int .i64))), (.byv (.int .i64))], fun _ => none, fun _ _ => false, fun _ _ => none, fun _ => []⟩
def var75 : Var := ⟨75, [(.byv (.int .i64))], [(.byv .bool)], fun _ => none, fun _ _ => false, fun _ _ => none, fun _ => []⟩
def var76 : Var := ⟨76, [(.byv (.int .i64)), (.byv .str)], [(.byv .bool)], fun _ => none, fun _ _ => false, fun _ _ => none, fun _ => []⟩
def var77 : Var := ⟨77, [(.byv (.int .i64))], [(.byv .bool)], fun _ => none, fun _ _ => false, fun _ _ => none, fun _ => []⟩
def var78 : Var := ⟨78, [(.byv (.int .i64)), (.byv .str)], [(.byv .bool)], fun _ => none, fun _ _ => false, fun _ _ => none, fun _ => []⟩
def var79 : Var := ⟨79, [(.byv .str)], [(.byv .bool)], fun _ => none, fun _ _ => false, fun _ _ => none, fun _ => []⟩
def var80 : Var := ⟨80, [(.byv .str)], [(.byv (.int .i64))], fun r => if r = 3 then some [(3, (.byv (.int .i64))), (11, (.byv (.sl (.int .u8)))), (12, (.byv (.int .i64))), (13, (.byv (.int .i64)))] else none, fun _ _ => false, fun _ _ => none, fun _ => []⟩
def var81 : Var := ⟨81, [(.byv (.int .i64)), (.byv (.int .i64))], [(.byv .str)], fun _ => none, fun _ _ => false, fun _ _ => none, fun _ => []⟩
def var82 : Var := ⟨82, [(.byv .str)], [(.byv .bool)], fun _ => none, fun _ _ => false, fun _ _ => none, fun _ => []⟩
def var83 : Var := ⟨83, [(.byv (.int .i64))], [(.byv .str)], fun _ => none, fun _ _ => false, fun _ _ => none, fun _ => []⟩
def var84 : Var := ⟨84, [(.byv .str), (.byv (.int .i64))], [(.byv .str)], fun _ => none, fun _ _ => false, fun _ _ => none, fun _ => []⟩
def var89 : Var := ⟨89, [(.byv (.int .i64)), (.byv (.int .i64)), (.byv (.int .i64))], [(.byv .bool)], fun _ => none, fun _ _ => false, fun _ _ => none, fun _ => []⟩
def var97 : Var := ⟨97, [(.byv (.pair .bool (.sl (.int .u32)))), (.byv (.pair .bool (.sl (.int .u32))))], [(.byv (.pair .bool (.sl (.int .u32))))], fun _ => none, fun _ _ => false, fun _ _ => none, fun _ => []⟩
def var123 : Var := ⟨123, [(.byv (.sl (.int .i64))), (.byv (.int .i64))], [(.byv .bool)], fun _ => none, fun _ _ => false, fun _ _ => none, fun _ => []⟩
def var127 : Var := ⟨127, [(.byv .bool), (.byv (.sl (.int .u32)))], [(.byv (.pair .bool (.sl (.int .u32))))], fun _ => none, fun _ _ => false, fun _ _ => none, fun _ => []⟩
def var128 : Var := ⟨128, [(.byv (.pair .bool (.sl (.int .u32))))], [(.byv (.int .i64))], fun _ => none, fun _ _ => false, fun _ _ => none, fun _ => []⟩
def var130 : Var := ⟨130, [(.byv (.pair .bool (.sl (.int .u32))))], [(.byv (.pair .bool (.sl (.int .u32))))], fun _ => none, fun _ _ => false, fun _ _ => none, fun _ => []⟩
def var131 : Var := ⟨131, [(.byv .str), (.byv .str)], [(.byv .str), (.byv .bool)], fun _ => none, fun _ _ => false, fun _ _ => none, fun _ => []⟩
def var132 : Var := ⟨132, [(.byv .str), (.byv .str)], [(.byv .str), (.byv .str), (.byv .bool)], fun _ => none, fun _ _ => false, fun _ _ => none, fun _ => []⟩
def var133 : Var := ⟨133, [(.byv .str)], [(.byv .bool)], fun _ => none, fun _ _ => false, fun _ _ => none, fun _ => []⟩
def var134 : Var := ⟨134, [(.byv .str)], [(.byv .bool)], fun _ => none, fun _ _ => false, fun _ _ => none, fun _ => []⟩
def var135 : Var := ⟨135, [(.byv .bool), (.byv .str), (.byv .str)], [(.byv (.pair (.int .i64) (.int .i64))), (.byv (.int .i64))], fun r => if r = 3 then some [(0, (.byv .bool)), (1, (.byv .str)), (2, (.byv .str)), (6, (.box 24 [(.byv (.int .i64)), (.byv (.int .i64))])), (8, (.box 86 [(.byv .bool), (.byv (.sl (.int .u32)))])), (14, (.byv (.int .i64))), (15, (.byv (.int .i64)))] else none, fun _ _ => false, fun _ _ => none, fun _ => []⟩
def var136 : Var := ⟨136, [(.byv .str)], [(.byv .bool)], fun r => if r = 4 then some [(0, (.byv .str)), (7, (.byv (.int .i64))), (8, (.byv (.int .i64)))] else none, fun _ _ => false, fun _ _ => none, fun _ => []⟩
def var137 : Var := ⟨137, [(.byv .str)], [(.byv .bool)], fun r => if r = 3 then some [(0, (.byv .str)), (3, (.byv (.int .i64))), (7, (.byv (.int .i64))), (8, (.byv (.int .i64)))] else none, fun _ _ => false, fun _ _ => none, fun _ => []⟩
def var138 : Var := ⟨138, [(.byv .str), (.byv .bool)], [(.byv .bool)], fun r => if r = 2 then some [(0, (.byv .str)), (1, (.byv .bool)), (8, (.byv (.int .i64))), (9, (.byv (.int .i64)))] else none, fun _ _ => false, fun _ _ => none, fun _ => []⟩
def var139 : Var := ⟨139, [(.byv .str), (.byv (.int .i64))], [(.byv (.int .i64))], fun r => if r = 3 then some [(0, (.byv .str)), (1, (.byv (.int .i64))), (5, (.byv (.int .i64))), (8, (.byv (.int .i64))), (9, (.byv (.int .i64)))] else none, fun _ _ => false, fun _ _ => none, fun _ => []⟩
def var140 : Var := ⟨140, [(.byv .str)], [(.byv .str)], fun r => if r = 3 then some [(0, (.byv .str)), (3, (.own 5 (.int .u8))), (8, (.byv (.int .i64))), (9, (.byv (.int .i64)))] else none, fun _ _ => false, fun _ _ => none, fun _ => []⟩
def var141 : Var := ⟨141, [(.byv .str)], [(.byv (.int .u8))], fun r => if r = 3 then some [(0, (.byv .str)), (3, (.byv (.int .i64))), (6, (.byv (.int .i64)))] else none, fun _ _ => false, fun _ _ => none, fun _ => []⟩
def var142 : Var := ⟨142, [(.byv .str)], [(.byv .bool)], fun _ => none, fun _ _ => false, fun _ _ => none, fun _ => []⟩
def var143 : Var := ⟨143, [(.byv (.int .i64))], [(.own 3 (.int .i64))], fun _ => none, fun _ _ => false, fun _ _ => none, fun _ => []⟩
def var144 : Var := ⟨144, [(.byv .str)], [(.byv .bool)], fun r => if r = 3 then some [(0, (.byv .str)), (3, (.byv (.int .i64))), (7, (.byv (.int .i64))), (8, (.byv (.int .i64)))] else none, fun _ _ => false, fun _ _ => none, fun _ => []⟩
def var145 : Var := ⟨145, [(.byv .str)], [(.byv .bool)], fun _ => none, fun _ _ => false, fun _ _ => none, fun _ => []⟩
def var146 : Var := ⟨146, [(.byv .str)], [(.byv .bool)], fun _ => none, fun _ _ => false, fun _ _ => none, fun _ => []⟩
def var164 : Var := ⟨164, [(.byv (.sl (.int .u32))), (.byv (.sl (.int .u32)))], [(.own 143 (.int .u32))], fun r => if r = 3 then some [(0, (.byv (.sl (.int .u32)))), (1, (.byv (.sl (.int .u32))))] else if r = 6 then some [(1, (.byv (.sl (.int .u32)))), (5, (.own 143 (.int .u32))), (6, (.byv (.int .u64))), (20, (.byv (.sl (.int .u32)))), (21, (.byv (.int .i64))), (22, (.byv (.int .i64)))] else none, fun _ _ => false, fun _ _ => none, fun _ => []⟩
def var165 : Var := ⟨165, [(.byv (.sl (.int .u32))), (.byv (.sl (.int .u32)))], [(.byv (.int .i64))], fun r => if r = 4 then some [(0, (.byv (.sl (.int .u32)))), (1, (.byv (.sl (.int .u32)))), (5, (.byv (.int .i64)))] else none, fun _ _ => false, fun _ _ => none, fun _ => []⟩
def var166 : Var := ⟨166, [(.byv (.sl (.int .u32))), (.byv (.sl (.int .u32)))], [(.byv (.sl (.int .u32)))], fun r => if r = 4 then some [(1, (.byv (.sl (.int .u32)))), (5, (.own 143 (.int .u32))), (6, (.byv (.int .u64))), (13, (.byv (.sl (.int .u32)))), (14, (.byv (.int .i64))), (15, (.byv (.int .i64)))] else none, fun _ _ => false, fun _ _ => none, fun _ => []⟩
def var167 : Var := ⟨167, [(.byv (.sl (.int .u32)))], [(.byv (.sl (.int .u32)))], fun r => if r = 1 then some [(0, (.byv (.sl (.int .u32))))] else none, fun _ _ => false, fun _ _ => none, fun _ => []⟩
def var172 : Var := ⟨172, [(.byv .str), (.byv .str)], [(.byv .str)], fun _ => none, fun _ _ => false, fun _ _ => none, fun _ => []⟩
def var174 : Var := ⟨174, [(.byv (.sl (.int .i64))), (.byv (.int .i64))], [(.byv (.int .i64))], fun r => if r = 2 then some [(0, (.byv (.sl (.int .i64)))), (1, (.byv (.int .i64))), (7, (.byv (.int .i64))), (8, (.byv (.int .i64)))] else none, fun _ _ => false, fun _ _ => none, fun _ => []⟩
def var175 : Var := ⟨175, [(.byv .str), (.byv .str)], [(.byv .str), (.byv .bool)], fun _ => none, fun _ _ => false, fun _ _ => none, fun _ => []⟩
def var176 : Var := ⟨176, [(.byv .str), (.byv .str)], [(.byv .str), (.byv .str), (.byv .bool)], fun _ => none, fun _ _ => false, fun _ _ => none, fun _ => []⟩
def var177 : Var := ⟨177, [(.byv .str), (.byv (.int .u8)), (.byv (.int .u8))], [(.byv .bool)], fun r => if r = 2 then some [(0, (.byv .str)), (1, (.byv (.int .u8))), (2, (.byv (.int .u8))), (9, (.byv (.int .i64))), (10, (.byv (.int .i64)))] else none, fun _ _ => false, fun _ _ => none, fun _ => []⟩
def var178 : Var := ⟨178, [(.byv .str)], [(.byv (.int .u8))], fun r => if r = 3 then some [(0, (.byv .str)), (3, (.byv (.int .i64))), (7, (.byv (.int .i64))), (8, (.byv (.int .i64)))] else none, fun _ _ => false, fun _ _ => none, fun _ => []⟩
def var182 : Var := ⟨182, [(.byv .str), (.byv .str)], [(.byv .bool)], fun _ => none, fun _ _ => false, fun _ _ => none, fun _ => []⟩
def var202 : Var := ⟨202, [(.byv .str), (.byv .str)], [(.byv (.int .i64))], fun _ => none, fun _ _ => false, fun _ _ => none, fun _ => []⟩
def var219 : Var := ⟨219, [(.byv .str), (.byv (.int .u8))], [(.byv (.int .i64))], fun _ => none, fun _ _ => false, fun _ _ => none, fun _ => []⟩
def varT (u : Nat) : Var := cond (Nat.blt u 130) (cond (Nat.blt u 75) (cond (Nat.blt u 20) (cond (Nat.blt u 16) (cond (Nat.blt u 14) (var4) (cond (Nat.blt u 15) (var14) (var15))) (cond (Nat.blt u 18) (cond (Nat.blt u 17) (var16) (var17)) (cond (Nat.blt u 19) (var18) (var19)))) (cond (Nat.blt u 69) (cond (Nat.blt u 52) (var20) (cond (Nat.blt u 60) (var52) (var60))) (cond (Nat.blt u 72) (cond (Nat.blt u 70) (var69) (var70)) (cond (Nat.blt u 74) (var72) (var74))))) (cond (Nat.blt u 82) (cond (Nat.blt u 78) (cond (Nat.blt u 76) (var75) (cond (Nat.blt u 77) (var76) (var77))) (cond (Nat.blt u 80) (cond (Nat.blt u 79) (var78) (var79)) (cond (Nat.blt u 81) (var80) (var81)))) (cond (Nat.blt u 97) (cond (Nat.blt u 84) (cond (Nat.blt u 83) (var82) (var83)) (cond (Nat.blt u 89) (var84) (var89))) (cond (Nat.blt u 127) (cond (Nat.blt u 123) (var97) (var123)) (cond (Nat.blt u 128) (var127) (var128)))))) (cond (Nat.blt u 145) (cond (Nat.blt u 137) (cond (Nat.blt u 133) (cond (Nat.blt u 131) (var130) (cond (Nat.blt u 132) (var131) (var132))) (cond (Nat.blt u 135) (cond (Nat.blt u 134) (var133) (var134)) (cond (Nat.blt u 136) (var135) (var136)))) (cond (Nat.blt u 141) (cond (Nat.blt u 139) (cond (Nat.blt u 138) (var137) (var138)) (cond (Nat.blt u 140) (var139) (var140))) (cond (Nat.blt u 143) (cond (Nat.blt u 142) (var141) (var142)) (cond (Nat.blt u 144) (var143) (var144))))) (cond (Nat.blt u 174) (cond (Nat.blt u 165) (cond (Nat.blt u 146) (var145) (cond (Nat.blt u 164) (var146) (var164))) (cond (Nat.blt u 167) (cond (Nat.blt u 166) (var165) (var166)) (cond (Nat.blt u 172) (var167) (var172)))) (cond (Nat.blt u 178) (cond (Nat.blt u 176) (cond (Nat.blt u 175) (var174) (var175)) (cond (Nat.blt u 177) (var176) (var177))) (cond (Nat.blt u 202) (cond (Nat.blt u 182) (var178) (var182)) (cond (Nat.blt u 219) (var202) (var219))))))
def gf83 : Int → Option ByteArray := fun (a) => cond (decide (-9223372036854775808 ≤ a) && decide (a ≤ 9223372036854775807)) (some ⟨(Lib.itoa a).toArray⟩) none
def g83 : var83.PT → Option var83.RT := gf83
def gf84 : (ByteArray × Int) → Option ByteArray := fun (a, b) => cond (decide (0 ≤ b) && decide (b ≤ 9223372036854775807) && decide (a.size * b.toNat ≤ 140737488355328)) (some ⟨(Lib.repeatL a.data.toList b.toNat).toArray⟩) none
def g84 : var84.PT → Option var84.RT := gf84
def gf172 : (ByteArray × ByteArray) → Option ByteArray := fun (a, b) => cond (decide (a.size ≤ 9223372036854775807) && decide (b.size < 4294967281) && b.data.toList.all fun x => decide (x.toNat < 128)) (some ⟨(Lib.trimS a.data.toList b.data.toList).toArray⟩) none
def g172 : var172.PT → Option var172.RT := gf172
def gf219 : (ByteArray × Int) → Option Int := fun (a, b) => some (Lib.indexByte a.data.toList b.toNat.toUInt8)
def g219 : var219.PT → Option var219.RT := gf219
def gvT (u : Nat) : Option ((varT u).PT → Option (varT u).RT) := if h : u = 219 then some (h ▸ g219) else if h : u = 172 then some (h ▸ g172) else if h : u = 84 then some (h ▸ g84) else if h : u = 83 then some (h ▸ g83) else none
def A : An := ⟨varT, fun f => f, gvT⟩
noncomputable abbrev P : Program := Tryz.prog
/-- interchange/interchangeref1.within -/
noncomputable def interchangeref1_within (k : Nat) (a : Int) (b : Int) (c : Int) : Option Bool := callA P A k 60 (a, b, c)
theorem interchangeref1_within_eq (k : Nat) (a : Int) (b : Int) (c : Int) : interchangeref1_within (k + 1) a b c =
  some (cond (decide (b ≤ a)) (decide (a ≤ c)) false) := by kernel_rfl
/-- interchange/interchangeref1.isKind -/
noncomputable def interchangeref1_isKind (k : Nat) (a : Int) : Option Bool := callA P A k 75 a
theorem interchangeref1_isKind_eq (k : Nat) (a : Int) : interchangeref1_isKind (k + 1) a =
  (interchangeref1_within k a 1 5).bind fun y0 =>
  some y0 := by kernel_rfl
/-- interchange/interchangeref1.isDigits -/
noncomputable def interchangeref1_isDigits (k : Nat) (a : ByteArray) : Option Bool := callA P A k 136 a
noncomputable def interchangeref1_isDigits_c4 (k : Nat) (s0 : ByteArray) (s7 : Int) (s8 : Int) : Option Bool := cutA P A k 136 (todoAt P A 136 4) [(0, (.byv .str)), (7, (.byv (.int .i64))), (8, (.byv (.int .i64)))] (s0, s7, s8)
theorem interchangeref1_isDigits_eq (k : Nat) (a : ByteArray) : interchangeref1_isDigits (k + 1) a =
  cond (eqS a (bs [])) (
    some false) (
    interchangeref1_isDigits_c4 k a (a.size : Int) 0) := by kernel_rfl
theorem interchangeref1_isDigits_c4_eq (k : Nat) (s0 : ByteArray) (s7 : Int) (s8 : Int) : interchangeref1_isDigits_c4 (k + 1) s0 s7 s8 =
  cond (decide (s8 < s7)) (
    cond (decide (0 ≤ s8)) (
    cond (decide (s8 < (s0.size : Int))) (
    cond ((!(!(decide ((bt s0 s8) < 48)))) || (decide (0 ≤ s8))) (
    cond ((!(!(decide ((bt s0 s8) < 48)))) || (decide (s8 < (s0.size : Int)))) (
    cond (cond (decide ((bt s0 s8) < 48)) true (decide ((bt s0 s8) > 57))) (
      some false) (
      interchangeref1_isDigits_c4 k s0 s7 (wi64 (s8 + 1)))) none) none) none) none) (
    some true) := by kernel_rfl
/-- interchange/interchangeref1.threes -/
noncomputable def interchangeref1_threes (k : Nat) (a : ByteArray) : Option Bool := callA P A k 137 a
noncomputable def interchangeref1_threes_c3 (k : Nat) (s0 : ByteArray) (s3 : Int) (s7 : Int) (s8 : Int) : Option Bool := cutA P A k 137 (todoAt P A 137 3) [(0, (.byv .str)), (3, (.byv (.int .i64))), (7, (.byv (.int .i64))), (8, (.byv (.int .i64)))] (s0, s3, s7, s8)
theorem interchangeref1_threes_eq (k : Nat) (a : ByteArray) : interchangeref1_threes (k + 1) a =
  interchangeref1_threes_c3 k a 0 (a.size : Int) 0 := by kernel_rfl
theorem interchangeref1_threes_c3_eq (k : Nat) (s0 : ByteArray) (s3 : Int) (s7 : Int) (s8 : Int) : interchangeref1_threes_c3 (k + 1) s0 s3 s7 s8 =
  cond (decide (s8 < s7)) (
    cond (decide (0 ≤ (wi64 ((wi64 ((s0.size : Int) - 1)) - s8)))) (
    cond (decide ((wi64 ((wi64 ((s0.size : Int) - 1)) - s8)) < (s0.size : Int))) (
    cond ((s8.tmod 2) == 1) (
      interchangeref1_threes_c3 k s0 (wi64 (s3 + (wi64 ((wi64 (wu8 ((bt s0 (wi64 ((wi64 ((s0.size : Int) - 1)) - s8))) - 48))) * 3)))) s7 (wi64 (s8 + 1))) (
      interchangeref1_threes_c3 k s0 (wi64 (s3 + (wi64 (wu8 ((bt s0 (wi64 ((wi64 ((s0.size : Int) - 1)) - s8))) - 48))))) s7 (wi64 (s8 + 1)))) none) none) (
    some ((s3.tmod 10) == 0)) := by kernel_rfl
/-- interchange/interchangeref1.isLetters -/
noncomputable def interchangeref1_isLetters (k : Nat) (a : ByteArray) (b : Bool) : Option Bool := callA P A k 138 (a, b)
noncomputable def interchangeref1_isLetters_c2 (k : Nat) (s0 : ByteArray) (s1 : Bool) (s8 : Int) (s9 : Int) : Option Bool := cutA P A k 138 (todoAt P A 138 2) [(0, (.byv .str)), (1, (.byv .bool)), (8, (.byv (.int .i64))), (9, (.byv (.int .i64)))] (s0, s1, s8, s9)
theorem interchangeref1_isLetters_eq (k : Nat) (a : ByteArray) (b : Bool) : interchangeref1_isLetters (k + 1) a b =
  interchangeref1_isLetters_c2 k a b (a.size : Int) 0 := by kernel_rfl
theorem interchangeref1_isLetters_c2_eq (k : Nat) (s0 : ByteArray) (s1 : Bool) (s8 : Int) (s9 : Int) : interchangeref1_isLetters_c2 (k + 1) s0 s1 s8 s9 =
  cond (decide (s9 < s8)) (
    cond (decide (0 ≤ s9)) (
    cond (decide (s9 < (s0.size : Int))) (
    cond (cond (cond (decide ((bt s0 s9) < 65)) true (decide ((bt s0 s9) > 90))) (cond (cond (!s1) true (decide ((bt s0 s9) < 48))) true (decide ((bt s0 s9) > 57))) false) (
      some false) (
      interchangeref1_isLetters_c2 k s0 s1 s8 (wi64 (s9 + 1)))) none) none) (
    some true) := by kernel_rfl
/-- interchange/interchangeref1.values -/
noncomputable def interchangeref1_values (k : Nat) (a : ByteArray) : Option ByteArray := callA P A k 140 a
noncomputable def interchangeref1_values_c3 (k : Nat) (s0 : ByteArray) (s3 : List Int) (s8 : Int) (s9 : Int) : Option ByteArray := cutA P A k 140 (todoAt P A 140 3) [(0, (.byv .str)), (3, (.own 5 (.int .u8))), (8, (.byv (.int .i64))), (9, (.byv (.int .i64)))] (s0, s3, s8, s9)
theorem interchangeref1_values_eq (k : Nat) (a : ByteArray) : interchangeref1_values (k + 1) a =
  interchangeref1_values_c3 k a [] (a.size : Int) 0 := by kernel_rfl
theorem interchangeref1_values_c3_eq (k : Nat) (s0 : ByteArray) (s3 : List Int) (s8 : Int) (s9 : Int) : interchangeref1_values_c3 (k + 1) s0 s3 s8 s9 =
  cond (decide (s9 < s8)) (
    cond (decide (0 ≤ s9)) (
    cond (decide (s9 < (s0.size : Int))) (
    cond (cond (decide ((bt s0 s9) ≥ 65)) (decide ((bt s0 s9) ≤ 90)) false) (
      cond (decide (s3.length + 2 < 140737488355328)) (
      interchangeref1_values_c3 k s0 (s3 ++ [(wu8 (wi64 (48 + (wi64 ((wi64 ((wi64 (wu8 ((bt s0 s9) - 65))) + 10)).tdiv 10))))), (wu8 (wi64 (48 + ((wi64 ((wi64 (wu8 ((bt s0 s9) - 65))) + 10)).tmod 10))))]) s8 (wi64 (s9 + 1))) none) (
      cond (decide (s3.length + 1 < 140737488355328)) (
      interchangeref1_values_c3 k s0 (s3 ++ [(bt s0 s9)]) s8 (wi64 (s9 + 1))) none)) none) none) (
    some (strOf s3)) := by kernel_rfl
/-- interchange/interchangeref1.remainder -/
noncomputable def interchangeref1_remainder (k : Nat) (a : ByteArray) (b : Int) : Option Int := callA P A k 139 (a, b)
noncomputable def interchangeref1_remainder_c3 (k : Nat) (s0 : ByteArray) (s1 : Int) (s5 : Int) (s8 : Int) (s9 : Int) : Option Int := cutA P A k 139 (todoAt P A 139 3) [(0, (.byv .str)), (1, (.byv (.int .i64))), (5, (.byv (.int .i64))), (8, (.byv (.int .i64))), (9, (.byv (.int .i64)))] (s0, s1, s5, s8, s9)
theorem interchangeref1_remainder_eq (k : Nat) (a : ByteArray) (b : Int) : interchangeref1_remainder (k + 1) a b =
  interchangeref1_remainder_c3 k a b 0 (a.size : Int) 0 := by kernel_rfl
theorem interchangeref1_remainder_c3_eq (k : Nat) (s0 : ByteArray) (s1 : Int) (s5 : Int) (s8 : Int) (s9 : Int) : interchangeref1_remainder_c3 (k + 1) s0 s1 s5 s8 s9 =
  cond (decide (s9 < s8)) (
    cond (decide (0 ≤ s9)) (
    cond (decide (s9 < (s0.size : Int))) (
    cond (!(decide (s1 = 0))) (
    interchangeref1_remainder_c3 k s0 s1 ((wi64 ((wi64 (10 * s5)) + (wi64 (wu8 ((bt s0 s9) - 48))))).tmod s1) s8 (wi64 (s9 + 1))) none) none) none) (
    some s5) := by kernel_rfl
/-- interchange/interchangeref1.taxDigit -/
noncomputable def interchangeref1_taxDigit (k : Nat) (a : ByteArray) : Option Int := callA P A k 141 a
noncomputable def interchangeref1_taxDigit_c3 (k : Nat) (s0 : ByteArray) (s3 : Int) (s6 : Int) : Option Int := cutA P A k 141 (todoAt P A 141 3) [(0, (.byv .str)), (3, (.byv (.int .i64))), (6, (.byv (.int .i64)))] (s0, s3, s6)
theorem interchangeref1_taxDigit_eq (k : Nat) (a : ByteArray) : interchangeref1_taxDigit (k + 1) a =
  interchangeref1_taxDigit_c3 k a 10 0 := by kernel_rfl
theorem interchangeref1_taxDigit_c3_eq (k : Nat) (s0 : ByteArray) (s3 : Int) (s6 : Int) : interchangeref1_taxDigit_c3 (k + 1) s0 s3 s6 =
  cond (decide (s6 < 10)) (
    cond (decide (0 ≤ s6)) (
    cond (decide (s6 < (s0.size : Int))) (
    cond (((wi64 ((wi64 (wu8 ((bt s0 s6) - 48))) + s3)).tmod 10) == 0) (
      interchangeref1_taxDigit_c3 k s0 9 (wi64 (s6 + 1))) (
      interchangeref1_taxDigit_c3 k s0 ((wi64 (2 * ((wi64 ((wi64 (wu8 ((bt s0 s6) - 48))) + s3)).tmod 10))).tmod 11) (wi64 (s6 + 1)))) none) none) (
    some (wu8 (wi64 (48 + ((wi64 (11 - s3)).tmod 10))))) := by kernel_rfl
/-- interchange/interchangeref1.isNumber -/
noncomputable def interchangeref1_isNumber (k : Nat) (a : Int) (b : ByteArray) : Option Bool := callA P A k 76 (a, b)
theorem interchangeref1_isNumber_eq (k : Nat) (a : Int) (b : ByteArray) : interchangeref1_isNumber (k + 1) a b =
  cond (a == 1) (
    (interchangeref1_isDigits k b).bind fun y0 =>
    (cond (cond y0 (cond ((b.size : Int) == 8) true (cond (decide ((b.size : Int) ≥ 12)) (decide ((b.size : Int) ≤ 14)) false)) false) (interchangeref1_threes k b) (some false)).bind fun y1 =>
    some (cond (cond y0 (cond ((b.size : Int) == 8) true (cond (decide ((b.size : Int) ≥ 12)) (decide ((b.size : Int) ≤ 14)) false)) false) y1 false)) (
    cond (a == 2) (
      (interchangeref1_isDigits k b).bind fun y2 =>
      (cond (cond y2 ((b.size : Int) == 13) false) (interchangeref1_threes k b) (some false)).bind fun y3 =>
      some (cond (cond y2 ((b.size : Int) == 13) false) y3 false)) (
      cond (a == 3) (
        (interchangeref1_isDigits k b).bind fun y4 =>
        (cond (cond y4 ((b.size : Int) == 18) false) (interchangeref1_threes k b) (some false)).bind fun y5 =>
        some (cond (cond y4 ((b.size : Int) == 18) false) y5 false)) (
        cond (a == 4) (
          (interchangeref1_within k (b.size : Int) 15 34).bind fun y6 =>
          cond ((!(!(!y6))) || true) (
          cond ((!(!(!y6))) || (decide (2 ≤ (b.size : Int)))) (
          (cond (!(!y6)) (interchangeref1_isLetters k (b.extract 0 2) false) (some false)).bind fun y7 =>
          cond ((!(!(cond (!y6) true (!y7)))) || true) (
          cond ((!(!(cond (!y6) true (!y7)))) || true) (
          cond ((!(!(cond (!y6) true (!y7)))) || (decide (4 ≤ (b.size : Int)))) (
          (cond (!(cond (!y6) true (!y7))) (interchangeref1_isDigits k (b.extract 2 4)) (some false)).bind fun y8 =>
          cond ((!(!(cond (cond (!y6) true (!y7)) true (!y8)))) || true) (
          cond ((!(!(cond (cond (!y6) true (!y7)) true (!y8)))) || (decide (4 ≤ (b.size : Int)))) (
          (cond (!(cond (cond (!y6) true (!y7)) true (!y8))) (interchangeref1_isLetters k (b.extract 4 b.size) true) (some false)).bind fun y9 =>
          cond (cond (cond (cond (!y6) true (!y7)) true (!y8)) true (!y9)) (
            some false) (
            cond (decide (4 ≤ (b.size : Int))) (
            cond ((!(!(ltS (b.extract 2 4) (bs [48, 50])))) || true) (
            cond ((!(!(ltS (b.extract 2 4) (bs [48, 50])))) || true) (
            cond ((!(!(ltS (b.extract 2 4) (bs [48, 50])))) || (decide (4 ≤ (b.size : Int)))) (
            cond ((!(cond (!(ltS (b.extract 2 4) (bs [48, 50]))) (ltS (b.extract 2 4) (bs [57, 56]) || eqS (b.extract 2 4) (bs [57, 56])) false)) || true) (
            cond ((!(cond (!(ltS (b.extract 2 4) (bs [48, 50]))) (ltS (b.extract 2 4) (bs [57, 56]) || eqS (b.extract 2 4) (bs [57, 56])) false)) || (decide (4 ≤ (b.size : Int)))) (
            cond ((!(cond (!(ltS (b.extract 2 4) (bs [48, 50]))) (ltS (b.extract 2 4) (bs [57, 56]) || eqS (b.extract 2 4) (bs [57, 56])) false)) || true) (
            cond ((!(cond (!(ltS (b.extract 2 4) (bs [48, 50]))) (ltS (b.extract 2 4) (bs [57, 56]) || eqS (b.extract 2 4) (bs [57, 56])) false)) || (decide (4 ≤ (b.size : Int)))) (
            cond ((!(cond (!(ltS (b.extract 2 4) (bs [48, 50]))) (ltS (b.extract 2 4) (bs [57, 56]) || eqS (b.extract 2 4) (bs [57, 56])) false)) || (decide ((b.extract 4 b.size).size + (b.extract 0 4).size ≤ 9223372036854775807))) (
            (cond (cond (!(ltS (b.extract 2 4) (bs [48, 50]))) (ltS (b.extract 2 4) (bs [57, 56]) || eqS (b.extract 2 4) (bs [57, 56])) false) (interchangeref1_values k ((b.extract 4 b.size) ++ (b.extract 0 4))) (some (bs []))).bind fun y10 =>
            (cond (cond (!(ltS (b.extract 2 4) (bs [48, 50]))) (ltS (b.extract 2 4) (bs [57, 56]) || eqS (b.extract 2 4) (bs [57, 56])) false) (interchangeref1_remainder k y10 97) (some 0)).bind fun y11 =>
            some (cond (cond (!(ltS (b.extract 2 4) (bs [48, 50]))) (ltS (b.extract 2 4) (bs [57, 56]) || eqS (b.extract 2 4) (bs [57, 56])) false) (y11 == 1) false)) none) none) none) none) none) none) none) none) none)) none) none) none) none) none) none) none) (
          (interchangeref1_isDigits k b).bind fun y12 =>
          cond ((!(cond y12 ((b.size : Int) == 11) false)) || true) (
          cond ((!(cond y12 ((b.size : Int) == 11) false)) || (decide (0 < (b.size : Int)))) (
          cond ((!(cond (cond y12 ((b.size : Int) == 11) false) ((bt b 0) != 48) false)) || true) (
          cond ((!(cond (cond y12 ((b.size : Int) == 11) false) ((bt b 0) != 48) false)) || (decide (10 < (b.size : Int)))) (
          (cond (cond (cond y12 ((b.size : Int) == 11) false) ((bt b 0) != 48) false) (interchangeref1_taxDigit k b) (some 0)).bind fun y13 =>
          some (cond (cond (cond y12 ((b.size : Int) == 11) false) ((bt b 0) != 48) false) ((bt b 10) == y13) false)) none) none) none) none)))) := by kernel_rfl
/-- interchange/interchangeref1.IsNumber -/
noncomputable def interchangeref1_IsNumber (k : Nat) (a : Int) (b : ByteArray) : Option (Bool × Int) := callA P A k 15 (a, b)
theorem interchangeref1_IsNumber_eq (k : Nat) (a : Int) (b : ByteArray) : interchangeref1_IsNumber (k + 1) a b =
  (interchangeref1_isKind k a).bind fun y0 =>
  cond (!y0) (
    some (false, 4)) (
    (interchangeref1_isNumber k a b).bind fun y1 =>
    some (y1, 0)) := by kernel_rfl
/-- interchange/kit.Outside -/
noncomputable def kit_Outside (k : Nat) (a : Int) (b : Int) (c : Int) : Option Bool := callA P A k 89 (a, b, c)
theorem kit_Outside_eq (k : Nat) (a : Int) (b : Int) (c : Int) : kit_Outside (k + 1) a b c =
  some (cond (decide (a < b)) true (decide (a > c))) := by kernel_rfl
/-- interchange/amount.isKind -/
noncomputable def amount_isKind (k : Nat) (a : Int) : Option Bool := callA P A k 77 a
theorem amount_isKind_eq (k : Nat) (a : Int) : amount_isKind (k + 1) a =
  (kit_Outside k a 1 5).bind fun y0 =>
  some (!y0) := by kernel_rfl
/-- interchange/kit.InBytes -/
noncomputable def kit_InBytes (k : Nat) (a : ByteArray) (b : Int) (c : Int) : Option Bool := callA P A k 177 (a, b, c)
noncomputable def kit_InBytes_c2 (k : Nat) (s0 : ByteArray) (s1 : Int) (s2 : Int) (s9 : Int) (s10 : Int) : Option Bool := cutA P A k 177 (todoAt P A 177 2) [(0, (.byv .str)), (1, (.byv (.int .u8))), (2, (.byv (.int .u8))), (9, (.byv (.int .i64))), (10, (.byv (.int .i64)))] (s0, s1, s2, s9, s10)
theorem kit_InBytes_eq (k : Nat) (a : ByteArray) (b : Int) (c : Int) : kit_InBytes (k + 1) a b c =
  kit_InBytes_c2 k a b c (a.size : Int) 0 := by kernel_rfl
theorem kit_InBytes_c2_eq (k : Nat) (s0 : ByteArray) (s1 : Int) (s2 : Int) (s9 : Int) (s10 : Int) : kit_InBytes_c2 (k + 1) s0 s1 s2 s9 s10 =
  cond (decide (s10 < s9)) (
    cond (decide (0 ≤ s10)) (
    cond (decide (s10 < (s0.size : Int))) (
    cond ((!(!(decide ((bt s0 s10) < s1)))) || (decide (0 ≤ s10))) (
    cond ((!(!(decide ((bt s0 s10) < s1)))) || (decide (s10 < (s0.size : Int)))) (
    cond (cond (decide ((bt s0 s10) < s1)) true (decide ((bt s0 s10) > s2))) (
      some false) (
      kit_InBytes_c2 k s0 s1 s2 s9 (wi64 (s10 + 1)))) none) none) none) none) (
    some true) := by kernel_rfl
/-- interchange/amount.isLetters -/
noncomputable def amount_isLetters (k : Nat) (a : ByteArray) : Option Bool := callA P A k 146 a
theorem amount_isLetters_eq (k : Nat) (a : ByteArray) : amount_isLetters (k + 1) a =
  (kit_InBytes k a 65 90).bind fun y0 =>
  some y0 := by kernel_rfl
/-- interchange/kit.IsDigits -/
noncomputable def kit_IsDigits (k : Nat) (a : ByteArray) : Option Bool := callA P A k 134 a
theorem kit_IsDigits_eq (k : Nat) (a : ByteArray) : kit_IsDigits (k + 1) a =
  (cond (!(eqS a (bs []))) (kit_InBytes k a 48 57) (some false)).bind fun y0 =>
  some (cond (!(eqS a (bs []))) y0 false) := by kernel_rfl
/-- strings.Trim -/
noncomputable def strings_Trim (k : Nat) (a : ByteArray) (b : ByteArray) : Option ByteArray := callA P A k 172 (a, b)
theorem strings_Trim_eq (k : Nat) (a : ByteArray) (b : ByteArray) : strings_Trim k a b = cond (decide (a.size ≤ 9223372036854775807) && decide (b.size < 4294967281) && b.data.toList.all fun x => decide (x.toNat < 128)) (some ⟨(Lib.trimS a.data.toList b.data.toList).toArray⟩) none := by kernel_rfl
/-- interchange/kit.IsTagPart -/
noncomputable def kit_IsTagPart (k : Nat) (a : ByteArray) : Option Bool := callA P A k 145 a
theorem kit_IsTagPart_eq (k : Nat) (a : ByteArray) : kit_IsTagPart (k + 1) a =
  (strings_Trim k a (bs [65, 66, 67, 68, 69, 70, 71, 72, 73, 74, 75, 76, 77, 78, 79, 80, 81, 82, 83, 84, 85, 86, 87, 88, 89, 90, 48, 49, 50, 51, 52, 53, 54, 55, 56, 57])).bind fun y0 =>
  some (eqS y0 (bs [])) := by kernel_rfl
/-- interchange/amount.isBody -/
noncomputable def amount_isBody (k : Nat) (a : ByteArray) : Option Bool := callA P A k 79 a
theorem amount_isBody_eq (k : Nat) (a : ByteArray) : amount_isBody (k + 1) a =
  (kit_IsTagPart k a).bind fun y0 =>
  some y0 := by kernel_rfl
/-- interchange/amount.bankRestOf -/
noncomputable def amount_bankRestOf (k : Nat) (a : ByteArray) : Option Int := callA P A k 80 a
noncomputable def amount_bankRestOf_c3 (k : Nat) (s3 : Int) (s11 : List Int) (s12 : Int) (s13 : Int) : Option Int := cutA P A k 80 (todoAt P A 80 3) [(3, (.byv (.int .i64))), (11, (.byv (.sl (.int .u8)))), (12, (.byv (.int .i64))), (13, (.byv (.int .i64)))] (s3, s11, s12, s13)
theorem amount_bankRestOf_eq (k : Nat) (a : ByteArray) : amount_bankRestOf (k + 1) a =
  cond (decide (4 ≤ (a.size : Int))) (
  cond (decide (4 ≤ (a.size : Int))) (
  cond (decide ((a.extract 4 a.size).size + (a.extract 0 4).size ≤ 9223372036854775807)) (
  amount_bankRestOf_c3 k 0 (byts ((a.extract 4 a.size) ++ (a.extract 0 4))) ((byts ((a.extract 4 a.size) ++ (a.extract 0 4))).length : Int) 0) none) none) none := by kernel_rfl
theorem amount_bankRestOf_c3_eq (k : Nat) (s3 : Int) (s11 : List Int) (s12 : Int) (s13 : Int) : amount_bankRestOf_c3 (k + 1) s3 s11 s12 s13 =
  cond (decide (s13 < s12)) (
    cond (decide (0 ≤ s13)) (
    cond (decide (s13 < (s11.length : Int))) (
    cond (decide ((s11.getD s13.toNat 0) ≥ 65)) (
      amount_bankRestOf_c3 k ((wi64 ((wi64 ((wi64 ((wi64 (s3 * 10)) * 10)) + (wi64 (wu8 ((s11.getD s13.toNat 0) - 65))))) + 10)).tmod 97) s11 s12 (wi64 (s13 + 1))) (
      amount_bankRestOf_c3 k ((wi64 ((wi64 (s3 * 10)) + (wi64 (wu8 ((s11.getD s13.toNat 0) - 48))))).tmod 97) s11 s12 (wi64 (s13 + 1)))) none) none) (
    some s3) := by kernel_rfl
/-- interchange/amount.isBank -/
noncomputable def amount_isBank (k : Nat) (a : ByteArray) : Option Bool := callA P A k 82 a
theorem amount_isBank_eq (k : Nat) (a : ByteArray) : amount_isBank (k + 1) a =
  cond ((!(!(cond (decide ((a.size : Int) < 15)) true (decide ((a.size : Int) > 34))))) || true) (
  cond ((!(!(cond (decide ((a.size : Int) < 15)) true (decide ((a.size : Int) > 34))))) || (decide (2 ≤ (a.size : Int)))) (
  (cond (!(cond (decide ((a.size : Int) < 15)) true (decide ((a.size : Int) > 34)))) (amount_isLetters k (a.extract 0 2)) (some false)).bind fun y0 =>
  cond ((!(!(cond (cond (decide ((a.size : Int) < 15)) true (decide ((a.size : Int) > 34))) true (!y0)))) || true) (
  cond ((!(!(cond (cond (decide ((a.size : Int) < 15)) true (decide ((a.size : Int) > 34))) true (!y0)))) || true) (
  cond ((!(!(cond (cond (decide ((a.size : Int) < 15)) true (decide ((a.size : Int) > 34))) true (!y0)))) || (decide (4 ≤ (a.size : Int)))) (
  (cond (!(cond (cond (decide ((a.size : Int) < 15)) true (decide ((a.size : Int) > 34))) true (!y0))) (kit_IsDigits k (a.extract 2 4)) (some false)).bind fun y1 =>
  cond ((!(!(cond (cond (cond (decide ((a.size : Int) < 15)) true (decide ((a.size : Int) > 34))) true (!y0)) true (!y1)))) || true) (
  cond ((!(!(cond (cond (cond (decide ((a.size : Int) < 15)) true (decide ((a.size : Int) > 34))) true (!y0)) true (!y1)))) || (decide (4 ≤ (a.size : Int)))) (
  (cond (!(cond (cond (cond (decide ((a.size : Int) < 15)) true (decide ((a.size : Int) > 34))) true (!y0)) true (!y1))) (amount_isBody k (a.extract 4 a.size)) (some false)).bind fun y2 =>
  cond (cond (cond (cond (cond (decide ((a.size : Int) < 15)) true (decide ((a.size : Int) > 34))) true (!y0)) true (!y1)) true (!y2)) (
    some false) (
    (amount_bankRestOf k a).bind fun y3 =>
    cond ((!(y3 == 1)) || true) (
    cond ((!(y3 == 1)) || true) (
    cond ((!(y3 == 1)) || (decide (4 ≤ (a.size : Int)))) (
    cond ((!(cond (y3 == 1) (!(ltS (a.extract 2 4) (bs [48, 50]))) false)) || true) (
    cond ((!(cond (y3 == 1) (!(ltS (a.extract 2 4) (bs [48, 50]))) false)) || true) (
    cond ((!(cond (y3 == 1) (!(ltS (a.extract 2 4) (bs [48, 50]))) false)) || (decide (4 ≤ (a.size : Int)))) (
    some (cond (cond (y3 == 1) (!(ltS (a.extract 2 4) (bs [48, 50]))) false) (ltS (a.extract 2 4) (bs [57, 56]) || eqS (a.extract 2 4) (bs [57, 56])) false)) none) none) none) none) none) none)) none) none) none) none) none) none) none := by kernel_rfl
/-- interchange/amount.taxDigit -/
noncomputable def amount_taxDigit (k : Nat) (a : ByteArray) : Option Int := callA P A k 178 a
noncomputable def amount_taxDigit_c3 (k : Nat) (s0 : ByteArray) (s3 : Int) (s7 : Int) (s8 : Int) : Option Int := cutA P A k 178 (todoAt P A 178 3) [(0, (.byv .str)), (3, (.byv (.int .i64))), (7, (.byv (.int .i64))), (8, (.byv (.int .i64)))] (s0, s3, s7, s8)
theorem amount_taxDigit_eq (k : Nat) (a : ByteArray) : amount_taxDigit (k + 1) a =
  amount_taxDigit_c3 k a 10 (a.size : Int) 0 := by kernel_rfl
theorem amount_taxDigit_c3_eq (k : Nat) (s0 : ByteArray) (s3 : Int) (s7 : Int) (s8 : Int) : amount_taxDigit_c3 (k + 1) s0 s3 s7 s8 =
  cond (decide (s8 < s7)) (
    cond (decide (0 ≤ s8)) (
    cond (decide (s8 < (s0.size : Int))) (
    cond (((wi64 ((wi64 (wu8 ((bt s0 s8) - 48))) + s3)).tmod 10) == 0) (
      amount_taxDigit_c3 k s0 9 s7 (wi64 (s8 + 1))) (
      amount_taxDigit_c3 k s0 ((wi64 (2 * ((wi64 ((wi64 (wu8 ((bt s0 s8) - 48))) + s3)).tmod 10))).tmod 11) s7 (wi64 (s8 + 1)))) none) none) (
    some (wu8 (48 + (wu8 ((wi64 (11 - s3)).tmod 10))))) := by kernel_rfl
/-- interchange/amount.isTax -/
noncomputable def amount_isTax (k : Nat) (a : ByteArray) : Option Bool := callA P A k 142 a
theorem amount_isTax_eq (k : Nat) (a : ByteArray) : amount_isTax (k + 1) a =
  (cond ((a.size : Int) == 11) (kit_IsDigits k a) (some false)).bind fun y0 =>
  cond ((!(cond ((a.size : Int) == 11) y0 false)) || true) (
  cond ((!(cond ((a.size : Int) == 11) y0 false)) || (decide (0 < (a.size : Int)))) (
  cond ((!(cond (cond ((a.size : Int) == 11) y0 false) ((bt a 0) != 48) false)) || true) (
  cond ((!(cond (cond ((a.size : Int) == 11) y0 false) ((bt a 0) != 48) false)) || (decide (10 ≤ (a.size : Int)))) (
  (cond (cond (cond ((a.size : Int) == 11) y0 false) ((bt a 0) != 48) false) (amount_taxDigit k (a.extract 0 10)) (some 0)).bind fun y1 =>
  cond ((!(cond (cond ((a.size : Int) == 11) y0 false) ((bt a 0) != 48) false)) || true) (
  cond ((!(cond (cond ((a.size : Int) == 11) y0 false) ((bt a 0) != 48) false)) || (decide (10 < (a.size : Int)))) (
  some (cond (cond (cond ((a.size : Int) == 11) y0 false) ((bt a 0) != 48) false) (y1 == (bt a 10)) false)) none) none) none) none) none) none := by kernel_rfl
/-- interchange/amount.lengths -/
noncomputable def amount_lengths (k : Nat) (a : Int) : Option (List Int) := callA P A k 143 a
theorem amount_lengths_eq (k : Nat) (a : Int) : amount_lengths (k + 1) a =
  cond (a == 1) (
    some ([8, 12, 13, 14])) (
    cond (a == 2) (
      some ([13])) (
      some ([18]))) := by kernel_rfl
/-- slices.Index[[]int,int] -/
noncomputable def slices_Index_Lint_int (k : Nat) (a : List Int) (b : Int) : Option Int := callA P A k 174 (a, b)
noncomputable def slices_Index_Lint_int_c2 (k : Nat) (s0 : List Int) (s1 : Int) (s7 : Int) (s8 : Int) : Option Int := cutA P A k 174 (todoAt P A 174 2) [(0, (.byv (.sl (.int .i64)))), (1, (.byv (.int .i64))), (7, (.byv (.int .i64))), (8, (.byv (.int .i64)))] (s0, s1, s7, s8)
theorem slices_Index_Lint_int_eq (k : Nat) (a : List Int) (b : Int) : slices_Index_Lint_int (k + 1) a b =
  slices_Index_Lint_int_c2 k a b (a.length : Int) 0 := by kernel_rfl
theorem slices_Index_Lint_int_c2_eq (k : Nat) (s0 : List Int) (s1 : Int) (s7 : Int) (s8 : Int) : slices_Index_Lint_int_c2 (k + 1) s0 s1 s7 s8 =
  cond (decide (s8 < s7)) (
    cond (decide (0 ≤ s8)) (
    cond (decide (s8 < (s0.length : Int))) (
    cond (s1 == (s0.getD s8.toNat 0)) (
      some s8) (
      slices_Index_Lint_int_c2 k s0 s1 s7 (wi64 (s8 + 1)))) none) none) (
    some (-1)) := by kernel_rfl
/-- slices.Contains[[]int,int] -/
noncomputable def slices_Contains_Lint_int (k : Nat) (a : List Int) (b : Int) : Option Bool := callA P A k 123 (a, b)
theorem slices_Contains_Lint_int_eq (k : Nat) (a : List Int) (b : Int) : slices_Contains_Lint_int (k + 1) a b =
  (slices_Index_Lint_int k a b).bind fun y0 =>
  some (decide (y0 ≥ 0)) := by kernel_rfl
/-- interchange/amount.isSum -/
noncomputable def amount_isSum (k : Nat) (a : ByteArray) : Option Bool := callA P A k 144 a
noncomputable def amount_isSum_c3 (k : Nat) (s0 : ByteArray) (s3 : Int) (s7 : Int) (s8 : Int) : Option Bool := cutA P A k 144 (todoAt P A 144 3) [(0, (.byv .str)), (3, (.byv (.int .i64))), (7, (.byv (.int .i64))), (8, (.byv (.int .i64)))] (s0, s3, s7, s8)
theorem amount_isSum_eq (k : Nat) (a : ByteArray) : amount_isSum (k + 1) a =
  amount_isSum_c3 k a 0 (a.size : Int) 0 := by kernel_rfl
theorem amount_isSum_c3_eq (k : Nat) (s0 : ByteArray) (s3 : Int) (s7 : Int) (s8 : Int) : amount_isSum_c3 (k + 1) s0 s3 s7 s8 =
  cond (decide (s8 < s7)) (
    cond (decide (0 ≤ (wi64 ((wi64 ((s0.size : Int) - 1)) - s8)))) (
    cond (decide ((wi64 ((wi64 ((s0.size : Int) - 1)) - s8)) < (s0.size : Int))) (
    cond ((s8.tmod 2) == 1) (
      amount_isSum_c3 k s0 (wi64 (s3 + (wi64 ((wi64 (wu8 ((bt s0 (wi64 ((wi64 ((s0.size : Int) - 1)) - s8))) - 48))) * 3)))) s7 (wi64 (s8 + 1))) (
      amount_isSum_c3 k s0 (wi64 (s3 + (wi64 (wu8 ((bt s0 (wi64 ((wi64 ((s0.size : Int) - 1)) - s8))) - 48))))) s7 (wi64 (s8 + 1)))) none) none) (
    some ((s3.tmod 10) == 0)) := by kernel_rfl
/-- interchange/amount.isNumber -/
noncomputable def amount_isNumber (k : Nat) (a : Int) (b : ByteArray) : Option Bool := callA P A k 78 (a, b)
theorem amount_isNumber_eq (k : Nat) (a : Int) (b : ByteArray) : amount_isNumber (k + 1) a b =
  cond (a == 4) (
    (amount_isBank k b).bind fun y0 =>
    some y0) (
    cond (a == 5) (
      (amount_isTax k b).bind fun y1 =>
      some y1) (
      (amount_lengths k a).bind fun y2 =>
      (slices_Contains_Lint_int k y2 (b.size : Int)).bind fun y3 =>
      (cond y3 (kit_IsDigits k b) (some false)).bind fun y4 =>
      (cond (cond y3 y4 false) (amount_isSum k b) (some false)).bind fun y5 =>
      some (cond (cond y3 y4 false) y5 false))) := by kernel_rfl
/-- interchange/amount.IsNumber -/
noncomputable def amount_IsNumber (k : Nat) (a : Int) (b : ByteArray) : Option (Bool × Int) := callA P A k 16 (a, b)
theorem amount_IsNumber_eq (k : Nat) (a : Int) (b : ByteArray) : amount_IsNumber (k + 1) a b =
  (amount_isKind k a).bind fun y0 =>
  cond (!y0) (
    some (false, 4)) (
    (amount_isNumber k a b).bind fun y1 =>
    some (y1, 0)) := by kernel_rfl
/-- interchange/interchangeref1.Completed -/
noncomputable def interchangeref1_Completed (k : Nat) (a : Int) (b : ByteArray) : Option (ByteArray × Int) := callA P A k 17 (a, b)
noncomputable def interchangeref1_Completed_c6 (k : Nat) (s0 : Int) (s1 : ByteArray) (s18 : Int) : Option (ByteArray × Int) := cutA P A k 17 (todoAt P A 17 6) [(0, (.byv (.int .i64))), (1, (.byv .str)), (18, (.byv (.int .i64)))] (s0, s1, s18)
theorem interchangeref1_Completed_eq (k : Nat) (a : Int) (b : ByteArray) : interchangeref1_Completed (k + 1) a b =
  (interchangeref1_isKind k a).bind fun y0 =>
  cond (!y0) (
    some ((bs []), 4)) (
    cond (cond (a == 4) (decide ((b.size : Int) < 2)) false) (
      some ((bs []), 3)) (
      interchangeref1_Completed_c6 k a b 0)) := by kernel_rfl
theorem interchangeref1_Completed_c6_eq (k : Nat) (s0 : Int) (s1 : ByteArray) (s18 : Int) : interchangeref1_Completed_c6 (k + 1) s0 s1 s18 =
  cond (decide (s18 < 100)) (
    cond (decide (s1.size + (Utf8.encode (wi32 (wi64 (48 + (s18.tmod 10))))).size ≤ 9223372036854775807)) (
    cond (s0 == 4) (
      cond (decide (2 ≤ (s1.size : Int))) (
      cond (decide ((s1.extract 0 2).size + (Utf8.encode (wi32 (wi64 (48 + (wi64 (s18.tdiv 10)))))).size ≤ 9223372036854775807)) (
      cond (decide (((s1.extract 0 2) ++ (Utf8.encode (wi32 (wi64 (48 + (wi64 (s18.tdiv 10))))))).size + (Utf8.encode (wi32 (wi64 (48 + (s18.tmod 10))))).size ≤ 9223372036854775807)) (
      cond (decide (2 ≤ (s1.size : Int))) (
      cond (decide ((((s1.extract 0 2) ++ (Utf8.encode (wi32 (wi64 (48 + (wi64 (s18.tdiv 10))))))) ++ (Utf8.encode (wi32 (wi64 (48 + (s18.tmod 10)))))).size + (s1.extract 2 s1.size).size ≤ 9223372036854775807)) (
      (interchangeref1_isNumber k s0 ((((s1.extract 0 2) ++ (Utf8.encode (wi32 (wi64 (48 + (wi64 (s18.tdiv 10))))))) ++ (Utf8.encode (wi32 (wi64 (48 + (s18.tmod 10)))))) ++ (s1.extract 2 s1.size))).bind fun y1 =>
      cond y1 (
        some (((((s1.extract 0 2) ++ (Utf8.encode (wi32 (wi64 (48 + (wi64 (s18.tdiv 10))))))) ++ (Utf8.encode (wi32 (wi64 (48 + (s18.tmod 10)))))) ++ (s1.extract 2 s1.size)), 0)) (
        interchangeref1_Completed_c6 k s0 s1 (wi64 (s18 + 1)))) none) none) none) none) none) (
      (interchangeref1_isNumber k s0 (s1 ++ (Utf8.encode (wi32 (wi64 (48 + (s18.tmod 10))))))).bind fun y2 =>
      cond y2 (
        some ((s1 ++ (Utf8.encode (wi32 (wi64 (48 + (s18.tmod 10)))))), 0)) (
        interchangeref1_Completed_c6 k s0 s1 (wi64 (s18 + 1))))) none) (
    some ((bs []), 3)) := by kernel_rfl
/-- strconv.Itoa -/
noncomputable def strconv_Itoa (k : Nat) (a : Int) : Option ByteArray := callA P A k 83 a
theorem strconv_Itoa_eq (k : Nat) (a : Int) : strconv_Itoa k a = cond (decide (-9223372036854775808 ≤ a) && decide (a ≤ 9223372036854775807)) (some ⟨(Lib.itoa a).toArray⟩) none := by kernel_rfl
/-- strings.Repeat -/
noncomputable def strings_Repeat (k : Nat) (a : ByteArray) (b : Int) : Option ByteArray := callA P A k 84 (a, b)
theorem strings_Repeat_eq (k : Nat) (a : ByteArray) (b : Int) : strings_Repeat k a b = cond (decide (0 ≤ b) && decide (b ≤ 9223372036854775807) && decide (a.size * b.toNat ≤ 140737488355328)) (some ⟨(Lib.repeatL a.data.toList b.toNat).toArray⟩) none := by kernel_rfl
/-- interchange/amount.padded -/
noncomputable def amount_padded (k : Nat) (a : Int) (b : Int) : Option ByteArray := callA P A k 81 (a, b)
theorem amount_padded_eq (k : Nat) (a : Int) (b : Int) : amount_padded (k + 1) a b =
  (strconv_Itoa k a).bind fun y0 =>
  (strings_Repeat k (bs [48]) (wi64 (b - (y0.size : Int)))).bind fun y1 =>
  cond (decide (y1.size + y0.size ≤ 9223372036854775807)) (
  some (y1 ++ y0)) none := by kernel_rfl
/-- interchange/amount.Completed -/
noncomputable def amount_Completed (k : Nat) (a : Int) (b : ByteArray) : Option (ByteArray × Int) := callA P A k 18 (a, b)
noncomputable def amount_Completed_c16 (k : Nat) (s0 : Int) (s1 : ByteArray) (s49 : Int) : Option (ByteArray × Int) := cutA P A k 18 (todoAt P A 18 16) [(0, (.byv (.int .i64))), (1, (.byv .str)), (49, (.byv (.int .i64)))] (s0, s1, s49)
theorem amount_Completed_eq (k : Nat) (a : Int) (b : ByteArray) : amount_Completed (k + 1) a b =
  (amount_isKind k a).bind fun y0 =>
  cond (!y0) (
    some ((bs []), 4)) (
    cond (decide ((b.size : Int) > 34)) (
      some ((bs []), 3)) (
      cond (a == 4) (
        (cond (!(decide ((b.size : Int) < 2))) (amount_isBody k b) (some false)).bind fun y1 =>
        cond (cond (decide ((b.size : Int) < 2)) true (!y1)) (
          some ((bs []), 3)) (
          cond (decide ((b.size : Int) < 13)) (
            some ((bs []), 3)) (
            cond (decide (2 ≤ (b.size : Int))) (
            cond (decide ((b.extract 0 2).size + 2 ≤ 9223372036854775807)) (
            cond (decide (2 ≤ (b.size : Int))) (
            cond (decide (((b.extract 0 2) ++ (bs [48, 48])).size + (b.extract 2 b.size).size ≤ 9223372036854775807)) (
            (amount_bankRestOf k (((b.extract 0 2) ++ (bs [48, 48])) ++ (b.extract 2 b.size))).bind fun y2 =>
            cond (decide (2 ≤ (b.size : Int))) (
            (amount_padded k (wi64 (98 - y2)) 2).bind fun y3 =>
            cond (decide ((b.extract 0 2).size + y3.size ≤ 9223372036854775807)) (
            cond (decide (2 ≤ (b.size : Int))) (
            cond (decide (((b.extract 0 2) ++ y3).size + (b.extract 2 b.size).size ≤ 9223372036854775807)) (
            (amount_isBank k (((b.extract 0 2) ++ y3) ++ (b.extract 2 b.size))).bind fun y4 =>
            cond (!y4) (
              some ((bs []), 3)) (
              some ((((b.extract 0 2) ++ y3) ++ (b.extract 2 b.size)), 0))) none) none) none) none) none) none) none) none))) (
        amount_Completed_c16 k a b 0))) := by kernel_rfl
theorem amount_Completed_c16_eq (k : Nat) (s0 : Int) (s1 : ByteArray) (s49 : Int) : amount_Completed_c16 (k + 1) s0 s1 s49 =
  cond (decide (s49 < 10)) (
    (strconv_Itoa k s49).bind fun y5 =>
    cond (decide (s1.size + y5.size ≤ 9223372036854775807)) (
    (amount_isNumber k s0 (s1 ++ y5)).bind fun y6 =>
    cond y6 (
      some ((s1 ++ y5), 0)) (
      amount_Completed_c16 k s0 s1 (wi64 (s49 + 1)))) none) (
    some ((bs []), 3)) := by kernel_rfl
/-- interchange/interchangeref1.Widened -/
noncomputable def interchangeref1_Widened (k : Nat) (a : ByteArray) : Option (ByteArray × Int) := callA P A k 19 a
theorem interchangeref1_Widened_eq (k : Nat) (a : ByteArray) : interchangeref1_Widened (k + 1) a =
  (interchangeref1_isNumber k 1 a).bind fun y0 =>
  cond (!y0) (
    some ((bs []), 3)) (
    (strings_Repeat k (bs [48]) (wi64 (14 - (a.size : Int)))).bind fun y1 =>
    cond (decide (y1.size + a.size ≤ 9223372036854775807)) (
    some ((y1 ++ a), 0)) none) := by kernel_rfl
/-- interchange/amount.Widened -/
noncomputable def amount_Widened (k : Nat) (a : ByteArray) : Option (ByteArray × Int) := callA P A k 20 a
theorem amount_Widened_eq (k : Nat) (a : ByteArray) : amount_Widened (k + 1) a =
  (amount_isNumber k 1 a).bind fun y0 =>
  cond (!y0) (
    some ((bs []), 3)) (
    (strings_Repeat k (bs [48]) (wi64 (14 - (a.size : Int)))).bind fun y1 =>
    cond (decide (y1.size + a.size ≤ 9223372036854775807)) (
    some ((y1 ++ a), 0)) none) := by kernel_rfl
/-- internal/stringslite.HasPrefix -/
noncomputable def stringslite_HasPrefix (k : Nat) (a : ByteArray) (b : ByteArray) : Option Bool := callA P A k 182 (a, b)
theorem stringslite_HasPrefix_eq (k : Nat) (a : ByteArray) (b : ByteArray) : stringslite_HasPrefix (k + 1) a b =
  cond ((!(decide ((a.size : Int) ≥ (b.size : Int)))) || (decide (0 ≤ (b.size : Int)))) (
  cond ((!(decide ((a.size : Int) ≥ (b.size : Int)))) || (decide ((b.size : Int) ≤ (a.size : Int)))) (
  some (cond (decide ((a.size : Int) ≥ (b.size : Int))) (eqS (a.extract 0 (b.size : Int).toNat) b) false)) none) none := by kernel_rfl
/-- internal/stringslite.CutPrefix -/
noncomputable def stringslite_CutPrefix (k : Nat) (a : ByteArray) (b : ByteArray) : Option (ByteArray × Bool) := callA P A k 175 (a, b)
theorem stringslite_CutPrefix_eq (k : Nat) (a : ByteArray) (b : ByteArray) : stringslite_CutPrefix (k + 1) a b =
  (stringslite_HasPrefix k a b).bind fun y0 =>
  cond (!y0) (
    some (a, false)) (
    cond (decide (0 ≤ (b.size : Int))) (
    cond (decide ((b.size : Int) ≤ (a.size : Int))) (
    some ((a.extract (b.size : Int).toNat a.size), true)) none) none) := by kernel_rfl
/-- strings.CutPrefix -/
noncomputable def strings_CutPrefix (k : Nat) (a : ByteArray) (b : ByteArray) : Option (ByteArray × Bool) := callA P A k 131 (a, b)
theorem strings_CutPrefix_eq (k : Nat) (a : ByteArray) (b : ByteArray) : strings_CutPrefix (k + 1) a b =
  (stringslite_CutPrefix k a b).bind fun y0 =>
  some y0 := by kernel_rfl
/-- internal/stringslite.IndexByte -/
noncomputable def stringslite_IndexByte (k : Nat) (a : ByteArray) (b : Int) : Option Int := callA P A k 219 (a, b)
theorem stringslite_IndexByte_eq (k : Nat) (a : ByteArray) (b : Int) : stringslite_IndexByte k a b = some (Lib.indexByte a.data.toList b.toNat.toUInt8) := by kernel_rfl
/-- internal/stringslite.Index -/
noncomputable def stringslite_Index (k : Nat) (a : ByteArray) (b : ByteArray) : Option Int := callA P A k 202 (a, b)
theorem stringslite_Index_eq (k : Nat) (a : ByteArray) (b : ByteArray) : stringslite_Index (k + 1) a b =
  cond (cond ((b.size : Int) == 0) true (eqS b a)) (
    some 0) (
    cond ((b.size : Int) == 1) (
      cond (decide (0 < (b.size : Int))) (
      (stringslite_IndexByte k a (bt b 0)).bind fun y0 =>
      some y0) none) (
      cond (decide ((b.size : Int) ≥ (a.size : Int))) (
        some (-1)) (
        none))) := by kernel_rfl
/-- internal/stringslite.Cut -/
noncomputable def stringslite_Cut (k : Nat) (a : ByteArray) (b : ByteArray) : Option (ByteArray × ByteArray × Bool) := callA P A k 176 (a, b)
theorem stringslite_Cut_eq (k : Nat) (a : ByteArray) (b : ByteArray) : stringslite_Cut (k + 1) a b =
  (stringslite_Index k a b).bind fun y0 =>
  cond (decide (y0 ≥ 0)) (
    cond (decide (0 ≤ y0)) (
    cond (decide (y0 ≤ (a.size : Int))) (
    cond (decide (0 ≤ (wi64 (y0 + (b.size : Int))))) (
    cond (decide ((wi64 (y0 + (b.size : Int))) ≤ (a.size : Int))) (
    some ((a.extract 0 y0.toNat), ((a.extract (wi64 (y0 + (b.size : Int))).toNat a.size), true))) none) none) none) none) (
    some (a, ((bs []), false))) := by kernel_rfl
/-- strings.Cut -/
noncomputable def strings_Cut (k : Nat) (a : ByteArray) (b : ByteArray) : Option (ByteArray × ByteArray × Bool) := callA P A k 132 (a, b)
theorem strings_Cut_eq (k : Nat) (a : ByteArray) (b : ByteArray) : strings_Cut (k + 1) a b =
  (stringslite_Cut k a b).bind fun y0 =>
  some y0 := by kernel_rfl
/-- interchange/amount.isWhole -/
noncomputable def amount_isWhole (k : Nat) (a : ByteArray) : Option Bool := callA P A k 133 a
theorem amount_isWhole_eq (k : Nat) (a : ByteArray) : amount_isWhole (k + 1) a =
  (kit_IsDigits k a).bind fun y0 =>
  cond ((!(y0 && (!((a.size : Int) == 1)))) || true) (
  cond ((!(y0 && (!((a.size : Int) == 1)))) || (decide (0 < (a.size : Int)))) (
  some (cond y0 (cond ((a.size : Int) == 1) true ((bt a 0) != 48)) false)) none) none := by kernel_rfl
/-- interchange/whole.trimmed -/
noncomputable def whole_trimmed (k : Nat) (a : List Int) : Option (List Int) := callA P A k 167 a
noncomputable def whole_trimmed_c1 (k : Nat) (s0 : List Int) : Option (List Int) := cutA P A k 167 (todoAt P A 167 1) [(0, (.byv (.sl (.int .u32))))] s0
theorem whole_trimmed_eq (k : Nat) (a : List Int) : whole_trimmed (k + 1) a =
  whole_trimmed_c1 k a := by kernel_rfl
theorem whole_trimmed_c1_eq (k : Nat) (s0 : List Int) : whole_trimmed_c1 (k + 1) s0 =
  cond ((!(decide ((s0.length : Int) > 0))) || (decide (0 ≤ (wi64 ((s0.length : Int) - 1))))) (
  cond ((!(decide ((s0.length : Int) > 0))) || (decide ((wi64 ((s0.length : Int) - 1)) < (s0.length : Int)))) (
  cond (cond (decide ((s0.length : Int) > 0)) ((s0.getD (wi64 ((s0.length : Int) - 1)).toNat 0) == 0) false) (
    cond (decide (0 ≤ (wi64 ((s0.length : Int) - 1)))) (
    cond (decide ((wi64 ((s0.length : Int) - 1)) ≤ (s0.length : Int))) (
    whole_trimmed_c1 k (s0.take (wi64 ((s0.length : Int) - 1)).toNat)) none) none) (
    some s0)) none) none := by kernel_rfl
/-- interchange/whole.made -/
noncomputable def whole_made (k : Nat) (a : Bool) (b : List Int) : Option (Bool × List Int) := callA P A k 127 (a, b)
theorem whole_made_eq (k : Nat) (a : Bool) (b : List Int) : whole_made (k + 1) a b =
  (whole_trimmed k b).bind fun y0 =>
  some ((cond a (decide ((y0.length : Int) > 0)) false), y0) := by kernel_rfl
/-- interchange/whole.Of -/
noncomputable def whole_Of (k : Nat) (a : Int) : Option (Bool × List Int) := callA P A k 69 a
theorem whole_Of_eq (k : Nat) (a : Int) : whole_Of (k + 1) a =
  cond (decide (a < 0)) (
    (whole_made k (decide (a < 0)) [(wu32 (wu64 (0 - (wu64 a)))), (wu32 (shrI .u64 (wu64 (0 - (wu64 a))) 32))]).bind fun y0 =>
    some y0) (
    (whole_made k (decide (a < 0)) [(wu32 (wu64 a)), (wu32 (shrI .u64 (wu64 a) 32))]).bind fun y1 =>
    some y1) := by kernel_rfl
/-- (interchange/whole.Int).Times -/
noncomputable def whole_Int_Times (k : Nat) (a : Bool × List Int) (b : Bool × List Int) : Option (Bool × List Int) := callA P A k 70 (a, b)
noncomputable def whole_Int_Times_c3 (k : Nat) (s2 : Bool × List Int) (s3 : Bool × List Int) (s4 : Bool × List Int) (s5 : List Int) (s20 : List Int) (s21 : Int) (s22 : Int) : Option (Bool × List Int) := cutA P A k 70 (todoAt P A 70 3) [(2, (.box 86 [(.byv .bool), (.byv (.sl (.int .u32)))])), (3, (.box 86 [(.byv .bool), (.byv (.sl (.int .u32)))])), (4, (.box 86 [(.byv .bool), (.own 143 (.int .u32))])), (5, (.own 143 (.int .u32))), (20, (.byv (.sl (.int .u32)))), (21, (.byv (.int .i64))), (22, (.byv (.int .i64)))] (s2, s3, s4, s5, s20, s21, s22)
noncomputable def whole_Int_Times_c7 (k : Nat) (s2 : Bool × List Int) (s3 : Bool × List Int) (s4 : Bool × List Int) (s5 : List Int) (s6 : Int) (s7 : Int) (s8 : Int) (s20 : List Int) (s21 : Int) (s22 : Int) (s28 : List Int) (s29 : Int) (s30 : Int) : Option (Bool × List Int) := cutA P A k 70 (todoAt P A 70 7) [(2, (.box 86 [(.byv .bool), (.byv (.sl (.int .u32)))])), (3, (.box 86 [(.byv .bool), (.byv (.sl (.int .u32)))])), (4, (.box 86 [(.byv .bool), (.own 143 (.int .u32))])), (5, (.own 143 (.int .u32))), (6, (.byv (.int .i64))), (7, (.byv (.int .u32))), (8, (.byv (.int .u64))), (20, (.byv (.sl (.int .u32)))), (21, (.byv (.int .i64))), (22, (.byv (.int .i64))), (28, (.byv (.sl (.int .u32)))), (29, (.byv (.int .i64))), (30, (.byv (.int .i64)))] (s2, s3, s4, s5, s6, s7, s8, s20, s21, s22, s28, s29, s30)
theorem whole_Int_Times_eq (k : Nat) (a : Bool × List Int) (b : Bool × List Int) : whole_Int_Times (k + 1) a b =
  cond (decide (0 ≤ (wi64 ((a.2.length : Int) + (b.2.length : Int))))) (
  cond (decide ((wi64 ((a.2.length : Int) + (b.2.length : Int))).toNat ≤ 35184372088832)) (
  whole_Int_Times_c3 k a b (false, []) (List.replicate (wi64 ((a.2.length : Int) + (b.2.length : Int))).toNat 0) a.2 (a.2.length : Int) 0) none) none := by kernel_rfl
theorem whole_Int_Times_c3_eq (k : Nat) (s2 : Bool × List Int) (s3 : Bool × List Int) (s4 : Bool × List Int) (s5 : List Int) (s20 : List Int) (s21 : Int) (s22 : Int) : whole_Int_Times_c3 (k + 1) s2 s3 s4 s5 s20 s21 s22 =
  cond (decide (s22 < s21)) (
    cond (decide (0 ≤ s22)) (
    cond (decide (s22 < (s20.length : Int))) (
    whole_Int_Times_c7 k s2 s3 s4 s5 s22 (s20.getD s22.toNat 0) 0 s20 s21 s22 s3.2 (s3.2.length : Int) 0) none) none) (
    (whole_made k (!(s2.1 == s3.1)) s5).bind fun y0 =>
    some y0) := by kernel_rfl
theorem whole_Int_Times_c7_eq (k : Nat) (s2 : Bool × List Int) (s3 : Bool × List Int) (s4 : Bool × List Int) (s5 : List Int) (s6 : Int) (s7 : Int) (s8 : Int) (s20 : List Int) (s21 : Int) (s22 : Int) (s28 : List Int) (s29 : Int) (s30 : Int) : whole_Int_Times_c7 (k + 1) s2 s3 s4 s5 s6 s7 s8 s20 s21 s22 s28 s29 s30 =
  cond (decide (s30 < s29)) (
    cond (decide (0 ≤ s30)) (
    cond (decide (s30 < (s28.length : Int))) (
    cond (decide (0 ≤ (wi64 (s6 + s30)))) (
    cond (decide ((wi64 (s6 + s30)) < (s5.length : Int))) (
    cond (decide (0 ≤ (wi64 (s6 + s30)))) (
    cond (decide ((wi64 (s6 + s30)) < (s5.length : Int))) (
    whole_Int_Times_c7 k s2 s3 s4 (s5.set (wi64 (s6 + s30)).toNat (wu32 (wu64 (s8 + (wu64 ((wu64 (s5.getD (wi64 (s6 + s30)).toNat 0)) + (wu64 ((wu64 s7) * (wu64 (s28.getD s30.toNat 0)))))))))) s6 s7 (shrI .u64 (wu64 (s8 + (wu64 ((wu64 (s5.getD (wi64 (s6 + s30)).toNat 0)) + (wu64 ((wu64 s7) * (wu64 (s28.getD s30.toNat 0)))))))) 32) s20 s21 s22 s28 s29 (wi64 (s30 + 1))) none) none) none) none) none) none) (
    cond (decide (0 ≤ (wi64 (s6 + (s3.2.length : Int))))) (
    cond (decide ((wi64 (s6 + (s3.2.length : Int))) < (s5.length : Int))) (
    whole_Int_Times_c3 k s2 s3 s4 (s5.set (wi64 (s6 + (s3.2.length : Int))).toNat (wu32 s8)) s20 s21 (wi64 (s22 + 1))) none) none) := by kernel_rfl
/-- interchange/whole.sum -/
noncomputable def whole_sum (k : Nat) (a : List Int) (b : List Int) : Option (List Int) := callA P A k 164 (a, b)
noncomputable def whole_sum_c3 (k : Nat) (s0 : List Int) (s1 : List Int) : Option (List Int) := cutA P A k 164 (todoAt P A 164 3) [(0, (.byv (.sl (.int .u32)))), (1, (.byv (.sl (.int .u32))))] (s0, s1)
noncomputable def whole_sum_c6 (k : Nat) (s1 : List Int) (s5 : List Int) (s6 : Int) (s20 : List Int) (s21 : Int) (s22 : Int) : Option (List Int) := cutA P A k 164 (todoAt P A 164 6) [(1, (.byv (.sl (.int .u32)))), (5, (.own 143 (.int .u32))), (6, (.byv (.int .u64))), (20, (.byv (.sl (.int .u32)))), (21, (.byv (.int .i64))), (22, (.byv (.int .i64)))] (s1, s5, s6, s20, s21, s22)
theorem whole_sum_eq (k : Nat) (a : List Int) (b : List Int) : whole_sum (k + 1) a b =
  cond (decide ((a.length : Int) < (b.length : Int))) (
    whole_sum_c3 k b a) (
    whole_sum_c3 k a b) := by kernel_rfl
theorem whole_sum_c3_eq (k : Nat) (s0 : List Int) (s1 : List Int) : whole_sum_c3 (k + 1) s0 s1 =
  cond (decide (0 ≤ (wi64 ((s0.length : Int) + 1)))) (
  cond (decide ((wi64 ((s0.length : Int) + 1)).toNat ≤ 35184372088832)) (
  whole_sum_c6 k s1 (List.replicate 0 0) 0 s0 (s0.length : Int) 0) none) none := by kernel_rfl
theorem whole_sum_c6_eq (k : Nat) (s1 : List Int) (s5 : List Int) (s6 : Int) (s20 : List Int) (s21 : Int) (s22 : Int) : whole_sum_c6 (k + 1) s1 s5 s6 s20 s21 s22 =
  cond (decide (s22 < s21)) (
    cond (decide (0 ≤ s22)) (
    cond (decide (s22 < (s20.length : Int))) (
    cond (decide (s22 < (s1.length : Int))) (
      cond (decide (0 ≤ s22)) (
      cond (decide (s22 < (s1.length : Int))) (
      cond (decide (s5.length + 1 < 35184372088832)) (
      whole_sum_c6 k s1 (s5 ++ [(wu32 (wu64 ((wu64 (s6 + (wu64 (s20.getD s22.toNat 0)))) + (wu64 (s1.getD s22.toNat 0)))))]) (shrI .u64 (wu64 ((wu64 (s6 + (wu64 (s20.getD s22.toNat 0)))) + (wu64 (s1.getD s22.toNat 0)))) 32) s20 s21 (wi64 (s22 + 1))) none) none) none) (
      cond (decide (s5.length + 1 < 35184372088832)) (
      whole_sum_c6 k s1 (s5 ++ [(wu32 (wu64 (s6 + (wu64 (s20.getD s22.toNat 0)))))]) (shrI .u64 (wu64 (s6 + (wu64 (s20.getD s22.toNat 0)))) 32) s20 s21 (wi64 (s22 + 1))) none)) none) none) (
    cond (decide (s5.length + 1 < 35184372088832)) (
    some (s5 ++ [(wu32 s6)])) none) := by kernel_rfl
/-- interchange/whole.compare -/
noncomputable def whole_compare (k : Nat) (a : List Int) (b : List Int) : Option Int := callA P A k 165 (a, b)
noncomputable def whole_compare_c4 (k : Nat) (s0 : List Int) (s1 : List Int) (s5 : Int) : Option Int := cutA P A k 165 (todoAt P A 165 4) [(0, (.byv (.sl (.int .u32)))), (1, (.byv (.sl (.int .u32)))), (5, (.byv (.int .i64)))] (s0, s1, s5)
theorem whole_compare_eq (k : Nat) (a : List Int) (b : List Int) : whole_compare (k + 1) a b =
  cond ((a.length : Int) != (b.length : Int)) (
    some (wi64 ((a.length : Int) - (b.length : Int)))) (
    whole_compare_c4 k a b (wi64 ((a.length : Int) - 1))) := by kernel_rfl
theorem whole_compare_c4_eq (k : Nat) (s0 : List Int) (s1 : List Int) (s5 : Int) : whole_compare_c4 (k + 1) s0 s1 s5 =
  cond (decide (s5 ≥ 0)) (
    cond (decide (0 ≤ s5)) (
    cond (decide (s5 < (s0.length : Int))) (
    cond (decide (0 ≤ s5)) (
    cond (decide (s5 < (s1.length : Int))) (
    cond ((s0.getD s5.toNat 0) != (s1.getD s5.toNat 0)) (
      cond (decide (0 ≤ s5)) (
      cond (decide (s5 < (s0.length : Int))) (
      cond (decide (0 ≤ s5)) (
      cond (decide (s5 < (s1.length : Int))) (
      cond (decide ((s0.getD s5.toNat 0) < (s1.getD s5.toNat 0))) (
        some (-1)) (
        some 1)) none) none) none) none) (
      whole_compare_c4 k s0 s1 (wi64 (s5 - 1)))) none) none) none) none) (
    some 0) := by kernel_rfl
/-- interchange/whole.less -/
noncomputable def whole_less (k : Nat) (a : List Int) (b : List Int) : Option (List Int) := callA P A k 166 (a, b)
noncomputable def whole_less_c4 (k : Nat) (s1 : List Int) (s5 : List Int) (s6 : Int) (s13 : List Int) (s14 : Int) (s15 : Int) : Option (List Int) := cutA P A k 166 (todoAt P A 166 4) [(1, (.byv (.sl (.int .u32)))), (5, (.own 143 (.int .u32))), (6, (.byv (.int .u64))), (13, (.byv (.sl (.int .u32)))), (14, (.byv (.int .i64))), (15, (.byv (.int .i64)))] (s1, s5, s6, s13, s14, s15)
theorem whole_less_eq (k : Nat) (a : List Int) (b : List Int) : whole_less (k + 1) a b =
  cond (decide (0 ≤ (a.length : Int))) (
  cond (decide ((a.length : Int).toNat ≤ 35184372088832)) (
  whole_less_c4 k b (List.replicate 0 0) 0 a (a.length : Int) 0) none) none := by kernel_rfl
theorem whole_less_c4_eq (k : Nat) (s1 : List Int) (s5 : List Int) (s6 : Int) (s13 : List Int) (s14 : Int) (s15 : Int) : whole_less_c4 (k + 1) s1 s5 s6 s13 s14 s15 =
  cond (decide (s15 < s14)) (
    cond (decide (0 ≤ s15)) (
    cond (decide (s15 < (s13.length : Int))) (
    cond (decide (s15 < (s1.length : Int))) (
      cond (decide (0 ≤ s15)) (
      cond (decide (s15 < (s1.length : Int))) (
      cond (decide (s5.length + 1 < 35184372088832)) (
      whole_less_c4 k s1 (s5 ++ [(wu32 (wu64 ((wu64 ((wu64 (s13.getD s15.toNat 0)) - s6)) - (wu64 (s1.getD s15.toNat 0)))))]) (bitsI .and .u64 (shrI .u64 (wu64 ((wu64 ((wu64 (s13.getD s15.toNat 0)) - s6)) - (wu64 (s1.getD s15.toNat 0)))) 32) 1) s13 s14 (wi64 (s15 + 1))) none) none) none) (
      cond (decide (s5.length + 1 < 35184372088832)) (
      whole_less_c4 k s1 (s5 ++ [(wu32 (wu64 ((wu64 (s13.getD s15.toNat 0)) - s6)))]) (bitsI .and .u64 (shrI .u64 (wu64 ((wu64 (s13.getD s15.toNat 0)) - s6)) 32) 1) s13 s14 (wi64 (s15 + 1))) none)) none) none) (
    (whole_trimmed k s5).bind fun y0 =>
    some y0) := by kernel_rfl
/-- (interchange/whole.Int).Plus -/
noncomputable def whole_Int_Plus (k : Nat) (a : Bool × List Int) (b : Bool × List Int) : Option (Bool × List Int) := callA P A k 97 (a, b)
theorem whole_Int_Plus_eq (k : Nat) (a : Bool × List Int) (b : Bool × List Int) : whole_Int_Plus (k + 1) a b =
  cond (a.1 == b.1) (
    (whole_sum k a.2 b.2).bind fun y0 =>
    (whole_made k a.1 y0).bind fun y1 =>
    some y1) (
    (whole_compare k a.2 b.2).bind fun y2 =>
    cond (decide (y2 ≥ 0)) (
      (whole_less k a.2 b.2).bind fun y3 =>
      (whole_made k a.1 y3).bind fun y4 =>
      some y4) (
      (whole_less k b.2 a.2).bind fun y5 =>
      (whole_made k b.1 y5).bind fun y6 =>
      some y6)) := by kernel_rfl
/-- (interchange/whole.Int).Sign -/
noncomputable def whole_Int_Sign (k : Nat) (a : Bool × List Int) : Option Int := callA P A k 128 a
theorem whole_Int_Sign_eq (k : Nat) (a : Bool × List Int) : whole_Int_Sign (k + 1) a =
  cond a.1 (
    some (-1)) (
    cond ((a.2.length : Int) == 0) (
      some 0) (
      some 1)) := by kernel_rfl
/-- (interchange/whole.Int).Minus -/
noncomputable def whole_Int_Minus (k : Nat) (a : Bool × List Int) : Option (Bool × List Int) := callA P A k 130 a
theorem whole_Int_Minus_eq (k : Nat) (a : Bool × List Int) : whole_Int_Minus (k + 1) a =
  (whole_made k (!a.1) a.2).bind fun y0 =>
  some y0 := by kernel_rfl
/-- (interchange/whole.Int).Int -/
noncomputable def whole_Int_Int (k : Nat) (a : Bool × List Int) (b : Int) : Option (Int × Bool) := callA P A k 52 (a, b)
noncomputable def whole_Int_Int_c5 (k : Nat) (s1 : Int) (s2 : Bool × List Int) (s6 : Int) (s14 : List Int) (s15 : Int) (s16 : Int) : Option (Int × Bool) := cutA P A k 52 (todoAt P A 52 5) [(1, (.byv (.int .i64))), (2, (.box 86 [(.byv .bool), (.byv (.sl (.int .u32)))])), (6, (.byv (.int .u64))), (14, (.byv (.sl (.int .u32)))), (15, (.byv (.int .i64))), (16, (.byv (.int .i64)))] (s1, s2, s6, s14, s15, s16)
theorem whole_Int_Int_eq (k : Nat) (a : Bool × List Int) (b : Int) : whole_Int_Int (k + 1) a b =
  cond (decide ((a.2.length : Int) > 2)) (
    some (0, false)) (
    whole_Int_Int_c5 k b a 0 a.2 (a.2.length : Int) 0) := by kernel_rfl
theorem whole_Int_Int_c5_eq (k : Nat) (s1 : Int) (s2 : Bool × List Int) (s6 : Int) (s14 : List Int) (s15 : Int) (s16 : Int) : whole_Int_Int_c5 (k + 1) s1 s2 s6 s14 s15 s16 =
  cond (decide (s16 < s15)) (
    cond (decide (0 ≤ s16)) (
    cond (decide (s16 < (s14.length : Int))) (
    cond (decide (0 ≤ (wi64 (32 * s16)))) (
    whole_Int_Int_c5 k s1 s2 (bitsI .or .u64 s6 (shlI .u64 (wu64 (s14.getD s16.toNat 0)) (wi64 (32 * s16)))) s14 s15 (wi64 (s16 + 1))) none) none) none) (
    cond (decide (s6 > (wu64 s1))) (
      some (0, false)) (
      cond s2.1 (
        some ((wi64 (0 - (wi64 s6))), true)) (
        some ((wi64 s6), true)))) := by kernel_rfl
/-- interchange/amount.Made -/
noncomputable def amount_Made (k : Nat) (a : Bool × List Int) (b : Int) : Option ((Int × Int) × Int) := callA P A k 72 (a, b)
theorem amount_Made_eq (k : Nat) (a : Bool × List Int) (b : Int) : amount_Made (k + 1) a b =
  (whole_Int_Int k a 1000000000000000).bind fun y0 =>
  cond (!y0.2) (
    some ((0, 0), 1)) (
    some ((y0.1, b), 0)) := by kernel_rfl
/-- interchange/amount.read -/
noncomputable def amount_read (k : Nat) (a : Bool) (b : ByteArray) (c : ByteArray) : Option ((Int × Int) × Int) := callA P A k 135 (a, b, c)
noncomputable def amount_read_c3 (k : Nat) (s0 : Bool) (s1 : ByteArray) (s2 : ByteArray) (s6 : Int × Int) (s8 : Bool × List Int) (s14 : Int) (s15 : Int) : Option ((Int × Int) × Int) := cutA P A k 135 (todoAt P A 135 3) [(0, (.byv .bool)), (1, (.byv .str)), (2, (.byv .str)), (6, (.box 24 [(.byv (.int .i64)), (.byv (.int .i64))])), (8, (.box 86 [(.byv .bool), (.byv (.sl (.int .u32)))])), (14, (.byv (.int .i64))), (15, (.byv (.int .i64)))] (s0, s1, s2, s6, s8, s14, s15)
theorem amount_read_eq (k : Nat) (a : Bool) (b : ByteArray) (c : ByteArray) : amount_read (k + 1) a b c =
  (whole_Of k 0).bind fun y0 =>
  cond (decide (b.size + c.size ≤ 9223372036854775807)) (
  amount_read_c3 k a b c (0, 0) y0 ((b ++ c).size : Int) 0) none := by kernel_rfl
theorem amount_read_c3_eq (k : Nat) (s0 : Bool) (s1 : ByteArray) (s2 : ByteArray) (s6 : Int × Int) (s8 : Bool × List Int) (s14 : Int) (s15 : Int) : amount_read_c3 (k + 1) s0 s1 s2 s6 s8 s14 s15 =
  cond (decide (s15 < s14)) (
    (whole_Of k 10).bind fun y1 =>
    (whole_Int_Times k s8 y1).bind fun y2 =>
    cond (decide (s1.size + s2.size ≤ 9223372036854775807)) (
    cond (decide (0 ≤ s15)) (
    cond (decide (s15 < ((s1 ++ s2).size : Int))) (
    (whole_Of k (wi64 (wu8 ((bt (s1 ++ s2) s15) - 48)))).bind fun y3 =>
    (whole_Int_Plus k y2 y3).bind fun y4 =>
    amount_read_c3 k s0 s1 s2 s6 y4 s14 (wi64 (s15 + 1))) none) none) none) (
    cond s0 (
      (whole_Int_Sign k s8).bind fun y5 =>
      cond (y5 == 0) (
        some ((0, 0), 10)) (
        (whole_Int_Minus k s8).bind fun y6 =>
        (amount_Made k y6 (s2.size : Int)).bind fun y7 =>
        some y7)) (
      (amount_Made k s8 (s2.size : Int)).bind fun y8 =>
      some y8)) := by kernel_rfl
/-- interchange/amount.ReadText -/
noncomputable def amount_ReadText (k : Nat) (a : ByteArray) : Option ((Int × Int) × Int) := callA P A k 74 a
theorem amount_ReadText_eq (k : Nat) (a : ByteArray) : amount_ReadText (k + 1) a =
  (strings_CutPrefix k a (bs [45])).bind fun y0 =>
  (strings_Cut k y0.1 (bs [46])).bind fun y1 =>
  (cond (!(decide ((a.size : Int) > 40))) (amount_isWhole k y1.1) (some false)).bind fun y2 =>
  (cond ((!(cond (decide ((a.size : Int) > 40)) true (!y2))) && y1.2.2) (kit_IsDigits k y1.2.1) (some false)).bind fun y3 =>
  cond (cond (cond (decide ((a.size : Int) > 40)) true (!y2)) true (cond y1.2.2 (cond (!y3) true (decide ((y1.2.1.size : Int) > 9))) false)) (
    some ((0, 0), 10)) (
    (amount_read k y0.2 y1.1 y1.2.1).bind fun y4 =>
    some y4) := by kernel_rfl
/-- interchange/interchangelaw1.awake -/
noncomputable def interchangelaw1_awake (k : Nat) : Option Bool := callA P A k 14 ()
theorem interchangelaw1_awake_eq (k : Nat) : interchangelaw1_awake (k + 1) =
  (amount_ReadText k (bs [49, 46, 53, 48])).bind fun y0 =>
  some (cond (y0.2 == 0) ((y0.1.1 == 150) && ((y0.1.2 == 2) && true)) false) := by kernel_rfl
/-- interchange/interchangelaw1.AmountNumbersMatchSpec -/
noncomputable def interchangelaw1_AmountNumbersMatchSpec (k : Nat) (a : Int) (b : ByteArray) (c : ByteArray) : Option Bool := callA P A k 4 (a, b, c)
theorem interchangelaw1_AmountNumbersMatchSpec_eq (k : Nat) (a : Int) (b : ByteArray) (c : ByteArray) : interchangelaw1_AmountNumbersMatchSpec (k + 1) a b c =
  (interchangeref1_IsNumber k a b).bind fun y0 =>
  (amount_IsNumber k a b).bind fun y1 =>
  cond (cond (y1.2 != y0.2) true (!(y1.1 == y0.1))) (
    some false) (
    (interchangeref1_Completed k a c).bind fun y2 =>
    (amount_Completed k a c).bind fun y3 =>
    cond (cond (y3.2 != y2.2) true (!(eqS y3.1 y2.1))) (
      some false) (
      (interchangeref1_Widened k b).bind fun y4 =>
      (amount_Widened k b).bind fun y5 =>
      (cond (cond (y5.2 == y4.2) (eqS y5.1 y4.1) false) (interchangelaw1_awake k) (some false)).bind fun y6 =>
      some (cond (cond (y5.2 == y4.2) (eqS y5.1 y4.1) false) y6 false))) := by kernel_rfl
end Go.Proofs.YtegiadfbniamkaaGreatDoor.Eq
