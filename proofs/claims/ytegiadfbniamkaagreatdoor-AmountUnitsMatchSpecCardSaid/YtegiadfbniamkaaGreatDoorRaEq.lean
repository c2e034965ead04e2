/- The functions that these laws reach: how their calls are read, and the equations that they obey. Printed by a program of this session's own; Lean checks each equation. -/
import Derived.Test.YtegiadfbniamkaaGreatDoorK1
import Derived.Test.YtegiadfbniamkaaGreatDoorProg
import Derived.KernelRfl
import Derived.Lib.Bytealg
import Derived.Lib.SlTrimSet
import Derived.Lib.ItoaNum
import Derived.Lib.Repeat
import Derived.Lib.Replace
import Derived.Lib.Atoi
namespace Go.Proofs.YtegiadfbniamkaaGreatDoor.Eq
open Go Go.Ra
set_option linter.unusedVariables false
def var3 : Var := ⟨3, [(.byv (.sl (.pair .str (.pair .str (.pair (.int .i64) (.int .i64)))))), (.byv (.pair (.int .i64) (.int .i64))), (.byv .str), (.byv .str), (.byv (.int .i64)), (.byv (.int .i64))], [(.byv .bool)], fun _ => none, fun _ _ => false, fun _ _ => none, fun _ => []⟩
def var8 : Var := ⟨8, [(.byv (.sl (.pair .str (.pair .str (.pair (.int .i64) (.int .i64)))))), (.byv .str), (.byv .str)], [(.byv (.pair (.int .i64) (.int .i64))), (.byv (.int .i64))], fun _ => none, fun _ _ => false, fun _ _ => none, fun _ => []⟩
def var9 : Var := ⟨9, [(.byv (.sl (.pair .str (.pair .str (.pair (.int .i64) (.int .i64)))))), (.byv .str), (.byv .str)], [(.byv (.pair (.int .i64) (.int .i64))), (.byv (.int .i64))], fun r => if r = 5 then some [(6, (.box 26 [(.byv (.int .i64)), (.byv (.int .i64))])), (8, (.own 3 (.int .i64))), (9, (.own 3 (.int .i64))), (31, (.byv (.int .i64))), (32, (.byv (.int .i64)))] else if r = 8 then some [(6, (.box 26 [(.byv (.int .i64)), (.byv (.int .i64))])), (8, (.own 3 (.int .i64))), (9, (.own 3 (.int .i64))), (11, (.byv (.int .i64))), (31, (.byv (.int .i64))), (32, (.byv (.int .i64))), (36, (.byv (.int .i64))), (37, (.byv (.int .i64)))] else none, fun _ _ => false, fun _ _ => none, fun _ => []⟩
def var10 : Var := ⟨10, [(.byv (.sl (.pair .str (.pair .str (.pair (.int .i64) (.int .i64))))))], [(.byv (.int .i64))], fun r => if r = 4 then some [(0, (.byv (.sl (.pair .str (.pair .str (.pair (.int .i64) (.int .i64))))))), (14, (.byv (.int .i64))), (15, (.byv (.int .i64)))] else if r = 11 then some [(0, (.byv (.sl (.pair .str (.pair .str (.pair (.int .i64) (.int .i64))))))), (25, (.byv (.sl (.pair .str (.pair .str (.pair (.int .i64) (.int .i64))))))), (26, (.byv (.int .i64))), (27, (.byv (.int .i64)))] else if r = 17 then some [(0, (.byv (.sl (.pair .str (.pair .str (.pair (.int .i64) (.int .i64))))))), (43, (.byv (.int .i64))), (44, (.byv (.int .i64)))] else none, fun _ _ => false, fun _ _ => none, fun _ => []⟩
def var11 : Var := ⟨11, [(.byv (.sl (.pair .str (.pair .str (.pair (.int .i64) (.int .i64))))))], [(.byv (.int .i64))], fun r => if r = 4 then some [(0, (.byv (.sl (.pair .str (.pair .str (.pair (.int .i64) (.int .i64))))))), (16, (.byv (.int .i64))), (17, (.byv (.int .i64)))] else if r = 11 then some [(0, (.byv (.sl (.pair .str (.pair .str (.pair (.int .i64) (.int .i64))))))), (27, (.byv (.sl (.pair .str (.pair .str (.pair (.int .i64) (.int .i64))))))), (28, (.byv (.int .i64))), (29, (.byv (.int .i64)))] else if r = 18 then some [(0, (.byv (.sl (.pair .str (.pair .str (.pair (.int .i64) (.int .i64))))))), (49, (.byv (.int .i64))), (50, (.byv (.int .i64)))] else none, fun _ _ => false, fun _ _ => none, fun _ => []⟩
def var12 : Var := ⟨12, [(.byv (.sl (.pair .str (.pair .str (.pair (.int .i64) (.int .i64)))))), (.byv (.pair (.int .i64) (.int .i64))), (.byv .str), (.byv .str), (.byv (.int .i64)), (.byv (.int .i64))], [(.byv (.pair (.int .i64) (.int .i64))), (.byv (.int .i64))], fun _ => none, fun _ _ => false, fun _ _ => none, fun _ => []⟩
def var13 : Var := ⟨13, [(.byv (.sl (.pair .str (.pair .str (.pair (.int .i64) (.int .i64)))))), (.byv (.pair (.int .i64) (.int .i64))), (.byv .str), (.byv .str), (.byv (.int .i64)), (.byv (.int .i64))], [(.byv (.pair (.int .i64) (.int .i64))), (.byv (.int .i64))], fun _ => none, fun _ _ => false, fun _ _ => none, fun _ => []⟩
def var14 : Var := ⟨14, [], [(.byv .bool)], fun _ => none, fun _ _ => false, fun _ _ => none, fun _ => []⟩
def var44 : Var := ⟨44, [(.byv (.sl (.pair .str (.pair .str (.pair (.int .i64) (.int .i64)))))), (.byv .str), (.byv .str)], [(.byv (.int .i64))], fun _ => none, fun _ _ => false, fun _ _ => none, fun _ => []⟩
def var45 : Var := ⟨45, [(.byv (.sl (.pair .str (.pair .str (.pair (.int .i64) (.int .i64)))))), (.byv .str), (.byv .str)], [(.byv (.pair .bool (.sl (.int .i64)))), (.byv (.pair .bool (.sl (.int .i64))))], fun _ => none, fun _ _ => false, fun _ _ => none, fun _ => []⟩
def var46 : Var := ⟨46, [(.byv (.pair .bool (.sl (.int .i64)))), (.byv (.pair .bool (.sl (.int .i64))))], [(.byv (.pair .bool (.sl (.int .i64))))], fun r => if r = 1 then some [(2, (.box 74 [(.byv .bool), (.byv (.sl (.int .i64)))])), (3, (.box 74 [(.byv .bool), (.byv (.sl (.int .i64)))])), (4, (.box 74 [(.byv .bool), (.own 3 (.int .i64))]))] else none, fun _ _ => false, fun _ _ => none, fun _ => []⟩
def var47 : Var := ⟨47, [(.byv (.pair .bool (.sl (.int .i64)))), (.byv (.pair .bool (.sl (.int .i64))))], [(.byv (.pair .bool (.sl (.int .i64)))), (.byv (.pair .bool (.sl (.int .i64))))], fun r => if r = 3 then some [(3, (.box 74 [(.byv .bool), (.byv (.sl (.int .i64)))])), (4, (.box 74 [(.byv .bool), (.own 3 (.int .i64))])), (5, (.box 74 [(.byv .bool), (.own 3 (.int .i64))])), (6, (.own 3 (.int .i64))), (7, (.box 74 [(.byv .bool), (.byv (.sl (.int .i64)))]))] else if r = 7 then some [(3, (.box 74 [(.byv .bool), (.byv (.sl (.int .i64)))])), (4, (.box 74 [(.byv .bool), (.own 3 (.int .i64))])), (5, (.box 74 [(.byv .bool), (.own 3 (.int .i64))])), (6, (.own 3 (.int .i64))), (28, (.byv (.pair .bool (.sl (.int .i64)))))] else if r = 11 then some [(3, (.box 74 [(.byv .bool), (.byv (.sl (.int .i64)))])), (4, (.box 74 [(.byv .bool), (.own 3 (.int .i64))])), (5, (.box 74 [(.byv .bool), (.own 3 (.int .i64))])), (6, (.own 3 (.int .i64))), (10, (.box 74 [(.byv .bool), (.byv (.sl (.int .i64)))])), (11, (.box 74 [(.byv .bool), (.byv (.sl (.int .i64)))])), (12, (.box 74 [(.byv .bool), (.byv (.sl (.int .i64)))])), (13, (.byv (.int .i64)))] else none, fun _ _ => false, fun _ _ => none, fun _ => []⟩
def var48 : Var := ⟨48, [(.byv (.pair .bool (.sl (.int .i64)))), (.byv (.int .i64))], [(.byv (.int .i64)), (.byv .bool)], fun r => if r = 5 then some [(2, (.box 74 [(.byv .bool), (.byv (.sl (.int .i64)))])), (6, (.byv (.int .i64))), (7, (.byv (.int .i64)))] else none, fun _ _ => false, fun _ _ => none, fun _ => []⟩
def var49 : Var := ⟨49, [(.byv (.sl (.pair .str (.pair .str (.pair (.int .i64) (.int .i64)))))), (.byv .str), (.byv .str)], [(.own 3 (.int .i64)), (.own 3 (.int .i64)), (.byv (.int .i64))], fun r => if r = 13 then some [(0, (.byv (.sl (.pair .str (.pair .str (.pair (.int .i64) (.int .i64))))))), (6, (.own 3 (.int .i64))), (7, (.own 3 (.int .i64))), (16, (.own 3 (.int .i64))), (70, (.own 3 (.int .i64))), (71, (.byv (.int .i64))), (72, (.byv (.int .i64)))] else if r = 18 then some [(0, (.byv (.sl (.pair .str (.pair .str (.pair (.int .i64) (.int .i64))))))), (6, (.own 3 (.int .i64))), (7, (.own 3 (.int .i64))), (93, (.own 3 (.int .i64))), (94, (.byv (.int .i64))), (95, (.byv (.int .i64)))] else none, fun _ _ => false, fun _ _ => none, fun _ => []⟩
def var50 : Var := ⟨50, [(.byv (.int .i64)), (.byv (.int .i64))], [(.byv (.int .i64))], fun r => if r = 1 then some [(0, (.byv (.int .i64))), (1, (.byv (.int .i64)))] else none, fun _ _ => false, fun _ _ => none, fun _ => []⟩
def var51 : Var := ⟨51, [(.byv (.sl (.int .i64)))], [(.byv (.pair .bool (.sl (.int .u32))))], fun r => if r = 3 then some [(2, (.box 86 [(.byv .bool), (.own 143 (.int .u32))])), (3, (.box 86 [(.byv .bool), (.byv (.sl (.int .u32)))])), (7, (.byv (.sl (.int .i64)))), (8, (.byv (.int .i64))), (9, (.byv (.int .i64)))] else none, fun _ _ => false, fun _ _ => none, fun _ => []⟩
def var52 : Var := ⟨52, [(.byv (.pair .bool (.sl (.int .u32)))), (.byv (.int .i64))], [(.byv (.int .i64)), (.byv .bool)], fun r => if r = 5 then some [(1, (.byv (.int .i64))), (2, (.box 86 [(.byv .bool), (.byv (.sl (.int .u32)))])), (6, (.byv (.int .u64))), (14, (.byv (.sl (.int .u32)))), (15, (.byv (.int .i64))), (16, (.byv (.int .i64)))] else none, fun _ _ => false, fun _ _ => none, fun _ => []⟩
def var53 : Var := ⟨53, [(.byv (.sl (.pair .str (.pair .str (.pair (.int .i64) (.int .i64)))))), (.byv (.int .i64))], [(.byv (.int .i64))], fun _ => none, fun _ _ => false, fun _ _ => none, fun _ => []⟩
def var54 : Var := ⟨54, [(.byv (.sl (.pair .str (.pair .str (.pair (.int .i64) (.int .i64)))))), (.byv .str)], [(.byv (.int .i64))], fun _ => none, fun _ _ => false, fun _ _ => none, fun _ => []⟩
def var55 : Var := ⟨55, [(.byv (.sl (.pair .str (.pair .str (.pair (.int .i64) (.int .i64)))))), (.byv (.int .i64))], [(.own 3 (.int .i64)), (.byv .bool)], fun r => if r = 2 then some [(0, (.byv (.sl (.pair .str (.pair .str (.pair (.int .i64) (.int .i64))))))), (1, (.byv (.int .i64))), (6, (.own 3 (.int .i64)))] else none, fun _ _ => false, fun _ _ => none, fun _ => []⟩
def var56 : Var := ⟨56, [(.byv (.sl (.pair .str (.pair .str (.pair (.int .i64) (.int .i64)))))), (.byv (.int .i64))], [(.byv (.int .i64))], fun _ => none, fun _ _ => false, fun _ _ => none, fun _ => []⟩
def var57 : Var := ⟨57, [(.byv (.sl (.pair .str (.pair .str (.pair (.int .i64) (.int .i64)))))), (.byv .str)], [(.byv (.int .i64)), (.byv .bool)], fun _ => none, fun _ _ => false, fun r i => if r = 1 ∧ i = 2 then some 100120 else none, fun _ => []⟩
def var58 : Var := ⟨58, [(.byv (.sl (.pair .str (.pair .str (.pair (.int .i64) (.int .i64)))))), (.byv (.int .i64))], [(.own 3 (.int .i64)), (.byv .bool)], fun r => if r = 2 then some [(0, (.byv (.sl (.pair .str (.pair .str (.pair (.int .i64) (.int .i64))))))), (1, (.byv (.int .i64))), (6, (.own 3 (.int .i64)))] else none, fun _ _ => false, fun _ _ => none, fun _ => []⟩
def var59 : Var := ⟨59, [(.byv (.pair (.int .i64) (.int .i64)))], [(.byv (.int .i64))], fun _ => none, fun _ _ => false, fun _ _ => none, fun _ => []⟩
def var60 : Var := ⟨60, [(.byv (.int .i64)), (.byv (.int .i64)), (.byv (.int .i64))], [(.byv .bool)], fun _ => none, fun _ _ => false, fun _ _ => none, fun _ => []⟩
def var61 : Var := ⟨61, [(.byv (.int .i64))], [(.byv .bool)], fun _ => none, fun _ _ => false, fun _ _ => none, fun _ => []⟩
def var62 : Var := ⟨62, [(.byv (.pair .bool (.sl (.int .i64)))), (.byv (.pair .bool (.sl (.int .i64))))], [(.byv (.pair .bool (.sl (.int .i64))))], fun r => if r = 3 then some [(3, (.box 74 [(.byv .bool), (.byv (.sl (.int .i64)))])), (4, (.box 74 [(.byv .bool), (.own 3 (.int .i64))])), (5, (.box 74 [(.byv .bool), (.own 3 (.int .i64))])), (27, (.byv (.sl (.int .i64)))), (28, (.byv (.int .i64))), (29, (.byv (.int .i64)))] else if r = 6 then some [(3, (.box 74 [(.byv .bool), (.byv (.sl (.int .i64)))])), (4, (.box 74 [(.byv .bool), (.own 3 (.int .i64))])), (5, (.box 74 [(.byv .bool), (.own 3 (.int .i64))])), (6, (.byv (.int .i64))), (7, (.byv (.int .i64))), (27, (.byv (.sl (.int .i64)))), (28, (.byv (.int .i64))), (29, (.byv (.int .i64))), (35, (.byv (.sl (.int .i64)))), (36, (.byv (.int .i64))), (37, (.byv (.int .i64)))] else if r = 14 then some [(4, (.box 74 [(.byv .bool), (.own 3 (.int .i64))])), (5, (.box 74 [(.byv .bool), (.own 3 (.int .i64))])), (86, (.byv (.int .i64))), (87, (.byv (.int .i64)))] else none, fun _ _ => false, fun _ _ => none, fun _ => []⟩
def var63 : Var := ⟨63, [(.byv (.int .i64))], [(.byv (.pair .bool (.sl (.int .i64))))], fun r => if r = 2 then some [(0, (.byv (.int .i64))), (2, (.box 74 [(.byv .bool), (.own 3 (.int .i64))])), (3, (.box 74 [(.byv .bool), (.own 3 (.int .i64))]))] else none, fun _ _ => false, fun _ _ => none, fun _ => []⟩
def var64 : Var := ⟨64, [(.byv (.int .i64))], [(.byv (.pair .bool (.sl (.int .i64))))], fun r => if r = 3 then some [(2, (.box 74 [(.byv .bool), (.own 3 (.int .i64))])), (3, (.box 74 [(.byv .bool), (.byv (.sl (.int .i64)))])), (5, (.byv (.int .i64))), (6, (.byv (.int .i64)))] else none, fun _ _ => false, fun _ _ => none, fun _ => []⟩
def var65 : Var := ⟨65, [(.byv (.pair .bool (.sl (.int .i64)))), (.byv (.int .i64))], [(.byv (.pair (.int .i64) (.int .i64))), (.byv (.int .i64))], fun _ => none, fun _ _ => false, fun _ _ => none, fun _ => []⟩
def var66 : Var := ⟨66, [(.byv (.pair .bool (.sl (.int .i64)))), (.byv (.pair .bool (.sl (.int .i64)))), (.byv (.int .i64))], [(.byv (.pair .bool (.sl (.int .i64))))], fun _ => none, fun _ _ => false, fun _ _ => none, fun _ => []⟩
def var67 : Var := ⟨67, [(.byv (.pair (.int .i64) (.int .i64)))], [(.byv (.int .i64))], fun _ => none, fun _ _ => false, fun _ _ => none, fun _ => []⟩
def var68 : Var := ⟨68, [(.byv (.int .i64)), (.byv (.int .i64))], [(.byv (.int .i64))], fun _ => none, fun _ _ => false, fun _ _ => none, fun _ => []⟩
def var69 : Var := ⟨69, [(.byv (.int .i64))], [(.byv (.pair .bool (.sl (.int .u32))))], fun _ => none, fun _ _ => false, fun _ _ => none, fun _ => []⟩
def var70 : Var := ⟨70, [(.byv (.pair .bool (.sl (.int .u32)))), (.byv (.pair .bool (.sl (.int .u32))))], [(.byv (.pair .bool (.sl (.int .u32))))], fun r => if r = 3 then some [(2, (.box 86 [(.byv .bool), (.byv (.sl (.int .u32)))])), (3, (.box 86 [(.byv .bool), (.byv (.sl (.int .u32)))])), (4, (.box 86 [(.byv .bool), (.own 143 (.int .u32))])), (5, (.own 143 (.int .u32))), (20, (.byv (.sl (.int .u32)))), (21, (.byv (.int .i64))), (22, (.byv (.int .i64)))] else if r = 7 then some [(2, (.box 86 [(.byv .bool), (.byv (.sl (.int .u32)))])), (3, (.box 86 [(.byv .bool), (.byv (.sl (.int .u32)))])), (4, (.box 86 [(.byv .bool), (.own 143 (.int .u32))])), (5, (.own 143 (.int .u32))), (6, (.byv (.int .i64))), (7, (.byv (.int .u32))), (8, (.byv (.int .u64))), (20, (.byv (.sl (.int .u32)))), (21, (.byv (.int .i64))), (22, (.byv (.int .i64))), (28, (.byv (.sl (.int .u32)))), (29, (.byv (.int .i64))), (30, (.byv (.int .i64)))] else none, fun _ _ => false, fun _ _ => none, fun _ => []⟩
def var71 : Var := ⟨71, [(.byv (.int .i64))], [(.byv (.pair .bool (.sl (.int .u32))))], fun r => if r = 3 then some [(2, (.box 86 [(.byv .bool), (.own 143 (.int .u32))])), (3, (.box 86 [(.byv .bool), (.byv (.sl (.int .u32)))])), (5, (.byv (.int .i64))), (6, (.byv (.int .i64)))] else none, fun _ _ => false, fun _ _ => none, fun _ => []⟩
def var72 : Var := ⟨72, [(.byv (.pair .bool (.sl (.int .u32)))), (.byv (.int .i64))], [(.byv (.pair (.int .i64) (.int .i64))), (.byv (.int .i64))], fun _ => none, fun _ _ => false, fun _ _ => none, fun _ => []⟩
def var73 : Var := ⟨73, [(.byv (.pair .bool (.sl (.int .u32)))), (.byv (.pair .bool (.sl (.int .u32)))), (.byv (.int .i64))], [(.byv (.pair .bool (.sl (.int .u32))))], fun _ => none, fun _ _ => false, fun _ _ => none, fun _ => []⟩
def var74 : Var := ⟨74, [(.byv .str)], [(.byv (.pair (.int .i64) (.int .i64))), (.byv (.int .i64))], fun _ => none, fun _ _ => false, fun _ _ => none, fun _ => []⟩
def var89 : Var := ⟨89, [(.byv (.int .i64)), (.byv (.int .i64)), (.byv (.int .i64))], [(.byv .bool)], fun _ => none, fun _ _ => false, fun _ _ => none, fun _ => []⟩
def var97 : Var := ⟨97, [(.byv (.pair .bool (.sl (.int .u32)))), (.byv (.pair .bool (.sl (.int .u32))))], [(.byv (.pair .bool (.sl (.int .u32))))], fun _ => none, fun _ _ => false, fun _ _ => none, fun _ => []⟩
def var101 : Var := ⟨101, [(.byv (.pair .bool (.sl (.int .u32)))), (.byv (.pair .bool (.sl (.int .u32))))], [(.byv (.pair .bool (.sl (.int .u32)))), (.byv (.pair .bool (.sl (.int .u32))))], fun r => if r = 4 then some [(2, (.box 86 [(.byv .bool), (.byv (.sl (.int .u32)))])), (3, (.box 86 [(.byv .bool), (.byv (.sl (.int .u32)))])), (4, (.box 86 [(.byv .bool), (.own 143 (.int .u32))])), (5, (.box 86 [(.byv .bool), (.own 143 (.int .u32))])), (6, (.own 143 (.int .u32))), (7, (.byv (.sl (.int .u32)))), (8, (.byv (.int .i64)))] else none, fun _ _ => false, fun _ _ => none, fun _ => []⟩
def var104 : Var := ⟨104, [(.byv (.pair .bool (.sl (.int .u32)))), (.byv (.pair .bool (.sl (.int .u32))))], [(.byv (.int .i64))], fun _ => none, fun _ _ => false, fun _ _ => none, fun _ => []⟩
def var109 : Var := ⟨109, [(.byv (.sl (.pair .str (.pair .str (.pair (.int .i64) (.int .i64)))))), (.byv .str)], [(.byv (.pair .bool (.sl (.int .i64)))), (.byv (.pair .bool (.sl (.int .i64))))], fun r => if r = 4 then some [(0, (.byv (.sl (.pair .str (.pair .str (.pair (.int .i64) (.int .i64))))))), (4, (.box 74 [(.byv .bool), (.byv (.sl (.int .i64)))])), (5, (.box 74 [(.byv .bool), (.byv (.sl (.int .i64)))])), (20, (.own 3 (.int .i64))), (21, (.byv (.int .i64))), (22, (.byv (.int .i64)))] else none, fun _ _ => false, fun _ _ => none, fun _ => []⟩
def var110 : Var := ⟨110, [(.byv (.pair .bool (.sl (.int .i64))))], [(.byv (.int .i64))], fun _ => none, fun _ _ => false, fun _ _ => none, fun _ => []⟩
def var111 : Var := ⟨111, [(.byv (.pair .bool (.sl (.int .i64))))], [(.byv (.pair .bool (.sl (.int .i64)))), (.byv (.int .i64))], fun r => if r = 4 then some [(1, (.box 74 [(.byv .bool), (.byv (.sl (.int .i64)))])), (2, (.box 74 [(.byv .bool), (.own 3 (.int .i64))])), (4, (.box 74 [(.byv .bool), (.own 3 (.int .i64))])), (5, (.byv (.int .i64))), (6, (.byv (.int .i64)))] else none, fun _ _ => false, fun _ _ => none, fun _ => []⟩
def var112 : Var := ⟨112, [(.byv (.pair .bool (.sl (.int .i64)))), (.byv (.pair .bool (.sl (.int .i64))))], [(.byv (.pair .bool (.sl (.int .i64))))], fun r => if r = 4 then some [(2, (.box 74 [(.byv .bool), (.byv (.sl (.int .i64)))])), (3, (.box 74 [(.byv .bool), (.byv (.sl (.int .i64)))])), (4, (.box 74 [(.byv .bool), (.own 3 (.int .i64))]))] else if r = 7 then some [(2, (.box 74 [(.byv .bool), (.byv (.sl (.int .i64)))])), (3, (.box 74 [(.byv .bool), (.byv (.sl (.int .i64)))])), (4, (.box 74 [(.byv .bool), (.own 3 (.int .i64))])), (5, (.box 74 [(.byv .bool), (.own 3 (.int .i64))])), (6, (.byv (.int .i64))), (31, (.byv (.int .i64))), (32, (.byv (.int .i64)))] else if r = 13 then some [(2, (.box 74 [(.byv .bool), (.byv (.sl (.int .i64)))])), (3, (.box 74 [(.byv .bool), (.byv (.sl (.int .i64)))])), (4, (.box 74 [(.byv .bool), (.own 3 (.int .i64))])), (5, (.box 74 [(.byv .bool), (.own 3 (.int .i64))])), (6, (.byv (.int .i64))), (8, (.byv (.int .i64))), (31, (.byv (.int .i64))), (32, (.byv (.int .i64)))] else if r = 19 then some [(2, (.box 74 [(.byv .bool), (.byv (.sl (.int .i64)))])), (3, (.box 74 [(.byv .bool), (.byv (.sl (.int .i64)))])), (4, (.box 74 [(.byv .bool), (.own 3 (.int .i64))])), (9, (.box 74 [(.byv .bool), (.own 3 (.int .i64))])), (10, (.byv (.int .i64))), (70, (.byv (.int .i64))), (71, (.byv (.int .i64)))] else none, fun _ _ => false, fun _ _ => none, fun _ => []⟩
def var113 : Var := ⟨113, [(.byv (.pair .bool (.sl (.int .i64)))), (.byv (.pair .bool (.sl (.int .i64))))], [(.byv (.int .i64))], fun _ => none, fun _ _ => false, fun _ _ => none, fun _ => []⟩
def var114 : Var := ⟨114, [(.byv (.pair .bool (.sl (.int .i64))))], [(.byv (.pair .bool (.sl (.int .i64))))], fun _ => none, fun _ _ => false, fun _ _ => none, fun _ => []⟩
def var115 : Var := ⟨115, [(.byv (.sl (.int .i64))), (.byv (.sl (.int .i64)))], [(.byv (.int .i64))], fun r => if r = 4 then some [(0, (.byv (.sl (.int .i64)))), (1, (.byv (.sl (.int .i64)))), (5, (.byv (.int .i64)))] else none, fun _ _ => false, fun _ _ => none, fun _ => []⟩
def var116 : Var := ⟨116, [(.byv .str)], [(.byv .bool)], fun r => if r = 4 then some [(0, (.byv .str)), (23, (.byv (.int .i64))), (24, (.byv (.int .i64)))] else none, fun _ _ => false, fun _ _ => none, fun _ => []⟩
def var117 : Var := ⟨117, [(.byv (.sl .str)), (.byv .str)], [(.byv (.int .i64))], fun r => if r = 2 then some [(0, (.byv (.sl .str))), (1, (.byv .str)), (7, (.byv (.int .i64))), (8, (.byv (.int .i64)))] else none, fun _ _ => false, fun _ _ => none, fun _ => []⟩
def var118 : Var := ⟨118, [(.byv (.sl (.pair .str (.pair .str (.pair (.int .i64) (.int .i64))))))], [(.own 9 .str)], fun r => if r = 3 then some [(3, (.own 9 .str)), (6, (.byv (.sl (.pair .str (.pair .str (.pair (.int .i64) (.int .i64))))))), (7, (.byv (.int .i64))), (8, (.byv (.int .i64)))] else none, fun _ _ => false, fun _ _ => none, fun _ => []⟩
def var119 : Var := ⟨119, [(.byv .str)], [(.byv .bool)], fun _ => none, fun _ _ => false, fun _ _ => none, fun _ => []⟩
def var121 : Var := ⟨121, [(.byv (.pair .str (.pair .str (.pair (.int .i64) (.int .i64))))), (.byv .str)], [(.byv (.int .i64))], fun _ => none, fun _ _ => false, fun _ _ => none, fun _ => []⟩
def var122 : Var := ⟨122, [(.byv .str), (.byv .str)], [(.byv (.int .i64))], fun _ => none, fun _ _ => false, fun _ _ => none, fun _ => []⟩
def var123 : Var := ⟨123, [(.byv (.sl (.int .i64))), (.byv (.int .i64))], [(.byv .bool)], fun _ => none, fun _ _ => false, fun _ _ => none, fun _ => []⟩
def var124 : Var := ⟨124, [(.byv (.pair .bool (.sl (.int .i64))))], [(.byv (.pair .bool (.sl (.int .i64))))], fun r => if r = 1 then some [(1, (.box 74 [(.byv .bool), (.byv (.sl (.int .i64)))])), (2, (.box 74 [(.byv .bool), (.own 3 (.int .i64))]))] else none, fun _ _ => false, fun _ _ => none, fun _ => []⟩
def var125 : Var := ⟨125, [(.byv (.sl (.int .i64))), (.byv (.int .i64))], [(.byv (.int .i64))], fun _ => none, fun _ _ => false, fun _ _ => none, fun _ => []⟩
def var126 : Var := ⟨126, [(.byv (.int .i64))], [(.byv .bool)], fun _ => none, fun _ _ => false, fun _ _ => none, fun _ => []⟩
def var127 : Var := ⟨127, [(.byv .bool), (.byv (.sl (.int .u32)))], [(.byv (.pair .bool (.sl (.int .u32))))], fun _ => none, fun _ _ => false, fun _ _ => none, fun _ => []⟩
def var128 : Var := ⟨128, [(.byv (.pair .bool (.sl (.int .u32))))], [(.byv (.int .i64))], fun _ => none, fun _ _ => false, fun _ _ => none, fun _ => []⟩
def var129 : Var := ⟨129, [(.byv (.pair .bool (.sl (.int .u32))))], [(.byv .bool)], fun _ => none, fun _ _ => false, fun _ _ => none, fun _ => []⟩
def var130 : Var := ⟨130, [(.byv (.pair .bool (.sl (.int .u32))))], [(.byv (.pair .bool (.sl (.int .u32))))], fun _ => none, fun _ _ => false, fun _ _ => none, fun _ => []⟩
def var131 : Var := ⟨131, [(.byv .str), (.byv .str)], [(.byv .str), (.byv .bool)], fun _ => none, fun _ _ => false, fun _ _ => none, fun _ => []⟩
def var132 : Var := ⟨132, [(.byv .str), (.byv .str)], [(.byv .str), (.byv .str), (.byv .bool)], fun _ => none, fun _ _ => false, fun _ _ => none, fun _ => []⟩
def var133 : Var := ⟨133, [(.byv .str)], [(.byv .bool)], fun _ => none, fun _ _ => false, fun _ _ => none, fun _ => []⟩
def var134 : Var := ⟨134, [(.byv .str)], [(.byv .bool)], fun _ => none, fun _ _ => false, fun _ _ => none, fun _ => []⟩
def var135 : Var := ⟨135, [(.byv .bool), (.byv .str), (.byv .str)], [(.byv (.pair (.int .i64) (.int .i64))), (.byv (.int .i64))], fun r => if r = 3 then some [(0, (.byv .bool)), (1, (.byv .str)), (2, (.byv .str)), (6, (.box 24 [(.byv (.int .i64)), (.byv (.int .i64))])), (8, (.box 86 [(.byv .bool), (.byv (.sl (.int .u32)))])), (14, (.byv (.int .i64))), (15, (.byv (.int .i64)))] else none, fun _ _ => false, fun _ _ => none, fun _ => []⟩
def var164 : Var := ⟨164, [(.byv (.sl (.int .u32))), (.byv (.sl (.int .u32)))], [(.own 143 (.int .u32))], fun r => if r = 3 then some [(0, (.byv (.sl (.int .u32)))), (1, (.byv (.sl (.int .u32))))] else if r = 6 then some [(1, (.byv (.sl (.int .u32)))), (5, (.own 143 (.int .u32))), (6, (.byv (.int .u64))), (20, (.byv (.sl (.int .u32)))), (21, (.byv (.int .i64))), (22, (.byv (.int .i64)))] else none, fun _ _ => false, fun _ _ => none, fun _ => []⟩
def var165 : Var := ⟨165, [(.byv (.sl (.int .u32))), (.byv (.sl (.int .u32)))], [(.byv (.int .i64))], fun r => if r = 4 then some [(0, (.byv (.sl (.int .u32)))), (1, (.byv (.sl (.int .u32)))), (5, (.byv (.int .i64)))] else none, fun _ _ => false, fun _ _ => none, fun _ => []⟩
def var166 : Var := ⟨166, [(.byv (.sl (.int .u32))), (.byv (.sl (.int .u32)))], [(.byv (.sl (.int .u32)))], fun r => if r = 4 then some [(1, (.byv (.sl (.int .u32)))), (5, (.own 143 (.int .u32))), (6, (.byv (.int .u64))), (13, (.byv (.sl (.int .u32)))), (14, (.byv (.int .i64))), (15, (.byv (.int .i64)))] else none, fun _ _ => false, fun _ _ => none, fun _ => []⟩
def var167 : Var := ⟨167, [(.byv (.sl (.int .u32)))], [(.byv (.sl (.int .u32)))], fun r => if r = 1 then some [(0, (.byv (.sl (.int .u32))))] else none, fun _ _ => false, fun _ _ => none, fun _ => []⟩
def var169 : Var := ⟨169, [(.byv (.pair .bool (.sl (.int .u32)))), (.byv (.pair .bool (.sl (.int .u32))))], [(.byv (.pair .bool (.sl (.int .u32))))], fun _ => none, fun _ _ => false, fun _ _ => none, fun _ => []⟩
def var172 : Var := ⟨172, [(.byv .str), (.byv .str)], [(.byv .str)], fun _ => none, fun _ _ => false, fun _ _ => none, fun _ => []⟩
def var173 : Var := ⟨173, [(.byv .str), (.byv .str)], [(.byv (.int .i64))], fun _ => none, fun _ _ => false, fun _ _ => none, fun _ => []⟩
def var174 : Var := ⟨174, [(.byv (.sl (.int .i64))), (.byv (.int .i64))], [(.byv (.int .i64))], fun r => if r = 2 then some [(0, (.byv (.sl (.int .i64)))), (1, (.byv (.int .i64))), (7, (.byv (.int .i64))), (8, (.byv (.int .i64)))] else none, fun _ _ => false, fun _ _ => none, fun _ => []⟩
def var175 : Var := ⟨175, [(.byv .str), (.byv .str)], [(.byv .str), (.byv .bool)], fun _ => none, fun _ _ => false, fun _ _ => none, fun _ => []⟩
def var176 : Var := ⟨176, [(.byv .str), (.byv .str)], [(.byv .str), (.byv .str), (.byv .bool)], fun _ => none, fun _ _ => false, fun _ _ => none, fun _ => []⟩
def var177 : Var := ⟨177, [(.byv .str), (.byv (.int .u8)), (.byv (.int .u8))], [(.byv .bool)], fun r => if r = 2 then some [(0, (.byv .str)), (1, (.byv (.int .u8))), (2, (.byv (.int .u8))), (9, (.byv (.int .i64))), (10, (.byv (.int .i64)))] else none, fun _ _ => false, fun _ _ => none, fun _ => []⟩
def var182 : Var := ⟨182, [(.byv .str), (.byv .str)], [(.byv .bool)], fun _ => none, fun _ _ => false, fun _ _ => none, fun _ => []⟩
def var202 : Var := ⟨202, [(.byv .str), (.byv .str)], [(.byv (.int .i64))], fun _ => none, fun _ _ => false, fun _ _ => none, fun _ => []⟩
def var219 : Var := ⟨219, [(.byv .str), (.byv (.int .u8))], [(.byv (.int .i64))], fun _ => none, fun _ _ => false, fun _ _ => none, fun _ => []⟩
def var100120 : Var := ⟨120, [(.byv (.sl (.pair .str (.pair .str (.pair (.int .i64) (.int .i64)))))), (.byv .str), (.fn 121 [])], [(.byv (.int .i64)), (.byv .bool)], fun r => if r = 3 then some [(0, (.byv (.sl (.pair .str (.pair .str (.pair (.int .i64) (.int .i64))))))), (1, (.byv .str)), (2, (.fn 121 [])), (8, (.byv (.int .i64))), (9, (.byv (.int .i64))), (10, (.byv (.int .i64)))] else none, fun _ _ => false, fun _ _ => none, fun _ => []⟩
def varT (u : Nat) : Var := cond (Nat.blt u 104) (cond (Nat.blt u 57) (cond (Nat.blt u 46) (cond (Nat.blt u 12) (cond (Nat.blt u 9) (cond (Nat.blt u 8) (var3) (var8)) (cond (Nat.blt u 10) (var9) (cond (Nat.blt u 11) (var10) (var11)))) (cond (Nat.blt u 14) (cond (Nat.blt u 13) (var12) (var13)) (cond (Nat.blt u 44) (var14) (cond (Nat.blt u 45) (var44) (var45))))) (cond (Nat.blt u 51) (cond (Nat.blt u 48) (cond (Nat.blt u 47) (var46) (var47)) (cond (Nat.blt u 49) (var48) (cond (Nat.blt u 50) (var49) (var50)))) (cond (Nat.blt u 54) (cond (Nat.blt u 52) (var51) (cond (Nat.blt u 53) (var52) (var53))) (cond (Nat.blt u 55) (var54) (cond (Nat.blt u 56) (var55) (var56)))))) (cond (Nat.blt u 67) (cond (Nat.blt u 62) (cond (Nat.blt u 59) (cond (Nat.blt u 58) (var57) (var58)) (cond (Nat.blt u 60) (var59) (cond (Nat.blt u 61) (var60) (var61)))) (cond (Nat.blt u 64) (cond (Nat.blt u 63) (var62) (var63)) (cond (Nat.blt u 65) (var64) (cond (Nat.blt u 66) (var65) (var66))))) (cond (Nat.blt u 72) (cond (Nat.blt u 69) (cond (Nat.blt u 68) (var67) (var68)) (cond (Nat.blt u 70) (var69) (cond (Nat.blt u 71) (var70) (var71)))) (cond (Nat.blt u 89) (cond (Nat.blt u 73) (var72) (cond (Nat.blt u 74) (var73) (var74))) (cond (Nat.blt u 97) (var89) (cond (Nat.blt u 101) (var97) (var101))))))) (cond (Nat.blt u 130) (cond (Nat.blt u 118) (cond (Nat.blt u 113) (cond (Nat.blt u 110) (cond (Nat.blt u 109) (var104) (var109)) (cond (Nat.blt u 111) (var110) (cond (Nat.blt u 112) (var111) (var112)))) (cond (Nat.blt u 115) (cond (Nat.blt u 114) (var113) (var114)) (cond (Nat.blt u 116) (var115) (cond (Nat.blt u 117) (var116) (var117))))) (cond (Nat.blt u 124) (cond (Nat.blt u 121) (cond (Nat.blt u 119) (var118) (var119)) (cond (Nat.blt u 122) (var121) (cond (Nat.blt u 123) (var122) (var123)))) (cond (Nat.blt u 127) (cond (Nat.blt u 125) (var124) (cond (Nat.blt u 126) (var125) (var126))) (cond (Nat.blt u 128) (var127) (cond (Nat.blt u 129) (var128) (var129)))))) (cond (Nat.blt u 169) (cond (Nat.blt u 135) (cond (Nat.blt u 132) (cond (Nat.blt u 131) (var130) (var131)) (cond (Nat.blt u 133) (var132) (cond (Nat.blt u 134) (var133) (var134)))) (cond (Nat.blt u 165) (cond (Nat.blt u 164) (var135) (var164)) (cond (Nat.blt u 166) (var165) (cond (Nat.blt u 167) (var166) (var167))))) (cond (Nat.blt u 176) (cond (Nat.blt u 173) (cond (Nat.blt u 172) (var169) (var172)) (cond (Nat.blt u 174) (var173) (cond (Nat.blt u 175) (var174) (var175)))) (cond (Nat.blt u 202) (cond (Nat.blt u 177) (var176) (cond (Nat.blt u 182) (var177) (var182))) (cond (Nat.blt u 219) (var202) (cond (Nat.blt u 100120) (var219) (var100120)))))))
def gf172 : (ByteArray × ByteArray) → Option ByteArray := fun (a, b) => cond (decide (a.size ≤ 9223372036854775807) && decide (b.size < 4294967281) && b.data.toList.all fun x => decide (x.toNat < 128)) (some ⟨(Lib.trimS a.data.toList b.data.toList).toArray⟩) none
def g172 : var172.PT → Option var172.RT := gf172
def gf173 : (ByteArray × ByteArray) → Option Int := fun (a, b) => some (Lib.compareBytes a.data.toList b.data.toList)
def g173 : var173.PT → Option var173.RT := gf173
def gf219 : (ByteArray × Int) → Option Int := fun (a, b) => some (Lib.indexByte a.data.toList b.toNat.toUInt8)
def g219 : var219.PT → Option var219.RT := gf219
def gvT (u : Nat) : Option ((varT u).PT → Option (varT u).RT) := if h : u = 219 then some (h ▸ g219) else if h : u = 173 then some (h ▸ g173) else if h : u = 172 then some (h ▸ g172) else none
def A : An := ⟨varT, fun f => f, gvT⟩
noncomputable abbrev P : Program := Tryz.prog
/-- interchange/interchangeref1.isName -/
noncomputable def interchangeref1_isName (k : Nat) (a : ByteArray) : Option Bool := callA P A k 116 a
noncomputable def interchangeref1_isName_c4 (k : Nat) (s0 : ByteArray) (s23 : Int) (s24 : Int) : Option Bool := cutA P A k 116 (todoAt P A 116 4) [(0, (.byv .str)), (23, (.byv (.int .i64))), (24, (.byv (.int .i64)))] (s0, s23, s24)
theorem interchangeref1_isName_eq (k : Nat) (a : ByteArray) : interchangeref1_isName (k + 1) a =
  cond ((!(!(cond (eqS a (bs [])) true (decide ((a.size : Int) > 40))))) || true) (
  cond ((!(!(cond (eqS a (bs [])) true (decide ((a.size : Int) > 40))))) || (decide (0 < (a.size : Int)))) (
  cond ((!(!(cond (cond (eqS a (bs [])) true (decide ((a.size : Int) > 40))) true (decide ((bt a 0) < 97))))) || true) (
  cond ((!(!(cond (cond (eqS a (bs [])) true (decide ((a.size : Int) > 40))) true (decide ((bt a 0) < 97))))) || (decide (0 < (a.size : Int)))) (
  cond (cond (cond (cond (eqS a (bs [])) true (decide ((a.size : Int) > 40))) true (decide ((bt a 0) < 97))) true (decide ((bt a 0) > 122))) (
    some false) (
    interchangeref1_isName_c4 k a (a.size : Int) 0)) none) none) none) none := by kernel_rfl
theorem interchangeref1_isName_c4_eq (k : Nat) (s0 : ByteArray) (s23 : Int) (s24 : Int) : interchangeref1_isName_c4 (k + 1) s0 s23 s24 =
  cond (decide (s24 < s23)) (
    cond (decide (0 ≤ s24)) (
    cond (decide (s24 < (s0.size : Int))) (
    cond (cond (cond (cond (decide ((bt s0 s24) < 97)) true (decide ((bt s0 s24) > 122))) (cond (decide ((bt s0 s24) < 48)) true (decide ((bt s0 s24) > 57))) false) ((bt s0 s24) != 45) false) (
      some false) (
      interchangeref1_isName_c4 k s0 s23 (wi64 (s24 + 1)))) none) none) (
    some true) := by kernel_rfl
/-- interchange/interchangeref1.within -/
noncomputable def interchangeref1_within (k : Nat) (a : Int) (b : Int) (c : Int) : Option Bool := callA P A k 60 (a, b, c)
theorem interchangeref1_within_eq (k : Nat) (a : Int) (b : Int) (c : Int) : interchangeref1_within (k + 1) a b c =
  some (cond (decide (b ≤ a)) (decide (a ≤ c)) false) := by kernel_rfl
/-- interchange/interchangeref1.checkUnit -/
noncomputable def interchangeref1_checkUnit (k : Nat) (a : List (ByteArray × ByteArray × Int × Int)) (b : Int) : Option Int := callA P A k 53 (a, b)
theorem interchangeref1_checkUnit_eq (k : Nat) (a : List (ByteArray × ByteArray × Int × Int)) (b : Int) : interchangeref1_checkUnit (k + 1) a b =
  cond (decide (0 ≤ b)) (
  cond (decide (b < (a.length : Int))) (
  (interchangeref1_isName k ((a.getD b.toNat ((bs []), ((bs []), (0, 0)))).1)).bind fun y0 =>
  cond (!y0) (
    some 5) (
    cond ((!(decide (b > 0))) || (decide (0 ≤ (wi64 (b - 1))))) (
    cond ((!(decide (b > 0))) || (decide ((wi64 (b - 1)) < (a.length : Int)))) (
    cond (cond (decide (b > 0)) (ltS ((a.getD b.toNat ((bs []), ((bs []), (0, 0)))).1) ((a.getD (wi64 (b - 1)).toNat ((bs []), ((bs []), (0, 0)))).1) || eqS ((a.getD b.toNat ((bs []), ((bs []), (0, 0)))).1) ((a.getD (wi64 (b - 1)).toNat ((bs []), ((bs []), (0, 0)))).1)) false) (
      some 8) (
      (interchangeref1_within k ((((a.getD b.toNat ((bs []), ((bs []), (0, 0)))).2).2).1) 1 1000000).bind fun y1 =>
      (cond (!(!y1)) (interchangeref1_within k ((((a.getD b.toNat ((bs []), ((bs []), (0, 0)))).2).2).2) 1 1000000) (some false)).bind fun y2 =>
      cond (cond (!y1) true (!y2)) (
        some 1) (
        cond (cond (eqS (((a.getD b.toNat ((bs []), ((bs []), (0, 0)))).2).1) (bs [])) (cond (((((a.getD b.toNat ((bs []), ((bs []), (0, 0)))).2).2).1) != 1) true (((((a.getD b.toNat ((bs []), ((bs []), (0, 0)))).2).2).2) != 1)) false) (
          some 3) (
          some 0)))) none) none)) none) none := by kernel_rfl
/-- interchange/interchangeref1.namesOf -/
noncomputable def interchangeref1_namesOf (k : Nat) (a : List (ByteArray × ByteArray × Int × Int)) : Option (List ByteArray) := callA P A k 118 a
noncomputable def interchangeref1_namesOf_c3 (k : Nat) (s3 : List ByteArray) (s6 : List (ByteArray × ByteArray × Int × Int)) (s7 : Int) (s8 : Int) : Option (List ByteArray) := cutA P A k 118 (todoAt P A 118 3) [(3, (.own 9 .str)), (6, (.byv (.sl (.pair .str (.pair .str (.pair (.int .i64) (.int .i64))))))), (7, (.byv (.int .i64))), (8, (.byv (.int .i64)))] (s3, s6, s7, s8)
theorem interchangeref1_namesOf_eq (k : Nat) (a : List (ByteArray × ByteArray × Int × Int)) : interchangeref1_namesOf (k + 1) a =
  interchangeref1_namesOf_c3 k [] a (a.length : Int) 0 := by kernel_rfl
theorem interchangeref1_namesOf_c3_eq (k : Nat) (s3 : List ByteArray) (s6 : List (ByteArray × ByteArray × Int × Int)) (s7 : Int) (s8 : Int) : interchangeref1_namesOf_c3 (k + 1) s3 s6 s7 s8 =
  cond (decide (s8 < s7)) (
    cond (decide (0 ≤ s8)) (
    cond (decide (s8 < (s6.length : Int))) (
    cond (decide (s3.length + 1 < 8796093022208)) (
    interchangeref1_namesOf_c3 k (s3 ++ [((s6.getD s8.toNat ((bs []), ((bs []), (0, 0)))).1)]) s6 s7 (wi64 (s8 + 1))) none) none) none) (
    some s3) := by kernel_rfl
/-- slices.Index[[]string,string] -/
noncomputable def slices_Index_Lstring_string (k : Nat) (a : List ByteArray) (b : ByteArray) : Option Int := callA P A k 117 (a, b)
noncomputable def slices_Index_Lstring_string_c2 (k : Nat) (s0 : List ByteArray) (s1 : ByteArray) (s7 : Int) (s8 : Int) : Option Int := cutA P A k 117 (todoAt P A 117 2) [(0, (.byv (.sl .str))), (1, (.byv .str)), (7, (.byv (.int .i64))), (8, (.byv (.int .i64)))] (s0, s1, s7, s8)
theorem slices_Index_Lstring_string_eq (k : Nat) (a : List ByteArray) (b : ByteArray) : slices_Index_Lstring_string (k + 1) a b =
  slices_Index_Lstring_string_c2 k a b (a.length : Int) 0 := by kernel_rfl
theorem slices_Index_Lstring_string_c2_eq (k : Nat) (s0 : List ByteArray) (s1 : ByteArray) (s7 : Int) (s8 : Int) : slices_Index_Lstring_string_c2 (k + 1) s0 s1 s7 s8 =
  cond (decide (s8 < s7)) (
    cond (decide (0 ≤ s8)) (
    cond (decide (s8 < (s0.length : Int))) (
    cond (eqS s1 (s0.getD s8.toNat (bs []))) (
      some s8) (
      slices_Index_Lstring_string_c2 k s0 s1 s7 (wi64 (s8 + 1)))) none) none) (
    some (-1)) := by kernel_rfl
/-- interchange/interchangeref1.unitOf -/
noncomputable def interchangeref1_unitOf (k : Nat) (a : List (ByteArray × ByteArray × Int × Int)) (b : ByteArray) : Option Int := callA P A k 54 (a, b)
theorem interchangeref1_unitOf_eq (k : Nat) (a : List (ByteArray × ByteArray × Int × Int)) (b : ByteArray) : interchangeref1_unitOf (k + 1) a b =
  (interchangeref1_namesOf k a).bind fun y0 =>
  (slices_Index_Lstring_string k y0 b).bind fun y1 =>
  some y1 := by kernel_rfl
/-- interchange/interchangeref1.chain -/
noncomputable def interchangeref1_chain (k : Nat) (a : List (ByteArray × ByteArray × Int × Int)) (b : Int) : Option ((List Int) × Bool) := callA P A k 55 (a, b)
noncomputable def interchangeref1_chain_c2 (k : Nat) (s0 : List (ByteArray × ByteArray × Int × Int)) (s1 : Int) (s6 : List Int) : Option ((List Int) × Bool) := cutA P A k 55 (todoAt P A 55 2) [(0, (.byv (.sl (.pair .str (.pair .str (.pair (.int .i64) (.int .i64))))))), (1, (.byv (.int .i64))), (6, (.own 3 (.int .i64)))] (s0, s1, s6)
theorem interchangeref1_chain_eq (k : Nat) (a : List (ByteArray × ByteArray × Int × Int)) (b : Int) : interchangeref1_chain (k + 1) a b =
  interchangeref1_chain_c2 k a b [b] := by kernel_rfl
theorem interchangeref1_chain_c2_eq (k : Nat) (s0 : List (ByteArray × ByteArray × Int × Int)) (s1 : Int) (s6 : List Int) : interchangeref1_chain_c2 (k + 1) s0 s1 s6 =
  cond (decide (0 ≤ s1)) (
  cond (decide (s1 < (s0.length : Int))) (
  cond (!(eqS (((s0.getD s1.toNat ((bs []), ((bs []), (0, 0)))).2).1) (bs []))) (
    cond (decide (0 ≤ s1)) (
    cond (decide (s1 < (s0.length : Int))) (
    (interchangeref1_unitOf k s0 (((s0.getD s1.toNat ((bs []), ((bs []), (0, 0)))).2).1)).bind fun y0 =>
    cond (decide ((s6.length : Int) > (s0.length : Int))) (
      some ([], false)) (
      cond (decide (s6.length + 1 < 17592186044416)) (
      interchangeref1_chain_c2 k s0 y0 (s6 ++ [y0])) none)) none) none) (
    some (s6, true))) none) none := by kernel_rfl
/-- interchange/interchangeref1.CheckUnits -/
noncomputable def interchangeref1_CheckUnits (k : Nat) (a : List (ByteArray × ByteArray × Int × Int)) : Option Int := callA P A k 10 a
noncomputable def interchangeref1_CheckUnits_c4 (k : Nat) (s0 : List (ByteArray × ByteArray × Int × Int)) (s14 : Int) (s15 : Int) : Option Int := cutA P A k 10 (todoAt P A 10 4) [(0, (.byv (.sl (.pair .str (.pair .str (.pair (.int .i64) (.int .i64))))))), (14, (.byv (.int .i64))), (15, (.byv (.int .i64)))] (s0, s14, s15)
noncomputable def interchangeref1_CheckUnits_c11 (k : Nat) (s0 : List (ByteArray × ByteArray × Int × Int)) (s25 : List (ByteArray × ByteArray × Int × Int)) (s26 : Int) (s27 : Int) : Option Int := cutA P A k 10 (todoAt P A 10 11) [(0, (.byv (.sl (.pair .str (.pair .str (.pair (.int .i64) (.int .i64))))))), (25, (.byv (.sl (.pair .str (.pair .str (.pair (.int .i64) (.int .i64))))))), (26, (.byv (.int .i64))), (27, (.byv (.int .i64)))] (s0, s25, s26, s27)
noncomputable def interchangeref1_CheckUnits_c17 (k : Nat) (s0 : List (ByteArray × ByteArray × Int × Int)) (s43 : Int) (s44 : Int) : Option Int := cutA P A k 10 (todoAt P A 10 17) [(0, (.byv (.sl (.pair .str (.pair .str (.pair (.int .i64) (.int .i64))))))), (43, (.byv (.int .i64))), (44, (.byv (.int .i64)))] (s0, s43, s44)
theorem interchangeref1_CheckUnits_eq (k : Nat) (a : List (ByteArray × ByteArray × Int × Int)) : interchangeref1_CheckUnits (k + 1) a =
  cond (decide ((a.length : Int) > 200)) (
    some 2) (
    interchangeref1_CheckUnits_c4 k a (a.length : Int) 0) := by kernel_rfl
theorem interchangeref1_CheckUnits_c4_eq (k : Nat) (s0 : List (ByteArray × ByteArray × Int × Int)) (s14 : Int) (s15 : Int) : interchangeref1_CheckUnits_c4 (k + 1) s0 s14 s15 =
  cond (decide (s15 < s14)) (
    (interchangeref1_checkUnit k s0 s15).bind fun y0 =>
    cond (y0 != 0) (
      some y0) (
      interchangeref1_CheckUnits_c4 k s0 s14 (wi64 (s15 + 1)))) (
    interchangeref1_CheckUnits_c11 k s0 s0 (s0.length : Int) 0) := by kernel_rfl
theorem interchangeref1_CheckUnits_c11_eq (k : Nat) (s0 : List (ByteArray × ByteArray × Int × Int)) (s25 : List (ByteArray × ByteArray × Int × Int)) (s26 : Int) (s27 : Int) : interchangeref1_CheckUnits_c11 (k + 1) s0 s25 s26 s27 =
  cond (decide (s27 < s26)) (
    cond (decide (0 ≤ s27)) (
    cond (decide (s27 < (s25.length : Int))) (
    (cond (!(eqS (((s25.getD s27.toNat ((bs []), ((bs []), (0, 0)))).2).1) (bs []))) (interchangeref1_unitOf k s0 (((s25.getD s27.toNat ((bs []), ((bs []), (0, 0)))).2).1)) (some 0)).bind fun y1 =>
    cond (cond (!(eqS (((s25.getD s27.toNat ((bs []), ((bs []), (0, 0)))).2).1) (bs []))) (decide (y1 < 0)) false) (
      some 9) (
      interchangeref1_CheckUnits_c11 k s0 s25 s26 (wi64 (s27 + 1)))) none) none) (
    interchangeref1_CheckUnits_c17 k s0 (s0.length : Int) 0) := by kernel_rfl
theorem interchangeref1_CheckUnits_c17_eq (k : Nat) (s0 : List (ByteArray × ByteArray × Int × Int)) (s43 : Int) (s44 : Int) : interchangeref1_CheckUnits_c17 (k + 1) s0 s43 s44 =
  cond (decide (s44 < s43)) (
    (interchangeref1_chain k s0 s44).bind fun y2 =>
    cond (!y2.2) (
      some 17) (
      cond (decide ((wi64 ((y2.1.length : Int) - 2)) > 3)) (
        some 2) (
        interchangeref1_CheckUnits_c17 k s0 s43 (wi64 (s44 + 1))))) (
    some 0) := by kernel_rfl
/-- interchange/interchangeref1.askUnits -/
noncomputable def interchangeref1_askUnits (k : Nat) (a : List (ByteArray × ByteArray × Int × Int)) (b : ByteArray) (c : ByteArray) : Option Int := callA P A k 44 (a, b, c)
theorem interchangeref1_askUnits_eq (k : Nat) (a : List (ByteArray × ByteArray × Int × Int)) (b : ByteArray) (c : ByteArray) : interchangeref1_askUnits (k + 1) a b c =
  (interchangeref1_CheckUnits k a).bind fun y0 =>
  cond (y0 != 0) (
    some y0) (
    (interchangeref1_unitOf k a b).bind fun y1 =>
    (cond (!(decide (y1 < 0))) (interchangeref1_unitOf k a c) (some 0)).bind fun y2 =>
    cond (cond (decide (y1 < 0)) true (decide (y2 < 0))) (
      some 5) (
      (interchangeref1_unitOf k a b).bind fun y3 =>
      (interchangeref1_chain k a y3).bind fun y4 =>
      (interchangeref1_unitOf k a c).bind fun y5 =>
      (interchangeref1_chain k a y5).bind fun y6 =>
      cond (decide (0 ≤ (wi64 ((y4.1.length : Int) - 1)))) (
      cond (decide ((wi64 ((y4.1.length : Int) - 1)) < (y4.1.length : Int))) (
      cond (decide (0 ≤ (wi64 ((y6.1.length : Int) - 1)))) (
      cond (decide ((wi64 ((y6.1.length : Int) - 1)) < (y6.1.length : Int))) (
      cond ((y4.1.getD (wi64 ((y4.1.length : Int) - 1)).toNat 0) != (y6.1.getD (wi64 ((y6.1.length : Int) - 1)).toNat 0)) (
        some 6) (
        some 0)) none) none) none) none)) := by kernel_rfl
/-- interchange/interchangeref1.Of -/
noncomputable def interchangeref1_Of (k : Nat) (a : Int) : Option (Bool × List Int) := callA P A k 63 a
noncomputable def interchangeref1_Of_c2 (k : Nat) (s0 : Int) (s2 : Bool × List Int) (s3 : Bool × List Int) : Option (Bool × List Int) := cutA P A k 63 (todoAt P A 63 2) [(0, (.byv (.int .i64))), (2, (.box 74 [(.byv .bool), (.own 3 (.int .i64))])), (3, (.box 74 [(.byv .bool), (.own 3 (.int .i64))]))] (s0, s2, s3)
theorem interchangeref1_Of_eq (k : Nat) (a : Int) : interchangeref1_Of (k + 1) a =
  interchangeref1_Of_c2 k a (false, []) ((decide (a < 0)), []) := by kernel_rfl
theorem interchangeref1_Of_c2_eq (k : Nat) (s0 : Int) (s2 : Bool × List Int) (s3 : Bool × List Int) : interchangeref1_Of_c2 (k + 1) s0 s2 s3 =
  cond (s0 != 0) (
    cond (decide (s3.2.length + 1 < 17592186044416)) (
    interchangeref1_Of_c2 k (wi64 (s0.tdiv 1000000)) s2 (s3.1, (s3.2 ++ [(maxI (s0.tmod 1000000) (wi64 (0 - (s0.tmod 1000000))))]))) none) (
    some s3) := by kernel_rfl
/-- interchange/interchangeref1.trimmed -/
noncomputable def interchangeref1_trimmed (k : Nat) (a : Bool × List Int) : Option (Bool × List Int) := callA P A k 124 a
noncomputable def interchangeref1_trimmed_c1 (k : Nat) (s1 : Bool × List Int) (s2 : Bool × List Int) : Option (Bool × List Int) := cutA P A k 124 (todoAt P A 124 1) [(1, (.box 74 [(.byv .bool), (.byv (.sl (.int .i64)))])), (2, (.box 74 [(.byv .bool), (.own 3 (.int .i64))]))] (s1, s2)
theorem interchangeref1_trimmed_eq (k : Nat) (a : Bool × List Int) : interchangeref1_trimmed (k + 1) a =
  interchangeref1_trimmed_c1 k a (false, []) := by kernel_rfl
theorem interchangeref1_trimmed_c1_eq (k : Nat) (s1 : Bool × List Int) (s2 : Bool × List Int) : interchangeref1_trimmed_c1 (k + 1) s1 s2 =
  cond ((!(decide ((s1.2.length : Int) > 0))) || (decide (0 ≤ (wi64 ((s1.2.length : Int) - 1))))) (
  cond ((!(decide ((s1.2.length : Int) > 0))) || (decide ((wi64 ((s1.2.length : Int) - 1)) < (s1.2.length : Int)))) (
  cond (cond (decide ((s1.2.length : Int) > 0)) ((s1.2.getD (wi64 ((s1.2.length : Int) - 1)).toNat 0) == 0) false) (
    cond (decide (0 ≤ (wi64 ((s1.2.length : Int) - 1)))) (
    cond (decide ((wi64 ((s1.2.length : Int) - 1)) ≤ (s1.2.length : Int))) (
    interchangeref1_trimmed_c1 k (s1.1, (s1.2.take (wi64 ((s1.2.length : Int) - 1)).toNat)) s2) none) none) (
    cond ((s1.2.length : Int) == 0) (
      some (false, s1.2)) (
      some s1))) none) none := by kernel_rfl
/-- interchange/interchangeref1.TimesOf -/
noncomputable def interchangeref1_TimesOf (k : Nat) (a : Bool × List Int) (b : Bool × List Int) : Option (Bool × List Int) := callA P A k 62 (a, b)
noncomputable def interchangeref1_TimesOf_c3 (k : Nat) (s3 : Bool × List Int) (s4 : Bool × List Int) (s5 : Bool × List Int) (s27 : List Int) (s28 : Int) (s29 : Int) : Option (Bool × List Int) := cutA P A k 62 (todoAt P A 62 3) [(3, (.box 74 [(.byv .bool), (.byv (.sl (.int .i64)))])), (4, (.box 74 [(.byv .bool), (.own 3 (.int .i64))])), (5, (.box 74 [(.byv .bool), (.own 3 (.int .i64))])), (27, (.byv (.sl (.int .i64)))), (28, (.byv (.int .i64))), (29, (.byv (.int .i64)))] (s3, s4, s5, s27, s28, s29)
noncomputable def interchangeref1_TimesOf_c6 (k : Nat) (s3 : Bool × List Int) (s4 : Bool × List Int) (s5 : Bool × List Int) (s6 : Int) (s7 : Int) (s27 : List Int) (s28 : Int) (s29 : Int) (s35 : List Int) (s36 : Int) (s37 : Int) : Option (Bool × List Int) := cutA P A k 62 (todoAt P A 62 6) [(3, (.box 74 [(.byv .bool), (.byv (.sl (.int .i64)))])), (4, (.box 74 [(.byv .bool), (.own 3 (.int .i64))])), (5, (.box 74 [(.byv .bool), (.own 3 (.int .i64))])), (6, (.byv (.int .i64))), (7, (.byv (.int .i64))), (27, (.byv (.sl (.int .i64)))), (28, (.byv (.int .i64))), (29, (.byv (.int .i64))), (35, (.byv (.sl (.int .i64)))), (36, (.byv (.int .i64))), (37, (.byv (.int .i64)))] (s3, s4, s5, s6, s7, s27, s28, s29, s35, s36, s37)
noncomputable def interchangeref1_TimesOf_c14 (k : Nat) (s4 : Bool × List Int) (s5 : Bool × List Int) (s86 : Int) (s87 : Int) : Option (Bool × List Int) := cutA P A k 62 (todoAt P A 62 14) [(4, (.box 74 [(.byv .bool), (.own 3 (.int .i64))])), (5, (.box 74 [(.byv .bool), (.own 3 (.int .i64))])), (86, (.byv (.int .i64))), (87, (.byv (.int .i64)))] (s4, s5, s86, s87)
theorem interchangeref1_TimesOf_eq (k : Nat) (a : Bool × List Int) (b : Bool × List Int) : interchangeref1_TimesOf (k + 1) a b =
  cond (decide (0 ≤ (wi64 ((wi64 ((a.2.length : Int) + (b.2.length : Int))) + 1)))) (
  cond (decide ((wi64 ((wi64 ((a.2.length : Int) + (b.2.length : Int))) + 1)).toNat ≤ 17592186044416)) (
  interchangeref1_TimesOf_c3 k b (false, []) ((!(a.1 == b.1)), (List.replicate (wi64 ((wi64 ((a.2.length : Int) + (b.2.length : Int))) + 1)).toNat 0)) a.2 (a.2.length : Int) 0) none) none := by kernel_rfl
theorem interchangeref1_TimesOf_c3_eq (k : Nat) (s3 : Bool × List Int) (s4 : Bool × List Int) (s5 : Bool × List Int) (s27 : List Int) (s28 : Int) (s29 : Int) : interchangeref1_TimesOf_c3 (k + 1) s3 s4 s5 s27 s28 s29 =
  cond (decide (s29 < s28)) (
    cond (decide (0 ≤ s29)) (
    cond (decide (s29 < (s27.length : Int))) (
    interchangeref1_TimesOf_c6 k s3 s4 s5 s29 (s27.getD s29.toNat 0) s27 s28 s29 s3.2 (s3.2.length : Int) 0) none) none) (
    interchangeref1_TimesOf_c14 k s4 s5 (wi64 ((s5.2.length : Int) - 1)) 0) := by kernel_rfl
theorem interchangeref1_TimesOf_c6_eq (k : Nat) (s3 : Bool × List Int) (s4 : Bool × List Int) (s5 : Bool × List Int) (s6 : Int) (s7 : Int) (s27 : List Int) (s28 : Int) (s29 : Int) (s35 : List Int) (s36 : Int) (s37 : Int) : interchangeref1_TimesOf_c6 (k + 1) s3 s4 s5 s6 s7 s27 s28 s29 s35 s36 s37 =
  cond (decide (s37 < s36)) (
    cond (decide (0 ≤ s37)) (
    cond (decide (s37 < (s35.length : Int))) (
    cond (decide (0 ≤ (wi64 (s6 + s37)))) (
    cond (decide ((wi64 (s6 + s37)) < (s5.2.length : Int))) (
    cond (decide (0 ≤ (wi64 (s6 + s37)))) (
    cond (decide ((wi64 (s6 + s37)) < (s5.2.length : Int))) (
    cond (decide (0 ≤ (wi64 ((wi64 (s6 + s37)) + 1)))) (
    cond (decide ((wi64 ((wi64 (s6 + s37)) + 1)) < ((s5.2.set (wi64 (s6 + s37)).toNat (wi64 ((s5.2.getD (wi64 (s6 + s37)).toNat 0) + (wi64 (s7 * (s35.getD s37.toNat 0)))))).length : Int))) (
    cond (decide (0 ≤ (wi64 (s6 + s37)))) (
    cond (decide ((wi64 (s6 + s37)) < ((s5.2.set (wi64 (s6 + s37)).toNat (wi64 ((s5.2.getD (wi64 (s6 + s37)).toNat 0) + (wi64 (s7 * (s35.getD s37.toNat 0)))))).length : Int))) (
    cond (decide (0 ≤ (wi64 ((wi64 (s6 + s37)) + 1)))) (
    cond (decide ((wi64 ((wi64 (s6 + s37)) + 1)) < ((s5.2.set (wi64 (s6 + s37)).toNat (wi64 ((s5.2.getD (wi64 (s6 + s37)).toNat 0) + (wi64 (s7 * (s35.getD s37.toNat 0)))))).length : Int))) (
    cond (decide (0 ≤ (wi64 (s6 + s37)))) (
    cond (decide ((wi64 (s6 + s37)) < (((s5.2.set (wi64 (s6 + s37)).toNat (wi64 ((s5.2.getD (wi64 (s6 + s37)).toNat 0) + (wi64 (s7 * (s35.getD s37.toNat 0)))))).set (wi64 ((wi64 (s6 + s37)) + 1)).toNat (wi64 (((s5.2.set (wi64 (s6 + s37)).toNat (wi64 ((s5.2.getD (wi64 (s6 + s37)).toNat 0) + (wi64 (s7 * (s35.getD s37.toNat 0)))))).getD (wi64 ((wi64 (s6 + s37)) + 1)).toNat 0) + (wi64 (((s5.2.set (wi64 (s6 + s37)).toNat (wi64 ((s5.2.getD (wi64 (s6 + s37)).toNat 0) + (wi64 (s7 * (s35.getD s37.toNat 0)))))).getD (wi64 (s6 + s37)).toNat 0).tdiv 1000000))))).length : Int))) (
    cond (decide (0 ≤ (wi64 (s6 + s37)))) (
    cond (decide ((wi64 (s6 + s37)) < (((s5.2.set (wi64 (s6 + s37)).toNat (wi64 ((s5.2.getD (wi64 (s6 + s37)).toNat 0) + (wi64 (s7 * (s35.getD s37.toNat 0)))))).set (wi64 ((wi64 (s6 + s37)) + 1)).toNat (wi64 (((s5.2.set (wi64 (s6 + s37)).toNat (wi64 ((s5.2.getD (wi64 (s6 + s37)).toNat 0) + (wi64 (s7 * (s35.getD s37.toNat 0)))))).getD (wi64 ((wi64 (s6 + s37)) + 1)).toNat 0) + (wi64 (((s5.2.set (wi64 (s6 + s37)).toNat (wi64 ((s5.2.getD (wi64 (s6 + s37)).toNat 0) + (wi64 (s7 * (s35.getD s37.toNat 0)))))).getD (wi64 (s6 + s37)).toNat 0).tdiv 1000000))))).length : Int))) (
    interchangeref1_TimesOf_c6 k s3 s4 (s5.1, (((s5.2.set (wi64 (s6 + s37)).toNat (wi64 ((s5.2.getD (wi64 (s6 + s37)).toNat 0) + (wi64 (s7 * (s35.getD s37.toNat 0)))))).set (wi64 ((wi64 (s6 + s37)) + 1)).toNat (wi64 (((s5.2.set (wi64 (s6 + s37)).toNat (wi64 ((s5.2.getD (wi64 (s6 + s37)).toNat 0) + (wi64 (s7 * (s35.getD s37.toNat 0)))))).getD (wi64 ((wi64 (s6 + s37)) + 1)).toNat 0) + (wi64 (((s5.2.set (wi64 (s6 + s37)).toNat (wi64 ((s5.2.getD (wi64 (s6 + s37)).toNat 0) + (wi64 (s7 * (s35.getD s37.toNat 0)))))).getD (wi64 (s6 + s37)).toNat 0).tdiv 1000000))))).set (wi64 (s6 + s37)).toNat ((((s5.2.set (wi64 (s6 + s37)).toNat (wi64 ((s5.2.getD (wi64 (s6 + s37)).toNat 0) + (wi64 (s7 * (s35.getD s37.toNat 0)))))).set (wi64 ((wi64 (s6 + s37)) + 1)).toNat (wi64 (((s5.2.set (wi64 (s6 + s37)).toNat (wi64 ((s5.2.getD (wi64 (s6 + s37)).toNat 0) + (wi64 (s7 * (s35.getD s37.toNat 0)))))).getD (wi64 ((wi64 (s6 + s37)) + 1)).toNat 0) + (wi64 (((s5.2.set (wi64 (s6 + s37)).toNat (wi64 ((s5.2.getD (wi64 (s6 + s37)).toNat 0) + (wi64 (s7 * (s35.getD s37.toNat 0)))))).getD (wi64 (s6 + s37)).toNat 0).tdiv 1000000))))).getD (wi64 (s6 + s37)).toNat 0).tmod 1000000))) s6 s7 s27 s28 s29 s35 s36 (wi64 (s37 + 1))) none) none) none) none) none) none) none) none) none) none) none) none) none) none) none) none) (
    interchangeref1_TimesOf_c3 k s3 s4 s5 s27 s28 (wi64 (s29 + 1))) := by kernel_rfl
theorem interchangeref1_TimesOf_c14_eq (k : Nat) (s4 : Bool × List Int) (s5 : Bool × List Int) (s86 : Int) (s87 : Int) : interchangeref1_TimesOf_c14 (k + 1) s4 s5 s86 s87 =
  cond (decide (s87 < s86)) (
    cond (decide (0 ≤ (wi64 (s87 + 1)))) (
    cond (decide ((wi64 (s87 + 1)) < (s5.2.length : Int))) (
    cond (decide (0 ≤ s87)) (
    cond (decide (s87 < (s5.2.length : Int))) (
    cond (decide (0 ≤ (wi64 (s87 + 1)))) (
    cond (decide ((wi64 (s87 + 1)) < (s5.2.length : Int))) (
    cond (decide (0 ≤ s87)) (
    cond (decide (s87 < ((s5.2.set (wi64 (s87 + 1)).toNat (wi64 ((s5.2.getD (wi64 (s87 + 1)).toNat 0) + (wi64 ((s5.2.getD s87.toNat 0).tdiv 1000000))))).length : Int))) (
    cond (decide (0 ≤ s87)) (
    cond (decide (s87 < ((s5.2.set (wi64 (s87 + 1)).toNat (wi64 ((s5.2.getD (wi64 (s87 + 1)).toNat 0) + (wi64 ((s5.2.getD s87.toNat 0).tdiv 1000000))))).length : Int))) (
    interchangeref1_TimesOf_c14 k s4 (s5.1, ((s5.2.set (wi64 (s87 + 1)).toNat (wi64 ((s5.2.getD (wi64 (s87 + 1)).toNat 0) + (wi64 ((s5.2.getD s87.toNat 0).tdiv 1000000))))).set s87.toNat (((s5.2.set (wi64 (s87 + 1)).toNat (wi64 ((s5.2.getD (wi64 (s87 + 1)).toNat 0) + (wi64 ((s5.2.getD s87.toNat 0).tdiv 1000000))))).getD s87.toNat 0).tmod 1000000))) s86 (wi64 (s87 + 1))) none) none) none) none) none) none) none) none) none) none) (
    (interchangeref1_trimmed k s5).bind fun y0 =>
    some y0) := by kernel_rfl
/-- interchange/interchangeref1.toBase -/
noncomputable def interchangeref1_toBase (k : Nat) (a : List (ByteArray × ByteArray × Int × Int)) (b : ByteArray) : Option ((Bool × List Int) × Bool × List Int) := callA P A k 109 (a, b)
noncomputable def interchangeref1_toBase_c4 (k : Nat) (s0 : List (ByteArray × ByteArray × Int × Int)) (s4 : Bool × List Int) (s5 : Bool × List Int) (s20 : List Int) (s21 : Int) (s22 : Int) : Option ((Bool × List Int) × Bool × List Int) := cutA P A k 109 (todoAt P A 109 4) [(0, (.byv (.sl (.pair .str (.pair .str (.pair (.int .i64) (.int .i64))))))), (4, (.box 74 [(.byv .bool), (.byv (.sl (.int .i64)))])), (5, (.box 74 [(.byv .bool), (.byv (.sl (.int .i64)))])), (20, (.own 3 (.int .i64))), (21, (.byv (.int .i64))), (22, (.byv (.int .i64)))] (s0, s4, s5, s20, s21, s22)
theorem interchangeref1_toBase_eq (k : Nat) (a : List (ByteArray × ByteArray × Int × Int)) (b : ByteArray) : interchangeref1_toBase (k + 1) a b =
  (interchangeref1_Of k 1).bind fun y0 =>
  (interchangeref1_Of k 1).bind fun y1 =>
  (interchangeref1_unitOf k a b).bind fun y2 =>
  (interchangeref1_chain k a y2).bind fun y3 =>
  interchangeref1_toBase_c4 k a y0 y1 y3.1 (y3.1.length : Int) 0 := by kernel_rfl
theorem interchangeref1_toBase_c4_eq (k : Nat) (s0 : List (ByteArray × ByteArray × Int × Int)) (s4 : Bool × List Int) (s5 : Bool × List Int) (s20 : List Int) (s21 : Int) (s22 : Int) : interchangeref1_toBase_c4 (k + 1) s0 s4 s5 s20 s21 s22 =
  cond (decide (s22 < s21)) (
    cond (decide (0 ≤ s22)) (
    cond (decide (s22 < (s20.length : Int))) (
    cond (decide (0 ≤ (s20.getD s22.toNat 0))) (
    cond (decide ((s20.getD s22.toNat 0) < (s0.length : Int))) (
    (interchangeref1_Of k ((((s0.getD (s20.getD s22.toNat 0).toNat ((bs []), ((bs []), (0, 0)))).2).2).1)).bind fun y4 =>
    (interchangeref1_TimesOf k s4 y4).bind fun y5 =>
    cond (decide (0 ≤ (s20.getD s22.toNat 0))) (
    cond (decide ((s20.getD s22.toNat 0) < (s0.length : Int))) (
    (interchangeref1_Of k ((((s0.getD (s20.getD s22.toNat 0).toNat ((bs []), ((bs []), (0, 0)))).2).2).2)).bind fun y6 =>
    (interchangeref1_TimesOf k s5 y6).bind fun y7 =>
    interchangeref1_toBase_c4 k s0 y5 y7 s20 s21 (wi64 (s22 + 1))) none) none) none) none) none) none) (
    some (s4, s5)) := by kernel_rfl
/-- interchange/interchangeref1.factor -/
noncomputable def interchangeref1_factor (k : Nat) (a : List (ByteArray × ByteArray × Int × Int)) (b : ByteArray) (c : ByteArray) : Option ((Bool × List Int) × Bool × List Int) := callA P A k 45 (a, b, c)
theorem interchangeref1_factor_eq (k : Nat) (a : List (ByteArray × ByteArray × Int × Int)) (b : ByteArray) (c : ByteArray) : interchangeref1_factor (k + 1) a b c =
  (interchangeref1_toBase k a b).bind fun y0 =>
  (interchangeref1_toBase k a c).bind fun y1 =>
  (interchangeref1_TimesOf k y0.1 y1.2).bind fun y2 =>
  (interchangeref1_TimesOf k y0.2 y1.1).bind fun y3 =>
  some (y2, y3) := by kernel_rfl
/-- interchange/interchangeref1.Sign -/
noncomputable def interchangeref1_Sign (k : Nat) (a : Bool × List Int) : Option Int := callA P A k 110 a
theorem interchangeref1_Sign_eq (k : Nat) (a : Bool × List Int) : interchangeref1_Sign (k + 1) a =
  cond ((a.2.length : Int) == 0) (
    some 0) (
    cond a.1 (
      some (-1)) (
      some 1)) := by kernel_rfl
/-- interchange/interchangeref1.half -/
noncomputable def interchangeref1_half (k : Nat) (a : Bool × List Int) : Option ((Bool × List Int) × Int) := callA P A k 111 a
noncomputable def interchangeref1_half_c4 (k : Nat) (s1 : Bool × List Int) (s2 : Bool × List Int) (s4 : Bool × List Int) (s5 : Int) (s6 : Int) : Option ((Bool × List Int) × Int) := cutA P A k 111 (todoAt P A 111 4) [(1, (.box 74 [(.byv .bool), (.byv (.sl (.int .i64)))])), (2, (.box 74 [(.byv .bool), (.own 3 (.int .i64))])), (4, (.box 74 [(.byv .bool), (.own 3 (.int .i64))])), (5, (.byv (.int .i64))), (6, (.byv (.int .i64)))] (s1, s2, s4, s5, s6)
theorem interchangeref1_half_eq (k : Nat) (a : Bool × List Int) : interchangeref1_half (k + 1) a =
  cond (decide (0 ≤ (a.2.length : Int))) (
  cond (decide ((a.2.length : Int).toNat ≤ 17592186044416)) (
  interchangeref1_half_c4 k a (false, []) (false, (List.replicate (a.2.length : Int).toNat 0)) 0 (wi64 ((a.2.length : Int) - 1))) none) none := by kernel_rfl
theorem interchangeref1_half_c4_eq (k : Nat) (s1 : Bool × List Int) (s2 : Bool × List Int) (s4 : Bool × List Int) (s5 : Int) (s6 : Int) : interchangeref1_half_c4 (k + 1) s1 s2 s4 s5 s6 =
  cond (decide (s6 ≥ 0)) (
    cond (decide (0 ≤ s6)) (
    cond (decide (s6 < (s1.2.length : Int))) (
    cond (decide (0 ≤ s6)) (
    cond (decide (s6 < (s4.2.length : Int))) (
    interchangeref1_half_c4 k s1 s2 (s4.1, (s4.2.set s6.toNat (wi64 ((wi64 ((wi64 (s5 * 1000000)) + (s1.2.getD s6.toNat 0))).tdiv 2)))) ((wi64 ((wi64 (s5 * 1000000)) + (s1.2.getD s6.toNat 0))).tmod 2) (wi64 (s6 - 1))) none) none) none) none) (
    (interchangeref1_trimmed k s4).bind fun y0 =>
    some (y0, s5)) := by kernel_rfl
/-- interchange/interchangeref1.sizes -/
noncomputable def interchangeref1_sizes (k : Nat) (a : List Int) (b : List Int) : Option Int := callA P A k 115 (a, b)
noncomputable def interchangeref1_sizes_c4 (k : Nat) (s0 : List Int) (s1 : List Int) (s5 : Int) : Option Int := cutA P A k 115 (todoAt P A 115 4) [(0, (.byv (.sl (.int .i64)))), (1, (.byv (.sl (.int .i64)))), (5, (.byv (.int .i64)))] (s0, s1, s5)
theorem interchangeref1_sizes_eq (k : Nat) (a : List Int) (b : List Int) : interchangeref1_sizes (k + 1) a b =
  cond ((a.length : Int) != (b.length : Int)) (
    some (wi64 ((a.length : Int) - (b.length : Int)))) (
    interchangeref1_sizes_c4 k a b (wi64 ((a.length : Int) - 1))) := by kernel_rfl
theorem interchangeref1_sizes_c4_eq (k : Nat) (s0 : List Int) (s1 : List Int) (s5 : Int) : interchangeref1_sizes_c4 (k + 1) s0 s1 s5 =
  cond (decide (s5 ≥ 0)) (
    cond (decide (0 ≤ s5)) (
    cond (decide (s5 < (s0.length : Int))) (
    cond (decide (0 ≤ s5)) (
    cond (decide (s5 < (s1.length : Int))) (
    cond ((s0.getD s5.toNat 0) != (s1.getD s5.toNat 0)) (
      cond (decide (0 ≤ s5)) (
      cond (decide (s5 < (s0.length : Int))) (
      cond (decide (0 ≤ s5)) (
      cond (decide (s5 < (s1.length : Int))) (
      some (wi64 ((s0.getD s5.toNat 0) - (s1.getD s5.toNat 0)))) none) none) none) none) (
      interchangeref1_sizes_c4 k s0 s1 (wi64 (s5 - 1)))) none) none) none) none) (
    some 0) := by kernel_rfl
/-- interchange/interchangeref1.digit -/
noncomputable def interchangeref1_digit (k : Nat) (a : List Int) (b : Int) : Option Int := callA P A k 125 (a, b)
theorem interchangeref1_digit_eq (k : Nat) (a : List Int) (b : Int) : interchangeref1_digit (k + 1) a b =
  cond (decide (b < (a.length : Int))) (
    cond (decide (0 ≤ b)) (
    cond (decide (b < (a.length : Int))) (
    some (a.getD b.toNat 0)) none) none) (
    some 0) := by kernel_rfl
/-- interchange/interchangeref1.Plus -/
noncomputable def interchangeref1_Plus (k : Nat) (a : Bool × List Int) (b : Bool × List Int) : Option (Bool × List Int) := callA P A k 112 (a, b)
noncomputable def interchangeref1_Plus_c4 (k : Nat) (s2 : Bool × List Int) (s3 : Bool × List Int) (s4 : Bool × List Int) : Option (Bool × List Int) := cutA P A k 112 (todoAt P A 112 4) [(2, (.box 74 [(.byv .bool), (.byv (.sl (.int .i64)))])), (3, (.box 74 [(.byv .bool), (.byv (.sl (.int .i64)))])), (4, (.box 74 [(.byv .bool), (.own 3 (.int .i64))]))] (s2, s3, s4)
noncomputable def interchangeref1_Plus_c7 (k : Nat) (s2 : Bool × List Int) (s3 : Bool × List Int) (s4 : Bool × List Int) (s5 : Bool × List Int) (s6 : Int) (s31 : Int) (s32 : Int) : Option (Bool × List Int) := cutA P A k 112 (todoAt P A 112 7) [(2, (.box 74 [(.byv .bool), (.byv (.sl (.int .i64)))])), (3, (.box 74 [(.byv .bool), (.byv (.sl (.int .i64)))])), (4, (.box 74 [(.byv .bool), (.own 3 (.int .i64))])), (5, (.box 74 [(.byv .bool), (.own 3 (.int .i64))])), (6, (.byv (.int .i64))), (31, (.byv (.int .i64))), (32, (.byv (.int .i64)))] (s2, s3, s4, s5, s6, s31, s32)
noncomputable def interchangeref1_Plus_c13 (k : Nat) (s2 : Bool × List Int) (s3 : Bool × List Int) (s4 : Bool × List Int) (s5 : Bool × List Int) (s6 : Int) (s8 : Int) (s31 : Int) (s32 : Int) : Option (Bool × List Int) := cutA P A k 112 (todoAt P A 112 13) [(2, (.box 74 [(.byv .bool), (.byv (.sl (.int .i64)))])), (3, (.box 74 [(.byv .bool), (.byv (.sl (.int .i64)))])), (4, (.box 74 [(.byv .bool), (.own 3 (.int .i64))])), (5, (.box 74 [(.byv .bool), (.own 3 (.int .i64))])), (6, (.byv (.int .i64))), (8, (.byv (.int .i64))), (31, (.byv (.int .i64))), (32, (.byv (.int .i64)))] (s2, s3, s4, s5, s6, s8, s31, s32)
noncomputable def interchangeref1_Plus_c19 (k : Nat) (s2 : Bool × List Int) (s3 : Bool × List Int) (s4 : Bool × List Int) (s9 : Bool × List Int) (s10 : Int) (s70 : Int) (s71 : Int) : Option (Bool × List Int) := cutA P A k 112 (todoAt P A 112 19) [(2, (.box 74 [(.byv .bool), (.byv (.sl (.int .i64)))])), (3, (.box 74 [(.byv .bool), (.byv (.sl (.int .i64)))])), (4, (.box 74 [(.byv .bool), (.own 3 (.int .i64))])), (9, (.box 74 [(.byv .bool), (.own 3 (.int .i64))])), (10, (.byv (.int .i64))), (70, (.byv (.int .i64))), (71, (.byv (.int .i64)))] (s2, s3, s4, s9, s10, s70, s71)
theorem interchangeref1_Plus_eq (k : Nat) (a : Bool × List Int) (b : Bool × List Int) : interchangeref1_Plus (k + 1) a b =
  cond (!(a.1 == b.1)) (
    (interchangeref1_sizes k a.2 b.2).bind fun y0 =>
    cond (decide (y0 < 0)) (
      interchangeref1_Plus_c4 k b a (false, [])) (
      interchangeref1_Plus_c4 k a b (false, []))) (
    interchangeref1_Plus_c19 k a b (false, []) (a.1, []) 0 (wi64 ((maxI (a.2.length : Int) (b.2.length : Int)) + 1)) 0) := by kernel_rfl
theorem interchangeref1_Plus_c4_eq (k : Nat) (s2 : Bool × List Int) (s3 : Bool × List Int) (s4 : Bool × List Int) : interchangeref1_Plus_c4 (k + 1) s2 s3 s4 =
  interchangeref1_Plus_c7 k s2 s3 s4 (s2.1, []) 0 (s2.2.length : Int) 0 := by kernel_rfl
theorem interchangeref1_Plus_c7_eq (k : Nat) (s2 : Bool × List Int) (s3 : Bool × List Int) (s4 : Bool × List Int) (s5 : Bool × List Int) (s6 : Int) (s31 : Int) (s32 : Int) : interchangeref1_Plus_c7 (k + 1) s2 s3 s4 s5 s6 s31 s32 =
  cond (decide (s32 < s31)) (
    cond (decide (0 ≤ s32)) (
    cond (decide (s32 < (s2.2.length : Int))) (
    (interchangeref1_digit k s3.2 s32).bind fun y4 =>
    cond (decide ((wi64 ((wi64 ((s2.2.getD s32.toNat 0) - y4)) - s6)) < 0)) (
      interchangeref1_Plus_c13 k s2 s3 s4 s5 1 (wi64 ((wi64 ((wi64 ((s2.2.getD s32.toNat 0) - y4)) - s6)) + 1000000)) s31 s32) (
      interchangeref1_Plus_c13 k s2 s3 s4 s5 0 (wi64 ((wi64 ((s2.2.getD s32.toNat 0) - y4)) - s6)) s31 s32)) none) none) (
    (interchangeref1_trimmed k s5).bind fun y5 =>
    some y5) := by kernel_rfl
theorem interchangeref1_Plus_c13_eq (k : Nat) (s2 : Bool × List Int) (s3 : Bool × List Int) (s4 : Bool × List Int) (s5 : Bool × List Int) (s6 : Int) (s8 : Int) (s31 : Int) (s32 : Int) : interchangeref1_Plus_c13 (k + 1) s2 s3 s4 s5 s6 s8 s31 s32 =
  cond (decide (s5.2.length + 1 < 17592186044416)) (
  interchangeref1_Plus_c7 k s2 s3 s4 (s5.1, (s5.2 ++ [s8])) s6 s31 (wi64 (s32 + 1))) none := by kernel_rfl
theorem interchangeref1_Plus_c19_eq (k : Nat) (s2 : Bool × List Int) (s3 : Bool × List Int) (s4 : Bool × List Int) (s9 : Bool × List Int) (s10 : Int) (s70 : Int) (s71 : Int) : interchangeref1_Plus_c19 (k + 1) s2 s3 s4 s9 s10 s70 s71 =
  cond (decide (s71 < s70)) (
    (interchangeref1_digit k s2.2 s71).bind fun y1 =>
    (interchangeref1_digit k s3.2 s71).bind fun y2 =>
    cond (decide (s9.2.length + 1 < 17592186044416)) (
    interchangeref1_Plus_c19 k s2 s3 s4 (s9.1, (s9.2 ++ [((wi64 ((wi64 (y1 + y2)) + s10)).tmod 1000000)])) (wi64 ((wi64 ((wi64 (y1 + y2)) + s10)).tdiv 1000000)) s70 (wi64 (s71 + 1))) none) (
    (interchangeref1_trimmed k s9).bind fun y3 =>
    some y3) := by kernel_rfl
/-- interchange/interchangeref1.Minus -/
noncomputable def interchangeref1_Minus (k : Nat) (a : Bool × List Int) : Option (Bool × List Int) := callA P A k 114 a
theorem interchangeref1_Minus_eq (k : Nat) (a : Bool × List Int) : interchangeref1_Minus (k + 1) a =
  cond (decide ((a.2.length : Int) > 0)) (
    some ((!a.1), a.2)) (
    some a) := by kernel_rfl
/-- interchange/interchangeref1.Cmp -/
noncomputable def interchangeref1_Cmp (k : Nat) (a : Bool × List Int) (b : Bool × List Int) : Option Int := callA P A k 113 (a, b)
theorem interchangeref1_Cmp_eq (k : Nat) (a : Bool × List Int) (b : Bool × List Int) : interchangeref1_Cmp (k + 1) a b =
  (interchangeref1_Minus k b).bind fun y0 =>
  (interchangeref1_Plus k a y0).bind fun y1 =>
  (interchangeref1_Sign k y1).bind fun y2 =>
  some y2 := by kernel_rfl
/-- interchange/interchangeref1.DivMod -/
noncomputable def interchangeref1_DivMod (k : Nat) (a : Bool × List Int) (b : Bool × List Int) : Option ((Bool × List Int) × Bool × List Int) := callA P A k 47 (a, b)
noncomputable def interchangeref1_DivMod_c3 (k : Nat) (s3 : Bool × List Int) (s4 : Bool × List Int) (s5 : Bool × List Int) (s6 : List Int) (s7 : Bool × List Int) : Option ((Bool × List Int) × Bool × List Int) := cutA P A k 47 (todoAt P A 47 3) [(3, (.box 74 [(.byv .bool), (.byv (.sl (.int .i64)))])), (4, (.box 74 [(.byv .bool), (.own 3 (.int .i64))])), (5, (.box 74 [(.byv .bool), (.own 3 (.int .i64))])), (6, (.own 3 (.int .i64))), (7, (.box 74 [(.byv .bool), (.byv (.sl (.int .i64)))]))] (s3, s4, s5, s6, s7)
noncomputable def interchangeref1_DivMod_c7 (k : Nat) (s3 : Bool × List Int) (s4 : Bool × List Int) (s5 : Bool × List Int) (s6 : List Int) (s28 : Bool × List Int) : Option ((Bool × List Int) × Bool × List Int) := cutA P A k 47 (todoAt P A 47 7) [(3, (.box 74 [(.byv .bool), (.byv (.sl (.int .i64)))])), (4, (.box 74 [(.byv .bool), (.own 3 (.int .i64))])), (5, (.box 74 [(.byv .bool), (.own 3 (.int .i64))])), (6, (.own 3 (.int .i64))), (28, (.byv (.pair .bool (.sl (.int .i64)))))] (s3, s4, s5, s6, s28)
noncomputable def interchangeref1_DivMod_c11 (k : Nat) (s3 : Bool × List Int) (s4 : Bool × List Int) (s5 : Bool × List Int) (s6 : List Int) (s10 : Bool × List Int) (s11 : Bool × List Int) (s12 : Bool × List Int) (s13 : Int) : Option ((Bool × List Int) × Bool × List Int) := cutA P A k 47 (todoAt P A 47 11) [(3, (.box 74 [(.byv .bool), (.byv (.sl (.int .i64)))])), (4, (.box 74 [(.byv .bool), (.own 3 (.int .i64))])), (5, (.box 74 [(.byv .bool), (.own 3 (.int .i64))])), (6, (.own 3 (.int .i64))), (10, (.box 74 [(.byv .bool), (.byv (.sl (.int .i64)))])), (11, (.box 74 [(.byv .bool), (.byv (.sl (.int .i64)))])), (12, (.box 74 [(.byv .bool), (.byv (.sl (.int .i64)))])), (13, (.byv (.int .i64)))] (s3, s4, s5, s6, s10, s11, s12, s13)
theorem interchangeref1_DivMod_eq (k : Nat) (a : Bool × List Int) (b : Bool × List Int) : interchangeref1_DivMod (k + 1) a b =
  interchangeref1_DivMod_c3 k b (false, []) (false, []) [] a := by kernel_rfl
theorem interchangeref1_DivMod_c3_eq (k : Nat) (s3 : Bool × List Int) (s4 : Bool × List Int) (s5 : Bool × List Int) (s6 : List Int) (s7 : Bool × List Int) : interchangeref1_DivMod_c3 (k + 1) s3 s4 s5 s6 s7 =
  (interchangeref1_Sign k s7).bind fun y0 =>
  cond (decide (y0 > 0)) (
    (interchangeref1_half k s7).bind fun y1 =>
    cond (decide (s6.length + 1 < 17592186044416)) (
    interchangeref1_DivMod_c7 k s3 s4 s5 (s6 ++ [y1.2]) y1.1) none) (
    (interchangeref1_Of k 2).bind fun y2 =>
    interchangeref1_DivMod_c11 k s3 s4 s5 s6 (false, []) (false, []) y2 (wi64 ((s6.length : Int) - 1))) := by kernel_rfl
theorem interchangeref1_DivMod_c7_eq (k : Nat) (s3 : Bool × List Int) (s4 : Bool × List Int) (s5 : Bool × List Int) (s6 : List Int) (s28 : Bool × List Int) : interchangeref1_DivMod_c7 (k + 1) s3 s4 s5 s6 s28 =
  interchangeref1_DivMod_c3 k s3 s4 s5 s6 s28 := by kernel_rfl
theorem interchangeref1_DivMod_c11_eq (k : Nat) (s3 : Bool × List Int) (s4 : Bool × List Int) (s5 : Bool × List Int) (s6 : List Int) (s10 : Bool × List Int) (s11 : Bool × List Int) (s12 : Bool × List Int) (s13 : Int) : interchangeref1_DivMod_c11 (k + 1) s3 s4 s5 s6 s10 s11 s12 s13 =
  cond (decide (s13 ≥ 0)) (
    (interchangeref1_TimesOf k s10 s12).bind fun y3 =>
    (interchangeref1_TimesOf k s11 s12).bind fun y4 =>
    cond (decide (0 ≤ s13)) (
    cond (decide (s13 < (s6.length : Int))) (
    (interchangeref1_Of k (s6.getD s13.toNat 0)).bind fun y5 =>
    (interchangeref1_Plus k y4 y5).bind fun y6 =>
    (interchangeref1_Cmp k y6 s3).bind fun y7 =>
    cond (decide (y7 ≥ 0)) (
      (interchangeref1_Of k 1).bind fun y8 =>
      (interchangeref1_Plus k y3 y8).bind fun y9 =>
      (interchangeref1_Minus k s3).bind fun y10 =>
      (interchangeref1_Plus k y6 y10).bind fun y11 =>
      interchangeref1_DivMod_c11 k s3 s4 s5 s6 y9 y11 s12 (wi64 (s13 - 1))) (
      interchangeref1_DivMod_c11 k s3 s4 s5 s6 y3 y6 s12 (wi64 (s13 - 1)))) none) none) (
    some (s10, s11)) := by kernel_rfl
/-- interchange/interchangeref1.divisor -/
noncomputable def interchangeref1_divisor (k : Nat) (a : Bool × List Int) (b : Bool × List Int) : Option (Bool × List Int) := callA P A k 46 (a, b)
noncomputable def interchangeref1_divisor_c1 (k : Nat) (s2 : Bool × List Int) (s3 : Bool × List Int) (s4 : Bool × List Int) : Option (Bool × List Int) := cutA P A k 46 (todoAt P A 46 1) [(2, (.box 74 [(.byv .bool), (.byv (.sl (.int .i64)))])), (3, (.box 74 [(.byv .bool), (.byv (.sl (.int .i64)))])), (4, (.box 74 [(.byv .bool), (.own 3 (.int .i64))]))] (s2, s3, s4)
theorem interchangeref1_divisor_eq (k : Nat) (a : Bool × List Int) (b : Bool × List Int) : interchangeref1_divisor (k + 1) a b =
  interchangeref1_divisor_c1 k a b (false, []) := by kernel_rfl
theorem interchangeref1_divisor_c1_eq (k : Nat) (s2 : Bool × List Int) (s3 : Bool × List Int) (s4 : Bool × List Int) : interchangeref1_divisor_c1 (k + 1) s2 s3 s4 =
  (interchangeref1_Sign k s3).bind fun y0 =>
  cond (y0 != 0) (
    (interchangeref1_DivMod k s2 s3).bind fun y1 =>
    interchangeref1_divisor_c1 k s3 y1.2 s4) (
    some s2) := by kernel_rfl
/-- interchange/interchangeref1.Small -/
noncomputable def interchangeref1_Small (k : Nat) (a : Bool × List Int) (b : Int) : Option (Int × Bool) := callA P A k 48 (a, b)
noncomputable def interchangeref1_Small_c5 (k : Nat) (s2 : Bool × List Int) (s6 : Int) (s7 : Int) : Option (Int × Bool) := cutA P A k 48 (todoAt P A 48 5) [(2, (.box 74 [(.byv .bool), (.byv (.sl (.int .i64)))])), (6, (.byv (.int .i64))), (7, (.byv (.int .i64)))] (s2, s6, s7)
theorem interchangeref1_Small_eq (k : Nat) (a : Bool × List Int) (b : Int) : interchangeref1_Small (k + 1) a b =
  (interchangeref1_Of k b).bind fun y0 =>
  (interchangeref1_sizes k a.2 y0.2).bind fun y1 =>
  cond (decide (y1 > 0)) (
    some (0, false)) (
    interchangeref1_Small_c5 k a 0 (wi64 ((a.2.length : Int) - 1))) := by kernel_rfl
theorem interchangeref1_Small_c5_eq (k : Nat) (s2 : Bool × List Int) (s6 : Int) (s7 : Int) : interchangeref1_Small_c5 (k + 1) s2 s6 s7 =
  cond (decide (s7 ≥ 0)) (
    cond (decide (0 ≤ s7)) (
    cond (decide (s7 < (s2.2.length : Int))) (
    interchangeref1_Small_c5 k s2 (wi64 ((wi64 (s6 * 1000000)) + (s2.2.getD s7.toNat 0))) (wi64 (s7 - 1))) none) none) (
    cond s2.1 (
      some ((wi64 (0 - s6)), true)) (
      some (s6, true))) := by kernel_rfl
/-- interchange/interchangeref1.Factor -/
noncomputable def interchangeref1_Factor (k : Nat) (a : List (ByteArray × ByteArray × Int × Int)) (b : ByteArray) (c : ByteArray) : Option ((Int × Int) × Int) := callA P A k 8 (a, b, c)
theorem interchangeref1_Factor_eq (k : Nat) (a : List (ByteArray × ByteArray × Int × Int)) (b : ByteArray) (c : ByteArray) : interchangeref1_Factor (k + 1) a b c =
  (interchangeref1_askUnits k a b c).bind fun y0 =>
  cond (y0 != 0) (
    some ((0, 0), y0)) (
    (interchangeref1_factor k a b c).bind fun y1 =>
    (interchangeref1_divisor k y1.1 y1.2).bind fun y2 =>
    (interchangeref1_DivMod k y1.1 y2).bind fun y3 =>
    (interchangeref1_DivMod k y1.2 y2).bind fun y4 =>
    (interchangeref1_Small k y3.1 1000000000000000).bind fun y5 =>
    (interchangeref1_Small k y4.1 1000000000000000).bind fun y6 =>
    cond (cond (!y5.2) true (!y6.2)) (
      some ((0, 0), 1)) (
      some ((y5.1, y6.1), 0))) := by kernel_rfl
/-- strings.Trim -/
noncomputable def strings_Trim (k : Nat) (a : ByteArray) (b : ByteArray) : Option ByteArray := callA P A k 172 (a, b)
theorem strings_Trim_eq (k : Nat) (a : ByteArray) (b : ByteArray) : strings_Trim k a b = cond (decide (a.size ≤ 9223372036854775807) && decide (b.size < 4294967281) && b.data.toList.all fun x => decide (x.toNat < 128)) (some ⟨(Lib.trimS a.data.toList b.data.toList).toArray⟩) none := by kernel_rfl
/-- interchange/kit.IsName -/
noncomputable def kit_IsName (k : Nat) (a : ByteArray) : Option Bool := callA P A k 119 a
theorem kit_IsName_eq (k : Nat) (a : ByteArray) : kit_IsName (k + 1) a =
  cond ((!(!(cond (decide ((a.size : Int) < 1)) true (decide ((a.size : Int) > 40))))) || true) (
  cond ((!(!(cond (decide ((a.size : Int) < 1)) true (decide ((a.size : Int) > 40))))) || (decide (0 < (a.size : Int)))) (
  cond ((!(!(cond (cond (decide ((a.size : Int) < 1)) true (decide ((a.size : Int) > 40))) true (decide ((bt a 0) < 97))))) || true) (
  cond ((!(!(cond (cond (decide ((a.size : Int) < 1)) true (decide ((a.size : Int) > 40))) true (decide ((bt a 0) < 97))))) || (decide (0 < (a.size : Int)))) (
  cond (cond (cond (cond (decide ((a.size : Int) < 1)) true (decide ((a.size : Int) > 40))) true (decide ((bt a 0) < 97))) true (decide ((bt a 0) > 122))) (
    some false) (
    (strings_Trim k a (bs [97, 98, 99, 100, 101, 102, 103, 104, 105, 106, 107, 108, 109, 110, 111, 112, 113, 114, 115, 116, 117, 118, 119, 120, 121, 122, 48, 49, 50, 51, 52, 53, 54, 55, 56, 57, 45])).bind fun y0 =>
    some (eqS y0 (bs [])))) none) none) none) none := by kernel_rfl
/-- interchange/kit.Outside -/
noncomputable def kit_Outside (k : Nat) (a : Int) (b : Int) (c : Int) : Option Bool := callA P A k 89 (a, b, c)
theorem kit_Outside_eq (k : Nat) (a : Int) (b : Int) (c : Int) : kit_Outside (k + 1) a b c =
  some (cond (decide (a < b)) true (decide (a > c))) := by kernel_rfl
/-- interchange/amount.unitFault -/
noncomputable def amount_unitFault (k : Nat) (a : List (ByteArray × ByteArray × Int × Int)) (b : Int) : Option Int := callA P A k 56 (a, b)
theorem amount_unitFault_eq (k : Nat) (a : List (ByteArray × ByteArray × Int × Int)) (b : Int) : amount_unitFault (k + 1) a b =
  cond (decide (0 ≤ b)) (
  cond (decide (b < (a.length : Int))) (
  (kit_IsName k ((a.getD b.toNat ((bs []), ((bs []), (0, 0)))).1)).bind fun y0 =>
  cond (!y0) (
    some 5) (
    cond ((!(decide (b > 0))) || (decide (0 ≤ (wi64 (b - 1))))) (
    cond ((!(decide (b > 0))) || (decide ((wi64 (b - 1)) < (a.length : Int)))) (
    cond (cond (decide (b > 0)) (ltS ((a.getD b.toNat ((bs []), ((bs []), (0, 0)))).1) ((a.getD (wi64 (b - 1)).toNat ((bs []), ((bs []), (0, 0)))).1) || eqS ((a.getD b.toNat ((bs []), ((bs []), (0, 0)))).1) ((a.getD (wi64 (b - 1)).toNat ((bs []), ((bs []), (0, 0)))).1)) false) (
      some 8) (
      (kit_Outside k ((((a.getD b.toNat ((bs []), ((bs []), (0, 0)))).2).2).1) 1 1000000).bind fun y1 =>
      (cond (!y1) (kit_Outside k ((((a.getD b.toNat ((bs []), ((bs []), (0, 0)))).2).2).2) 1 1000000) (some false)).bind fun y2 =>
      cond (cond y1 true y2) (
        some 1) (
        cond (cond (eqS (((a.getD b.toNat ((bs []), ((bs []), (0, 0)))).2).1) (bs [])) (cond (((((a.getD b.toNat ((bs []), ((bs []), (0, 0)))).2).2).1) != 1) true (((((a.getD b.toNat ((bs []), ((bs []), (0, 0)))).2).2).2) != 1)) false) (
          some 3) (
          some 0)))) none) none)) none) none := by kernel_rfl
/-- internal/bytealg.CompareString -/
noncomputable def bytealg_CompareString (k : Nat) (a : ByteArray) (b : ByteArray) : Option Int := callA P A k 173 (a, b)
theorem bytealg_CompareString_eq (k : Nat) (a : ByteArray) (b : ByteArray) : bytealg_CompareString k a b = some (Lib.compareBytes a.data.toList b.data.toList) := by kernel_rfl
/-- strings.Compare -/
noncomputable def strings_Compare (k : Nat) (a : ByteArray) (b : ByteArray) : Option Int := callA P A k 122 (a, b)
theorem strings_Compare_eq (k : Nat) (a : ByteArray) (b : ByteArray) : strings_Compare (k + 1) a b =
  (bytealg_CompareString k a b).bind fun y0 =>
  some y0 := by kernel_rfl
/-- interchange/amount.unitAt$1 -/
noncomputable def amount_unitAt_1 (k : Nat) (a : ByteArray × ByteArray × Int × Int) (b : ByteArray) : Option Int := callA P A k 121 (a, b)
theorem amount_unitAt_1_eq (k : Nat) (a : ByteArray × ByteArray × Int × Int) (b : ByteArray) : amount_unitAt_1 (k + 1) a b =
  (strings_Compare k a.1 b).bind fun y0 =>
  some y0 := by kernel_rfl
/-- slices.BinarySearchFunc[[]interchange/api.Unit,interchange/api.Unit,string] -/
noncomputable def slices_BinarySearchFunc_Lapi_Unit_api_Unit_string_1 (k : Nat) (a : List (ByteArray × ByteArray × Int × Int)) (b : ByteArray) (c : Unit) : Option (Int × Bool) := callA P A k 100120 (a, b, c)
noncomputable def slices_BinarySearchFunc_Lapi_Unit_api_Unit_string_1_c3 (k : Nat) (s0 : List (ByteArray × ByteArray × Int × Int)) (s1 : ByteArray) (s2 : Unit) (s8 : Int) (s9 : Int) (s10 : Int) : Option (Int × Bool) := cutA P A k 100120 (todoAt P A 100120 3) [(0, (.byv (.sl (.pair .str (.pair .str (.pair (.int .i64) (.int .i64))))))), (1, (.byv .str)), (2, (.fn 121 [])), (8, (.byv (.int .i64))), (9, (.byv (.int .i64))), (10, (.byv (.int .i64)))] (s0, s1, s2, s8, s9, s10)
theorem slices_BinarySearchFunc_Lapi_Unit_api_Unit_string_1_eq (k : Nat) (a : List (ByteArray × ByteArray × Int × Int)) (b : ByteArray) (c : Unit) : slices_BinarySearchFunc_Lapi_Unit_api_Unit_string_1 (k + 1) a b c =
  slices_BinarySearchFunc_Lapi_Unit_api_Unit_string_1_c3 k a b () (a.length : Int) 0 (a.length : Int) := by kernel_rfl
theorem slices_BinarySearchFunc_Lapi_Unit_api_Unit_string_1_c3_eq (k : Nat) (s0 : List (ByteArray × ByteArray × Int × Int)) (s1 : ByteArray) (s2 : Unit) (s8 : Int) (s9 : Int) (s10 : Int) : slices_BinarySearchFunc_Lapi_Unit_api_Unit_string_1_c3 (k + 1) s0 s1 s2 s8 s9 s10 =
  cond (decide (s9 < s10)) (
    cond (decide (0 ≤ (wi64 (shrI .u64 (wu64 (wi64 (s9 + s10))) 1)))) (
    cond (decide ((wi64 (shrI .u64 (wu64 (wi64 (s9 + s10))) 1)) < (s0.length : Int))) (
    (amount_unitAt_1 k (((s0.getD (wi64 (shrI .u64 (wu64 (wi64 (s9 + s10))) 1)).toNat ((bs []), ((bs []), (0, 0)))).1), ((((s0.getD (wi64 (shrI .u64 (wu64 (wi64 (s9 + s10))) 1)).toNat ((bs []), ((bs []), (0, 0)))).2).1), (((((s0.getD (wi64 (shrI .u64 (wu64 (wi64 (s9 + s10))) 1)).toNat ((bs []), ((bs []), (0, 0)))).2).2).1), ((((s0.getD (wi64 (shrI .u64 (wu64 (wi64 (s9 + s10))) 1)).toNat ((bs []), ((bs []), (0, 0)))).2).2).2)))) s1).bind fun y0 =>
    cond (decide (y0 < 0)) (
      slices_BinarySearchFunc_Lapi_Unit_api_Unit_string_1_c3 k s0 s1 () s8 (wi64 ((wi64 (shrI .u64 (wu64 (wi64 (s9 + s10))) 1)) + 1)) s10) (
      slices_BinarySearchFunc_Lapi_Unit_api_Unit_string_1_c3 k s0 s1 () s8 s9 (wi64 (shrI .u64 (wu64 (wi64 (s9 + s10))) 1)))) none) none) (
    cond ((!(decide (s9 < s8))) || (decide (0 ≤ s9))) (
    cond ((!(decide (s9 < s8))) || (decide (s9 < (s0.length : Int)))) (
    (cond (decide (s9 < s8)) (amount_unitAt_1 k (((s0.getD s9.toNat ((bs []), ((bs []), (0, 0)))).1), ((((s0.getD s9.toNat ((bs []), ((bs []), (0, 0)))).2).1), (((((s0.getD s9.toNat ((bs []), ((bs []), (0, 0)))).2).2).1), ((((s0.getD s9.toNat ((bs []), ((bs []), (0, 0)))).2).2).2)))) s1) (some 0)).bind fun y1 =>
    some (s9, (cond (decide (s9 < s8)) (y1 == 0) false))) none) none) := by kernel_rfl
/-- interchange/amount.unitAt -/
noncomputable def amount_unitAt (k : Nat) (a : List (ByteArray × ByteArray × Int × Int)) (b : ByteArray) : Option (Int × Bool) := callA P A k 57 (a, b)
theorem amount_unitAt_eq (k : Nat) (a : List (ByteArray × ByteArray × Int × Int)) (b : ByteArray) : amount_unitAt (k + 1) a b =
  (slices_BinarySearchFunc_Lapi_Unit_api_Unit_string_1 k a b ()).bind fun y0 =>
  some y0 := by kernel_rfl
/-- slices.Index[[]int,int] -/
noncomputable def slices_Index_Lint_int (k : Nat) (a : List Int) (b : Int) : Option Int := callA P A k 174 (a, b)
noncomputable def slices_Index_Lint_int_c2 (k : Nat) (s0 : List Int) (s1 : Int) (s7 : Int) (s8 : Int) : Option Int := cutA P A k 174 (todoAt P A 174 2) [(0, (.byv (.sl (.int .i64)))), (1, (.byv (.int .i64))), (7, (.byv (.int .i64))), (8, (.byv (.int .i64)))] (s0, s1, s7, s8)
theorem slices_Index_Lint_int_eq (k : Nat) (a : List Int) (b : Int) : slices_Index_Lint_int (k + 1) a b =
  slices_Index_Lint_int_c2 k a b (a.length : Int) 0 := by kernel_rfl
theorem slices_Index_Lint_int_c2_eq (k : Nat) (s0 : List Int) (s1 : Int) (s7 : Int) (s8 : Int) : slices_Index_Lint_int_c2 (k + 1) s0 s1 s7 s8 =
  cond (decide (s8 < s7)) (
    cond (decide (0 ≤ s8)) (
    cond (decide (s8 < (s0.length : Int))) (
    cond (s1 == (s0.getD s8.toNat 0)) (
      some s8) (
      slices_Index_Lint_int_c2 k s0 s1 s7 (wi64 (s8 + 1)))) none) none) (
    some (-1)) := by kernel_rfl
/-- slices.Contains[[]int,int] -/
noncomputable def slices_Contains_Lint_int (k : Nat) (a : List Int) (b : Int) : Option Bool := callA P A k 123 (a, b)
theorem slices_Contains_Lint_int_eq (k : Nat) (a : List Int) (b : Int) : slices_Contains_Lint_int (k + 1) a b =
  (slices_Index_Lint_int k a b).bind fun y0 =>
  some (decide (y0 ≥ 0)) := by kernel_rfl
/-- interchange/amount.steps -/
noncomputable def amount_steps (k : Nat) (a : List (ByteArray × ByteArray × Int × Int)) (b : Int) : Option ((List Int) × Bool) := callA P A k 58 (a, b)
noncomputable def amount_steps_c2 (k : Nat) (s0 : List (ByteArray × ByteArray × Int × Int)) (s1 : Int) (s6 : List Int) : Option ((List Int) × Bool) := cutA P A k 58 (todoAt P A 58 2) [(0, (.byv (.sl (.pair .str (.pair .str (.pair (.int .i64) (.int .i64))))))), (1, (.byv (.int .i64))), (6, (.own 3 (.int .i64)))] (s0, s1, s6)
theorem amount_steps_eq (k : Nat) (a : List (ByteArray × ByteArray × Int × Int)) (b : Int) : amount_steps (k + 1) a b =
  amount_steps_c2 k a b [b] := by kernel_rfl
theorem amount_steps_c2_eq (k : Nat) (s0 : List (ByteArray × ByteArray × Int × Int)) (s1 : Int) (s6 : List Int) : amount_steps_c2 (k + 1) s0 s1 s6 =
  cond (decide (0 ≤ s1)) (
  cond (decide (s1 < (s0.length : Int))) (
  cond (!(eqS (((s0.getD s1.toNat ((bs []), ((bs []), (0, 0)))).2).1) (bs []))) (
    cond (decide (0 ≤ s1)) (
    cond (decide (s1 < (s0.length : Int))) (
    (amount_unitAt k s0 (((s0.getD s1.toNat ((bs []), ((bs []), (0, 0)))).2).1)).bind fun y0 =>
    (slices_Contains_Lint_int k s6 y0.1).bind fun y1 =>
    cond y1 (
      some ([], false)) (
      cond (decide (s6.length + 1 < 17592186044416)) (
      amount_steps_c2 k s0 y0.1 (s6 ++ [y0.1])) none)) none) none) (
    some (s6, true))) none) none := by kernel_rfl
/-- interchange/amount.CheckUnits -/
noncomputable def amount_CheckUnits (k : Nat) (a : List (ByteArray × ByteArray × Int × Int)) : Option Int := callA P A k 11 a
noncomputable def amount_CheckUnits_c4 (k : Nat) (s0 : List (ByteArray × ByteArray × Int × Int)) (s16 : Int) (s17 : Int) : Option Int := cutA P A k 11 (todoAt P A 11 4) [(0, (.byv (.sl (.pair .str (.pair .str (.pair (.int .i64) (.int .i64))))))), (16, (.byv (.int .i64))), (17, (.byv (.int .i64)))] (s0, s16, s17)
noncomputable def amount_CheckUnits_c11 (k : Nat) (s0 : List (ByteArray × ByteArray × Int × Int)) (s27 : List (ByteArray × ByteArray × Int × Int)) (s28 : Int) (s29 : Int) : Option Int := cutA P A k 11 (todoAt P A 11 11) [(0, (.byv (.sl (.pair .str (.pair .str (.pair (.int .i64) (.int .i64))))))), (27, (.byv (.sl (.pair .str (.pair .str (.pair (.int .i64) (.int .i64))))))), (28, (.byv (.int .i64))), (29, (.byv (.int .i64)))] (s0, s27, s28, s29)
noncomputable def amount_CheckUnits_c18 (k : Nat) (s0 : List (ByteArray × ByteArray × Int × Int)) (s49 : Int) (s50 : Int) : Option Int := cutA P A k 11 (todoAt P A 11 18) [(0, (.byv (.sl (.pair .str (.pair .str (.pair (.int .i64) (.int .i64))))))), (49, (.byv (.int .i64))), (50, (.byv (.int .i64)))] (s0, s49, s50)
theorem amount_CheckUnits_eq (k : Nat) (a : List (ByteArray × ByteArray × Int × Int)) : amount_CheckUnits (k + 1) a =
  cond (decide ((a.length : Int) > 200)) (
    some 2) (
    amount_CheckUnits_c4 k a (a.length : Int) 0) := by kernel_rfl
theorem amount_CheckUnits_c4_eq (k : Nat) (s0 : List (ByteArray × ByteArray × Int × Int)) (s16 : Int) (s17 : Int) : amount_CheckUnits_c4 (k + 1) s0 s16 s17 =
  cond (decide (s17 < s16)) (
    (amount_unitFault k s0 s17).bind fun y0 =>
    cond (y0 != 0) (
      some y0) (
      amount_CheckUnits_c4 k s0 s16 (wi64 (s17 + 1)))) (
    amount_CheckUnits_c11 k s0 s0 (s0.length : Int) 0) := by kernel_rfl
theorem amount_CheckUnits_c11_eq (k : Nat) (s0 : List (ByteArray × ByteArray × Int × Int)) (s27 : List (ByteArray × ByteArray × Int × Int)) (s28 : Int) (s29 : Int) : amount_CheckUnits_c11 (k + 1) s0 s27 s28 s29 =
  cond (decide (s29 < s28)) (
    cond (decide (0 ≤ s29)) (
    cond (decide (s29 < (s27.length : Int))) (
    (amount_unitAt k s0 (((s27.getD s29.toNat ((bs []), ((bs []), (0, 0)))).2).1)).bind fun y1 =>
    cond (cond (!(eqS (((s27.getD s29.toNat ((bs []), ((bs []), (0, 0)))).2).1) (bs []))) (!y1.2) false) (
      some 9) (
      amount_CheckUnits_c11 k s0 s27 s28 (wi64 (s29 + 1)))) none) none) (
    amount_CheckUnits_c18 k s0 (s0.length : Int) 0) := by kernel_rfl
theorem amount_CheckUnits_c18_eq (k : Nat) (s0 : List (ByteArray × ByteArray × Int × Int)) (s49 : Int) (s50 : Int) : amount_CheckUnits_c18 (k + 1) s0 s49 s50 =
  cond (decide (s50 < s49)) (
    (amount_steps k s0 s50).bind fun y2 =>
    cond (!y2.2) (
      some 17) (
      cond (decide ((wi64 ((y2.1.length : Int) - 2)) > 3)) (
        some 2) (
        amount_CheckUnits_c18 k s0 s49 (wi64 (s50 + 1))))) (
    some 0) := by kernel_rfl
/-- interchange/amount.factor -/
noncomputable def amount_factor (k : Nat) (a : List (ByteArray × ByteArray × Int × Int)) (b : ByteArray) (c : ByteArray) : Option ((List Int) × (List Int) × Int) := callA P A k 49 (a, b, c)
noncomputable def amount_factor_c13 (k : Nat) (s0 : List (ByteArray × ByteArray × Int × Int)) (s6 : List Int) (s7 : List Int) (s16 : List Int) (s70 : List Int) (s71 : Int) (s72 : Int) : Option ((List Int) × (List Int) × Int) := cutA P A k 49 (todoAt P A 49 13) [(0, (.byv (.sl (.pair .str (.pair .str (.pair (.int .i64) (.int .i64))))))), (6, (.own 3 (.int .i64))), (7, (.own 3 (.int .i64))), (16, (.own 3 (.int .i64))), (70, (.own 3 (.int .i64))), (71, (.byv (.int .i64))), (72, (.byv (.int .i64)))] (s0, s6, s7, s16, s70, s71, s72)
noncomputable def amount_factor_c18 (k : Nat) (s0 : List (ByteArray × ByteArray × Int × Int)) (s6 : List Int) (s7 : List Int) (s93 : List Int) (s94 : Int) (s95 : Int) : Option ((List Int) × (List Int) × Int) := cutA P A k 49 (todoAt P A 49 18) [(0, (.byv (.sl (.pair .str (.pair .str (.pair (.int .i64) (.int .i64))))))), (6, (.own 3 (.int .i64))), (7, (.own 3 (.int .i64))), (93, (.own 3 (.int .i64))), (94, (.byv (.int .i64))), (95, (.byv (.int .i64)))] (s0, s6, s7, s93, s94, s95)
theorem amount_factor_eq (k : Nat) (a : List (ByteArray × ByteArray × Int × Int)) (b : ByteArray) (c : ByteArray) : amount_factor (k + 1) a b c =
  (amount_CheckUnits k a).bind fun y0 =>
  cond (y0 != 0) (
    some ([], ([], y0))) (
    (amount_unitAt k a b).bind fun y1 =>
    (amount_unitAt k a c).bind fun y2 =>
    cond (cond (!y1.2) true (!y2.2)) (
      some ([], ([], 5))) (
      (amount_steps k a y1.1).bind fun y3 =>
      (amount_steps k a y2.1).bind fun y4 =>
      cond (decide (0 ≤ (wi64 ((y3.1.length : Int) - 1)))) (
      cond (decide ((wi64 ((y3.1.length : Int) - 1)) < (y3.1.length : Int))) (
      cond (decide (0 ≤ (wi64 ((y4.1.length : Int) - 1)))) (
      cond (decide ((wi64 ((y4.1.length : Int) - 1)) < (y4.1.length : Int))) (
      cond ((y3.1.getD (wi64 ((y3.1.length : Int) - 1)).toNat 0) != (y4.1.getD (wi64 ((y4.1.length : Int) - 1)).toNat 0)) (
        some ([], ([], 6))) (
        amount_factor_c13 k a [] [] y4.1 y3.1 (y3.1.length : Int) 0)) none) none) none) none)) := by kernel_rfl
theorem amount_factor_c13_eq (k : Nat) (s0 : List (ByteArray × ByteArray × Int × Int)) (s6 : List Int) (s7 : List Int) (s16 : List Int) (s70 : List Int) (s71 : Int) (s72 : Int) : amount_factor_c13 (k + 1) s0 s6 s7 s16 s70 s71 s72 =
  cond (decide (s72 < s71)) (
    cond (decide (0 ≤ s72)) (
    cond (decide (s72 < (s70.length : Int))) (
    cond (decide (0 ≤ (s70.getD s72.toNat 0))) (
    cond (decide ((s70.getD s72.toNat 0) < (s0.length : Int))) (
    cond (decide (s6.length + 1 < 17592186044416)) (
    cond (decide (0 ≤ (s70.getD s72.toNat 0))) (
    cond (decide ((s70.getD s72.toNat 0) < (s0.length : Int))) (
    cond (decide (s7.length + 1 < 17592186044416)) (
    amount_factor_c13 k s0 (s6 ++ [((((s0.getD (s70.getD s72.toNat 0).toNat ((bs []), ((bs []), (0, 0)))).2).2).1)]) (s7 ++ [((((s0.getD (s70.getD s72.toNat 0).toNat ((bs []), ((bs []), (0, 0)))).2).2).2)]) s16 s70 s71 (wi64 (s72 + 1))) none) none) none) none) none) none) none) none) (
    amount_factor_c18 k s0 s6 s7 s16 (s16.length : Int) 0) := by kernel_rfl
theorem amount_factor_c18_eq (k : Nat) (s0 : List (ByteArray × ByteArray × Int × Int)) (s6 : List Int) (s7 : List Int) (s93 : List Int) (s94 : Int) (s95 : Int) : amount_factor_c18 (k + 1) s0 s6 s7 s93 s94 s95 =
  cond (decide (s95 < s94)) (
    cond (decide (0 ≤ s95)) (
    cond (decide (s95 < (s93.length : Int))) (
    cond (decide (0 ≤ (s93.getD s95.toNat 0))) (
    cond (decide ((s93.getD s95.toNat 0) < (s0.length : Int))) (
    cond (decide (s6.length + 1 < 17592186044416)) (
    cond (decide (0 ≤ (s93.getD s95.toNat 0))) (
    cond (decide ((s93.getD s95.toNat 0) < (s0.length : Int))) (
    cond (decide (s7.length + 1 < 17592186044416)) (
    amount_factor_c18 k s0 (s6 ++ [((((s0.getD (s93.getD s95.toNat 0).toNat ((bs []), ((bs []), (0, 0)))).2).2).2)]) (s7 ++ [((((s0.getD (s93.getD s95.toNat 0).toNat ((bs []), ((bs []), (0, 0)))).2).2).1)]) s93 s94 (wi64 (s95 + 1))) none) none) none) none) none) none) none) none) (
    some (s6, (s7, 0))) := by kernel_rfl
/-- interchange/whole.trimmed -/
noncomputable def whole_trimmed (k : Nat) (a : List Int) : Option (List Int) := callA P A k 167 a
noncomputable def whole_trimmed_c1 (k : Nat) (s0 : List Int) : Option (List Int) := cutA P A k 167 (todoAt P A 167 1) [(0, (.byv (.sl (.int .u32))))] s0
theorem whole_trimmed_eq (k : Nat) (a : List Int) : whole_trimmed (k + 1) a =
  whole_trimmed_c1 k a := by kernel_rfl
theorem whole_trimmed_c1_eq (k : Nat) (s0 : List Int) : whole_trimmed_c1 (k + 1) s0 =
  cond ((!(decide ((s0.length : Int) > 0))) || (decide (0 ≤ (wi64 ((s0.length : Int) - 1))))) (
  cond ((!(decide ((s0.length : Int) > 0))) || (decide ((wi64 ((s0.length : Int) - 1)) < (s0.length : Int)))) (
  cond (cond (decide ((s0.length : Int) > 0)) ((s0.getD (wi64 ((s0.length : Int) - 1)).toNat 0) == 0) false) (
    cond (decide (0 ≤ (wi64 ((s0.length : Int) - 1)))) (
    cond (decide ((wi64 ((s0.length : Int) - 1)) ≤ (s0.length : Int))) (
    whole_trimmed_c1 k (s0.take (wi64 ((s0.length : Int) - 1)).toNat)) none) none) (
    some s0)) none) none := by kernel_rfl
/-- interchange/whole.made -/
noncomputable def whole_made (k : Nat) (a : Bool) (b : List Int) : Option (Bool × List Int) := callA P A k 127 (a, b)
theorem whole_made_eq (k : Nat) (a : Bool) (b : List Int) : whole_made (k + 1) a b =
  (whole_trimmed k b).bind fun y0 =>
  some ((cond a (decide ((y0.length : Int) > 0)) false), y0) := by kernel_rfl
/-- interchange/whole.Of -/
noncomputable def whole_Of (k : Nat) (a : Int) : Option (Bool × List Int) := callA P A k 69 a
theorem whole_Of_eq (k : Nat) (a : Int) : whole_Of (k + 1) a =
  cond (decide (a < 0)) (
    (whole_made k (decide (a < 0)) [(wu32 (wu64 (0 - (wu64 a)))), (wu32 (shrI .u64 (wu64 (0 - (wu64 a))) 32))]).bind fun y0 =>
    some y0) (
    (whole_made k (decide (a < 0)) [(wu32 (wu64 a)), (wu32 (shrI .u64 (wu64 a) 32))]).bind fun y1 =>
    some y1) := by kernel_rfl
/-- (interchange/whole.Int).Times -/
noncomputable def whole_Int_Times (k : Nat) (a : Bool × List Int) (b : Bool × List Int) : Option (Bool × List Int) := callA P A k 70 (a, b)
noncomputable def whole_Int_Times_c3 (k : Nat) (s2 : Bool × List Int) (s3 : Bool × List Int) (s4 : Bool × List Int) (s5 : List Int) (s20 : List Int) (s21 : Int) (s22 : Int) : Option (Bool × List Int) := cutA P A k 70 (todoAt P A 70 3) [(2, (.box 86 [(.byv .bool), (.byv (.sl (.int .u32)))])), (3, (.box 86 [(.byv .bool), (.byv (.sl (.int .u32)))])), (4, (.box 86 [(.byv .bool), (.own 143 (.int .u32))])), (5, (.own 143 (.int .u32))), (20, (.byv (.sl (.int .u32)))), (21, (.byv (.int .i64))), (22, (.byv (.int .i64)))] (s2, s3, s4, s5, s20, s21, s22)
noncomputable def whole_Int_Times_c7 (k : Nat) (s2 : Bool × List Int) (s3 : Bool × List Int) (s4 : Bool × List Int) (s5 : List Int) (s6 : Int) (s7 : Int) (s8 : Int) (s20 : List Int) (s21 : Int) (s22 : Int) (s28 : List Int) (s29 : Int) (s30 : Int) : Option (Bool × List Int) := cutA P A k 70 (todoAt P A 70 7) [(2, (.box 86 [(.byv .bool), (.byv (.sl (.int .u32)))])), (3, (.box 86 [(.byv .bool), (.byv (.sl (.int .u32)))])), (4, (.box 86 [(.byv .bool), (.own 143 (.int .u32))])), (5, (.own 143 (.int .u32))), (6, (.byv (.int .i64))), (7, (.byv (.int .u32))), (8, (.byv (.int .u64))), (20, (.byv (.sl (.int .u32)))), (21, (.byv (.int .i64))), (22, (.byv (.int .i64))), (28, (.byv (.sl (.int .u32)))), (29, (.byv (.int .i64))), (30, (.byv (.int .i64)))] (s2, s3, s4, s5, s6, s7, s8, s20, s21, s22, s28, s29, s30)
theorem whole_Int_Times_eq (k : Nat) (a : Bool × List Int) (b : Bool × List Int) : whole_Int_Times (k + 1) a b =
  cond (decide (0 ≤ (wi64 ((a.2.length : Int) + (b.2.length : Int))))) (
  cond (decide ((wi64 ((a.2.length : Int) + (b.2.length : Int))).toNat ≤ 35184372088832)) (
  whole_Int_Times_c3 k a b (false, []) (List.replicate (wi64 ((a.2.length : Int) + (b.2.length : Int))).toNat 0) a.2 (a.2.length : Int) 0) none) none := by kernel_rfl
theorem whole_Int_Times_c3_eq (k : Nat) (s2 : Bool × List Int) (s3 : Bool × List Int) (s4 : Bool × List Int) (s5 : List Int) (s20 : List Int) (s21 : Int) (s22 : Int) : whole_Int_Times_c3 (k + 1) s2 s3 s4 s5 s20 s21 s22 =
  cond (decide (s22 < s21)) (
    cond (decide (0 ≤ s22)) (
    cond (decide (s22 < (s20.length : Int))) (
    whole_Int_Times_c7 k s2 s3 s4 s5 s22 (s20.getD s22.toNat 0) 0 s20 s21 s22 s3.2 (s3.2.length : Int) 0) none) none) (
    (whole_made k (!(s2.1 == s3.1)) s5).bind fun y0 =>
    some y0) := by kernel_rfl
theorem whole_Int_Times_c7_eq (k : Nat) (s2 : Bool × List Int) (s3 : Bool × List Int) (s4 : Bool × List Int) (s5 : List Int) (s6 : Int) (s7 : Int) (s8 : Int) (s20 : List Int) (s21 : Int) (s22 : Int) (s28 : List Int) (s29 : Int) (s30 : Int) : whole_Int_Times_c7 (k + 1) s2 s3 s4 s5 s6 s7 s8 s20 s21 s22 s28 s29 s30 =
  cond (decide (s30 < s29)) (
    cond (decide (0 ≤ s30)) (
    cond (decide (s30 < (s28.length : Int))) (
    cond (decide (0 ≤ (wi64 (s6 + s30)))) (
    cond (decide ((wi64 (s6 + s30)) < (s5.length : Int))) (
    cond (decide (0 ≤ (wi64 (s6 + s30)))) (
    cond (decide ((wi64 (s6 + s30)) < (s5.length : Int))) (
    whole_Int_Times_c7 k s2 s3 s4 (s5.set (wi64 (s6 + s30)).toNat (wu32 (wu64 (s8 + (wu64 ((wu64 (s5.getD (wi64 (s6 + s30)).toNat 0)) + (wu64 ((wu64 s7) * (wu64 (s28.getD s30.toNat 0)))))))))) s6 s7 (shrI .u64 (wu64 (s8 + (wu64 ((wu64 (s5.getD (wi64 (s6 + s30)).toNat 0)) + (wu64 ((wu64 s7) * (wu64 (s28.getD s30.toNat 0)))))))) 32) s20 s21 s22 s28 s29 (wi64 (s30 + 1))) none) none) none) none) none) none) (
    cond (decide (0 ≤ (wi64 (s6 + (s3.2.length : Int))))) (
    cond (decide ((wi64 (s6 + (s3.2.length : Int))) < (s5.length : Int))) (
    whole_Int_Times_c3 k s2 s3 s4 (s5.set (wi64 (s6 + (s3.2.length : Int))).toNat (wu32 s8)) s20 s21 (wi64 (s22 + 1))) none) none) := by kernel_rfl
/-- interchange/amount.product -/
noncomputable def amount_product (k : Nat) (a : List Int) : Option (Bool × List Int) := callA P A k 51 a
noncomputable def amount_product_c3 (k : Nat) (s2 : Bool × List Int) (s3 : Bool × List Int) (s7 : List Int) (s8 : Int) (s9 : Int) : Option (Bool × List Int) := cutA P A k 51 (todoAt P A 51 3) [(2, (.box 86 [(.byv .bool), (.own 143 (.int .u32))])), (3, (.box 86 [(.byv .bool), (.byv (.sl (.int .u32)))])), (7, (.byv (.sl (.int .i64)))), (8, (.byv (.int .i64))), (9, (.byv (.int .i64)))] (s2, s3, s7, s8, s9)
theorem amount_product_eq (k : Nat) (a : List Int) : amount_product (k + 1) a =
  (whole_Of k 1).bind fun y0 =>
  amount_product_c3 k (false, []) y0 a (a.length : Int) 0 := by kernel_rfl
theorem amount_product_c3_eq (k : Nat) (s2 : Bool × List Int) (s3 : Bool × List Int) (s7 : List Int) (s8 : Int) (s9 : Int) : amount_product_c3 (k + 1) s2 s3 s7 s8 s9 =
  cond (decide (s9 < s8)) (
    cond (decide (0 ≤ s9)) (
    cond (decide (s9 < (s7.length : Int))) (
    (whole_Of k (s7.getD s9.toNat 0)).bind fun y1 =>
    (whole_Int_Times k s3 y1).bind fun y2 =>
    amount_product_c3 k s2 y2 s7 s8 (wi64 (s9 + 1))) none) none) (
    some s3) := by kernel_rfl
/-- (interchange/whole.Int).Int -/
noncomputable def whole_Int_Int (k : Nat) (a : Bool × List Int) (b : Int) : Option (Int × Bool) := callA P A k 52 (a, b)
noncomputable def whole_Int_Int_c5 (k : Nat) (s1 : Int) (s2 : Bool × List Int) (s6 : Int) (s14 : List Int) (s15 : Int) (s16 : Int) : Option (Int × Bool) := cutA P A k 52 (todoAt P A 52 5) [(1, (.byv (.int .i64))), (2, (.box 86 [(.byv .bool), (.byv (.sl (.int .u32)))])), (6, (.byv (.int .u64))), (14, (.byv (.sl (.int .u32)))), (15, (.byv (.int .i64))), (16, (.byv (.int .i64)))] (s1, s2, s6, s14, s15, s16)
theorem whole_Int_Int_eq (k : Nat) (a : Bool × List Int) (b : Int) : whole_Int_Int (k + 1) a b =
  cond (decide ((a.2.length : Int) > 2)) (
    some (0, false)) (
    whole_Int_Int_c5 k b a 0 a.2 (a.2.length : Int) 0) := by kernel_rfl
theorem whole_Int_Int_c5_eq (k : Nat) (s1 : Int) (s2 : Bool × List Int) (s6 : Int) (s14 : List Int) (s15 : Int) (s16 : Int) : whole_Int_Int_c5 (k + 1) s1 s2 s6 s14 s15 s16 =
  cond (decide (s16 < s15)) (
    cond (decide (0 ≤ s16)) (
    cond (decide (s16 < (s14.length : Int))) (
    cond (decide (0 ≤ (wi64 (32 * s16)))) (
    whole_Int_Int_c5 k s1 s2 (bitsI .or .u64 s6 (shlI .u64 (wu64 (s14.getD s16.toNat 0)) (wi64 (32 * s16)))) s14 s15 (wi64 (s16 + 1))) none) none) none) (
    cond (decide (s6 > (wu64 s1))) (
      some (0, false)) (
      cond s2.1 (
        some ((wi64 (0 - (wi64 s6))), true)) (
        some ((wi64 s6), true)))) := by kernel_rfl
/-- interchange/amount.divisor -/
noncomputable def amount_divisor (k : Nat) (a : Int) (b : Int) : Option Int := callA P A k 50 (a, b)
noncomputable def amount_divisor_c1 (k : Nat) (s0 : Int) (s1 : Int) : Option Int := cutA P A k 50 (todoAt P A 50 1) [(0, (.byv (.int .i64))), (1, (.byv (.int .i64)))] (s0, s1)
theorem amount_divisor_eq (k : Nat) (a : Int) (b : Int) : amount_divisor (k + 1) a b =
  amount_divisor_c1 k a b := by kernel_rfl
theorem amount_divisor_c1_eq (k : Nat) (s0 : Int) (s1 : Int) : amount_divisor_c1 (k + 1) s0 s1 =
  cond (s1 != 0) (
    cond (!(decide (s1 = 0))) (
    amount_divisor_c1 k s1 (s0.tmod s1)) none) (
    some s0) := by kernel_rfl
/-- interchange/amount.Factor -/
noncomputable def amount_Factor (k : Nat) (a : List (ByteArray × ByteArray × Int × Int)) (b : ByteArray) (c : ByteArray) : Option ((Int × Int) × Int) := callA P A k 9 (a, b, c)
noncomputable def amount_Factor_c5 (k : Nat) (s6 : Int × Int) (s8 : List Int) (s9 : List Int) (s31 : Int) (s32 : Int) : Option ((Int × Int) × Int) := cutA P A k 9 (todoAt P A 9 5) [(6, (.box 26 [(.byv (.int .i64)), (.byv (.int .i64))])), (8, (.own 3 (.int .i64))), (9, (.own 3 (.int .i64))), (31, (.byv (.int .i64))), (32, (.byv (.int .i64)))] (s6, s8, s9, s31, s32)
noncomputable def amount_Factor_c8 (k : Nat) (s6 : Int × Int) (s8 : List Int) (s9 : List Int) (s11 : Int) (s31 : Int) (s32 : Int) (s36 : Int) (s37 : Int) : Option ((Int × Int) × Int) := cutA P A k 9 (todoAt P A 9 8) [(6, (.box 26 [(.byv (.int .i64)), (.byv (.int .i64))])), (8, (.own 3 (.int .i64))), (9, (.own 3 (.int .i64))), (11, (.byv (.int .i64))), (31, (.byv (.int .i64))), (32, (.byv (.int .i64))), (36, (.byv (.int .i64))), (37, (.byv (.int .i64)))] (s6, s8, s9, s11, s31, s32, s36, s37)
theorem amount_Factor_eq (k : Nat) (a : List (ByteArray × ByteArray × Int × Int)) (b : ByteArray) (c : ByteArray) : amount_Factor (k + 1) a b c =
  (amount_factor k a b c).bind fun y0 =>
  cond (y0.2.2 != 0) (
    some ((0, 0), y0.2.2)) (
    amount_Factor_c5 k (0, 0) y0.1 y0.2.1 (y0.1.length : Int) 0) := by kernel_rfl
theorem amount_Factor_c5_eq (k : Nat) (s6 : Int × Int) (s8 : List Int) (s9 : List Int) (s31 : Int) (s32 : Int) : amount_Factor_c5 (k + 1) s6 s8 s9 s31 s32 =
  cond (decide (s32 < s31)) (
    amount_Factor_c8 k s6 s8 s9 s32 s31 s32 (s9.length : Int) 0) (
    (amount_product k s8).bind fun y1 =>
    (whole_Int_Int k y1 1000000000000000).bind fun y2 =>
    (amount_product k s9).bind fun y3 =>
    (whole_Int_Int k y3 1000000000000000).bind fun y4 =>
    cond (cond (!y2.2) true (!y4.2)) (
      some ((0, 0), 1)) (
      some ((y2.1, y4.1), 0))) := by kernel_rfl
theorem amount_Factor_c8_eq (k : Nat) (s6 : Int × Int) (s8 : List Int) (s9 : List Int) (s11 : Int) (s31 : Int) (s32 : Int) (s36 : Int) (s37 : Int) : amount_Factor_c8 (k + 1) s6 s8 s9 s11 s31 s32 s36 s37 =
  cond (decide (s37 < s36)) (
    cond (decide (0 ≤ s11)) (
    cond (decide (s11 < (s8.length : Int))) (
    cond (decide (0 ≤ s37)) (
    cond (decide (s37 < (s9.length : Int))) (
    (amount_divisor k (s8.getD s11.toNat 0) (s9.getD s37.toNat 0)).bind fun y5 =>
    cond (decide (0 ≤ s11)) (
    cond (decide (s11 < (s8.length : Int))) (
    cond (!(decide (y5 = 0))) (
    cond (decide (0 ≤ s11)) (
    cond (decide (s11 < (s8.length : Int))) (
    cond (decide (0 ≤ s37)) (
    cond (decide (s37 < (s9.length : Int))) (
    cond (!(decide (y5 = 0))) (
    cond (decide (0 ≤ s37)) (
    cond (decide (s37 < (s9.length : Int))) (
    amount_Factor_c8 k s6 (s8.set s11.toNat (wi64 ((s8.getD s11.toNat 0).tdiv y5))) (s9.set s37.toNat (wi64 ((s9.getD s37.toNat 0).tdiv y5))) s11 s31 s32 s36 (wi64 (s37 + 1))) none) none) none) none) none) none) none) none) none) none) none) none) none) none) (
    amount_Factor_c5 k s6 s8 s9 s31 (wi64 (s32 + 1))) := by kernel_rfl
/-- interchange/interchangeref1.CheckDecimal -/
noncomputable def interchangeref1_CheckDecimal (k : Nat) (a : Int × Int) : Option Int := callA P A k 59 a
theorem interchangeref1_CheckDecimal_eq (k : Nat) (a : Int × Int) : interchangeref1_CheckDecimal (k + 1) a =
  (interchangeref1_within k a.1 (-1000000000000000) 1000000000000000).bind fun y0 =>
  (cond (!(!y0)) (interchangeref1_within k a.2 0 9) (some false)).bind fun y1 =>
  cond (cond (!y0) true (!y1)) (
    some 1) (
    some 0) := by kernel_rfl
/-- interchange/interchangeref1.isWay -/
noncomputable def interchangeref1_isWay (k : Nat) (a : Int) : Option Bool := callA P A k 61 a
theorem interchangeref1_isWay_eq (k : Nat) (a : Int) : interchangeref1_isWay (k + 1) a =
  (interchangeref1_within k a 1 6).bind fun y0 =>
  some y0 := by kernel_rfl
/-- interchange/interchangeref1.Power -/
noncomputable def interchangeref1_Power (k : Nat) (a : Int) : Option (Bool × List Int) := callA P A k 64 a
noncomputable def interchangeref1_Power_c3 (k : Nat) (s2 : Bool × List Int) (s3 : Bool × List Int) (s5 : Int) (s6 : Int) : Option (Bool × List Int) := cutA P A k 64 (todoAt P A 64 3) [(2, (.box 74 [(.byv .bool), (.own 3 (.int .i64))])), (3, (.box 74 [(.byv .bool), (.byv (.sl (.int .i64)))])), (5, (.byv (.int .i64))), (6, (.byv (.int .i64)))] (s2, s3, s5, s6)
theorem interchangeref1_Power_eq (k : Nat) (a : Int) : interchangeref1_Power (k + 1) a =
  (interchangeref1_Of k 1).bind fun y0 =>
  interchangeref1_Power_c3 k (false, []) y0 a 0 := by kernel_rfl
theorem interchangeref1_Power_c3_eq (k : Nat) (s2 : Bool × List Int) (s3 : Bool × List Int) (s5 : Int) (s6 : Int) : interchangeref1_Power_c3 (k + 1) s2 s3 s5 s6 =
  cond (decide (s6 < s5)) (
    (interchangeref1_Of k 10).bind fun y1 =>
    (interchangeref1_TimesOf k s3 y1).bind fun y2 =>
    interchangeref1_Power_c3 k s2 y2 s5 (wi64 (s6 + 1))) (
    some s3) := by kernel_rfl
/-- interchange/interchangeref1.Round -/
noncomputable def interchangeref1_Round (k : Nat) (a : Bool × List Int) (b : Bool × List Int) (c : Int) : Option (Bool × List Int) := callA P A k 66 (a, b, c)
theorem interchangeref1_Round_eq (k : Nat) (a : Bool × List Int) (b : Bool × List Int) (c : Int) : interchangeref1_Round (k + 1) a b c =
  (interchangeref1_DivMod k (false, a.2) b).bind fun y0 =>
  (interchangeref1_Of k 2).bind fun y1 =>
  (interchangeref1_TimesOf k y0.2 y1).bind fun y2 =>
  (interchangeref1_Cmp k y2 b).bind fun y3 =>
  cond (c == 1) (
    cond (decide (y3 ≥ 0)) (
      (interchangeref1_Of k 1).bind fun y4 =>
      (interchangeref1_Plus k y0.1 y4).bind fun y5 =>
      cond a.1 (
        (interchangeref1_Minus k y5).bind fun y6 =>
        some y6) (
        some y5)) (
      cond a.1 (
        (interchangeref1_Minus k y0.1).bind fun y7 =>
        some y7) (
        some y0.1))) (
    cond (c == 2) (
      (cond ((!(decide (y3 > 0))) && (y3 == 0)) (interchangeref1_digit k y0.1.2 0) (some 0)).bind fun y8 =>
      cond ((!((!(decide (y3 > 0))) && (y3 == 0))) || true) (
      cond (cond (decide (y3 > 0)) true (cond (y3 == 0) ((y8.tmod 2) == 1) false)) (
        (interchangeref1_Of k 1).bind fun y9 =>
        (interchangeref1_Plus k y0.1 y9).bind fun y10 =>
        cond a.1 (
          (interchangeref1_Minus k y10).bind fun y11 =>
          some y11) (
          some y10)) (
        cond a.1 (
          (interchangeref1_Minus k y0.1).bind fun y12 =>
          some y12) (
          some y0.1))) none) (
      cond (c == 4) (
        (interchangeref1_Sign k y0.2).bind fun y13 =>
        cond (decide (y13 > 0)) (
          (interchangeref1_Of k 1).bind fun y14 =>
          (interchangeref1_Plus k y0.1 y14).bind fun y15 =>
          cond a.1 (
            (interchangeref1_Minus k y15).bind fun y16 =>
            some y16) (
            some y15)) (
          cond a.1 (
            (interchangeref1_Minus k y0.1).bind fun y17 =>
            some y17) (
            some y0.1))) (
        cond (c == 5) (
          (cond a.1 (interchangeref1_Sign k y0.2) (some 0)).bind fun y18 =>
          cond (cond a.1 (decide (y18 > 0)) false) (
            (interchangeref1_Of k 1).bind fun y19 =>
            (interchangeref1_Plus k y0.1 y19).bind fun y20 =>
            cond a.1 (
              (interchangeref1_Minus k y20).bind fun y21 =>
              some y21) (
              some y20)) (
            cond a.1 (
              (interchangeref1_Minus k y0.1).bind fun y22 =>
              some y22) (
              some y0.1))) (
          cond (c == 6) (
            (cond (!a.1) (interchangeref1_Sign k y0.2) (some 0)).bind fun y23 =>
            cond (cond (!a.1) (decide (y23 > 0)) false) (
              (interchangeref1_Of k 1).bind fun y24 =>
              (interchangeref1_Plus k y0.1 y24).bind fun y25 =>
              cond a.1 (
                (interchangeref1_Minus k y25).bind fun y26 =>
                some y26) (
                some y25)) (
              cond a.1 (
                (interchangeref1_Minus k y0.1).bind fun y27 =>
                some y27) (
                some y0.1))) (
            cond a.1 (
              (interchangeref1_Minus k y0.1).bind fun y28 =>
              some y28) (
              some y0.1)))))) := by kernel_rfl
/-- interchange/interchangeref1.decimal -/
noncomputable def interchangeref1_decimal (k : Nat) (a : Bool × List Int) (b : Int) : Option ((Int × Int) × Int) := callA P A k 65 (a, b)
theorem interchangeref1_decimal_eq (k : Nat) (a : Bool × List Int) (b : Int) : interchangeref1_decimal (k + 1) a b =
  (interchangeref1_Small k a 1000000000000000).bind fun y0 =>
  cond (!y0.2) (
    some ((0, 0), 1)) (
    some ((y0.1, b), 0)) := by kernel_rfl
/-- interchange/interchangeref1.InUnit -/
noncomputable def interchangeref1_InUnit (k : Nat) (a : List (ByteArray × ByteArray × Int × Int)) (b : Int × Int) (c : ByteArray) (d : ByteArray) (e : Int) (p : Int) : Option ((Int × Int) × Int) := callA P A k 12 (a, b, c, d, e, p)
theorem interchangeref1_InUnit_eq (k : Nat) (a : List (ByteArray × ByteArray × Int × Int)) (b : Int × Int) (c : ByteArray) (d : ByteArray) (e : Int) (p : Int) : interchangeref1_InUnit (k + 1) a b c d e p =
  (interchangeref1_askUnits k a c d).bind fun y0 =>
  cond (y0 != 0) (
    some ((0, 0), y0)) (
    (interchangeref1_CheckDecimal k b).bind fun y1 =>
    (cond (!(y1 != 0)) (interchangeref1_within k e 0 9) (some false)).bind fun y2 =>
    cond (cond (y1 != 0) true (!y2)) (
      some ((0, 0), 1)) (
      (interchangeref1_isWay k p).bind fun y3 =>
      cond (!y3) (
        some ((0, 0), 4)) (
        (interchangeref1_factor k a c d).bind fun y4 =>
        (interchangeref1_Of k b.1).bind fun y5 =>
        (interchangeref1_TimesOf k y5 y4.1).bind fun y6 =>
        (interchangeref1_Power k e).bind fun y7 =>
        (interchangeref1_TimesOf k y6 y7).bind fun y8 =>
        (interchangeref1_Power k b.2).bind fun y9 =>
        (interchangeref1_TimesOf k y4.2 y9).bind fun y10 =>
        (interchangeref1_Round k y8 y10 p).bind fun y11 =>
        (interchangeref1_decimal k y11 e).bind fun y12 =>
        some y12))) := by kernel_rfl
/-- interchange/amount.CheckDecimal -/
noncomputable def amount_CheckDecimal (k : Nat) (a : Int × Int) : Option Int := callA P A k 67 a
theorem amount_CheckDecimal_eq (k : Nat) (a : Int × Int) : amount_CheckDecimal (k + 1) a =
  (kit_Outside k a.1 (-1000000000000000) 1000000000000000).bind fun y0 =>
  (cond (!y0) (kit_Outside k a.2 0 9) (some false)).bind fun y1 =>
  cond (cond y0 true y1) (
    some 1) (
    some 0) := by kernel_rfl
/-- interchange/amount.IsWay -/
noncomputable def amount_IsWay (k : Nat) (a : Int) : Option Bool := callA P A k 126 a
theorem amount_IsWay_eq (k : Nat) (a : Int) : amount_IsWay (k + 1) a =
  (kit_Outside k a 1 6).bind fun y0 =>
  some (!y0) := by kernel_rfl
/-- interchange/amount.wayFault -/
noncomputable def amount_wayFault (k : Nat) (a : Int) (b : Int) : Option Int := callA P A k 68 (a, b)
theorem amount_wayFault_eq (k : Nat) (a : Int) (b : Int) : amount_wayFault (k + 1) a b =
  (kit_Outside k a 0 9).bind fun y0 =>
  cond y0 (
    some 1) (
    (amount_IsWay k b).bind fun y1 =>
    cond (!y1) (
      some 4) (
      some 0)) := by kernel_rfl
/-- interchange/whole.Power -/
noncomputable def whole_Power (k : Nat) (a : Int) : Option (Bool × List Int) := callA P A k 71 a
noncomputable def whole_Power_c3 (k : Nat) (s2 : Bool × List Int) (s3 : Bool × List Int) (s5 : Int) (s6 : Int) : Option (Bool × List Int) := cutA P A k 71 (todoAt P A 71 3) [(2, (.box 86 [(.byv .bool), (.own 143 (.int .u32))])), (3, (.box 86 [(.byv .bool), (.byv (.sl (.int .u32)))])), (5, (.byv (.int .i64))), (6, (.byv (.int .i64)))] (s2, s3, s5, s6)
theorem whole_Power_eq (k : Nat) (a : Int) : whole_Power (k + 1) a =
  (whole_Of k 1).bind fun y0 =>
  whole_Power_c3 k (false, []) y0 a 0 := by kernel_rfl
theorem whole_Power_c3_eq (k : Nat) (s2 : Bool × List Int) (s3 : Bool × List Int) (s5 : Int) (s6 : Int) : whole_Power_c3 (k + 1) s2 s3 s5 s6 =
  cond (decide (s6 < s5)) (
    (whole_Of k 10).bind fun y1 =>
    (whole_Int_Times k s3 y1).bind fun y2 =>
    whole_Power_c3 k s2 y2 s5 (wi64 (s6 + 1))) (
    some s3) := by kernel_rfl
/-- interchange/whole.sum -/
noncomputable def whole_sum (k : Nat) (a : List Int) (b : List Int) : Option (List Int) := callA P A k 164 (a, b)
noncomputable def whole_sum_c3 (k : Nat) (s0 : List Int) (s1 : List Int) : Option (List Int) := cutA P A k 164 (todoAt P A 164 3) [(0, (.byv (.sl (.int .u32)))), (1, (.byv (.sl (.int .u32))))] (s0, s1)
noncomputable def whole_sum_c6 (k : Nat) (s1 : List Int) (s5 : List Int) (s6 : Int) (s20 : List Int) (s21 : Int) (s22 : Int) : Option (List Int) := cutA P A k 164 (todoAt P A 164 6) [(1, (.byv (.sl (.int .u32)))), (5, (.own 143 (.int .u32))), (6, (.byv (.int .u64))), (20, (.byv (.sl (.int .u32)))), (21, (.byv (.int .i64))), (22, (.byv (.int .i64)))] (s1, s5, s6, s20, s21, s22)
theorem whole_sum_eq (k : Nat) (a : List Int) (b : List Int) : whole_sum (k + 1) a b =
  cond (decide ((a.length : Int) < (b.length : Int))) (
    whole_sum_c3 k b a) (
    whole_sum_c3 k a b) := by kernel_rfl
theorem whole_sum_c3_eq (k : Nat) (s0 : List Int) (s1 : List Int) : whole_sum_c3 (k + 1) s0 s1 =
  cond (decide (0 ≤ (wi64 ((s0.length : Int) + 1)))) (
  cond (decide ((wi64 ((s0.length : Int) + 1)).toNat ≤ 35184372088832)) (
  whole_sum_c6 k s1 (List.replicate 0 0) 0 s0 (s0.length : Int) 0) none) none := by kernel_rfl
theorem whole_sum_c6_eq (k : Nat) (s1 : List Int) (s5 : List Int) (s6 : Int) (s20 : List Int) (s21 : Int) (s22 : Int) : whole_sum_c6 (k + 1) s1 s5 s6 s20 s21 s22 =
  cond (decide (s22 < s21)) (
    cond (decide (0 ≤ s22)) (
    cond (decide (s22 < (s20.length : Int))) (
    cond (decide (s22 < (s1.length : Int))) (
      cond (decide (0 ≤ s22)) (
      cond (decide (s22 < (s1.length : Int))) (
      cond (decide (s5.length + 1 < 35184372088832)) (
      whole_sum_c6 k s1 (s5 ++ [(wu32 (wu64 ((wu64 (s6 + (wu64 (s20.getD s22.toNat 0)))) + (wu64 (s1.getD s22.toNat 0)))))]) (shrI .u64 (wu64 ((wu64 (s6 + (wu64 (s20.getD s22.toNat 0)))) + (wu64 (s1.getD s22.toNat 0)))) 32) s20 s21 (wi64 (s22 + 1))) none) none) none) (
      cond (decide (s5.length + 1 < 35184372088832)) (
      whole_sum_c6 k s1 (s5 ++ [(wu32 (wu64 (s6 + (wu64 (s20.getD s22.toNat 0)))))]) (shrI .u64 (wu64 (s6 + (wu64 (s20.getD s22.toNat 0)))) 32) s20 s21 (wi64 (s22 + 1))) none)) none) none) (
    cond (decide (s5.length + 1 < 35184372088832)) (
    some (s5 ++ [(wu32 s6)])) none) := by kernel_rfl
/-- interchange/whole.compare -/
noncomputable def whole_compare (k : Nat) (a : List Int) (b : List Int) : Option Int := callA P A k 165 (a, b)
noncomputable def whole_compare_c4 (k : Nat) (s0 : List Int) (s1 : List Int) (s5 : Int) : Option Int := cutA P A k 165 (todoAt P A 165 4) [(0, (.byv (.sl (.int .u32)))), (1, (.byv (.sl (.int .u32)))), (5, (.byv (.int .i64)))] (s0, s1, s5)
theorem whole_compare_eq (k : Nat) (a : List Int) (b : List Int) : whole_compare (k + 1) a b =
  cond ((a.length : Int) != (b.length : Int)) (
    some (wi64 ((a.length : Int) - (b.length : Int)))) (
    whole_compare_c4 k a b (wi64 ((a.length : Int) - 1))) := by kernel_rfl
theorem whole_compare_c4_eq (k : Nat) (s0 : List Int) (s1 : List Int) (s5 : Int) : whole_compare_c4 (k + 1) s0 s1 s5 =
  cond (decide (s5 ≥ 0)) (
    cond (decide (0 ≤ s5)) (
    cond (decide (s5 < (s0.length : Int))) (
    cond (decide (0 ≤ s5)) (
    cond (decide (s5 < (s1.length : Int))) (
    cond ((s0.getD s5.toNat 0) != (s1.getD s5.toNat 0)) (
      cond (decide (0 ≤ s5)) (
      cond (decide (s5 < (s0.length : Int))) (
      cond (decide (0 ≤ s5)) (
      cond (decide (s5 < (s1.length : Int))) (
      cond (decide ((s0.getD s5.toNat 0) < (s1.getD s5.toNat 0))) (
        some (-1)) (
        some 1)) none) none) none) none) (
      whole_compare_c4 k s0 s1 (wi64 (s5 - 1)))) none) none) none) none) (
    some 0) := by kernel_rfl
/-- interchange/whole.less -/
noncomputable def whole_less (k : Nat) (a : List Int) (b : List Int) : Option (List Int) := callA P A k 166 (a, b)
noncomputable def whole_less_c4 (k : Nat) (s1 : List Int) (s5 : List Int) (s6 : Int) (s13 : List Int) (s14 : Int) (s15 : Int) : Option (List Int) := cutA P A k 166 (todoAt P A 166 4) [(1, (.byv (.sl (.int .u32)))), (5, (.own 143 (.int .u32))), (6, (.byv (.int .u64))), (13, (.byv (.sl (.int .u32)))), (14, (.byv (.int .i64))), (15, (.byv (.int .i64)))] (s1, s5, s6, s13, s14, s15)
theorem whole_less_eq (k : Nat) (a : List Int) (b : List Int) : whole_less (k + 1) a b =
  cond (decide (0 ≤ (a.length : Int))) (
  cond (decide ((a.length : Int).toNat ≤ 35184372088832)) (
  whole_less_c4 k b (List.replicate 0 0) 0 a (a.length : Int) 0) none) none := by kernel_rfl
theorem whole_less_c4_eq (k : Nat) (s1 : List Int) (s5 : List Int) (s6 : Int) (s13 : List Int) (s14 : Int) (s15 : Int) : whole_less_c4 (k + 1) s1 s5 s6 s13 s14 s15 =
  cond (decide (s15 < s14)) (
    cond (decide (0 ≤ s15)) (
    cond (decide (s15 < (s13.length : Int))) (
    cond (decide (s15 < (s1.length : Int))) (
      cond (decide (0 ≤ s15)) (
      cond (decide (s15 < (s1.length : Int))) (
      cond (decide (s5.length + 1 < 35184372088832)) (
      whole_less_c4 k s1 (s5 ++ [(wu32 (wu64 ((wu64 ((wu64 (s13.getD s15.toNat 0)) - s6)) - (wu64 (s1.getD s15.toNat 0)))))]) (bitsI .and .u64 (shrI .u64 (wu64 ((wu64 ((wu64 (s13.getD s15.toNat 0)) - s6)) - (wu64 (s1.getD s15.toNat 0)))) 32) 1) s13 s14 (wi64 (s15 + 1))) none) none) none) (
      cond (decide (s5.length + 1 < 35184372088832)) (
      whole_less_c4 k s1 (s5 ++ [(wu32 (wu64 ((wu64 (s13.getD s15.toNat 0)) - s6)))]) (bitsI .and .u64 (shrI .u64 (wu64 ((wu64 (s13.getD s15.toNat 0)) - s6)) 32) 1) s13 s14 (wi64 (s15 + 1))) none)) none) none) (
    (whole_trimmed k s5).bind fun y0 =>
    some y0) := by kernel_rfl
/-- (interchange/whole.Int).By -/
noncomputable def whole_Int_By (k : Nat) (a : Bool × List Int) (b : Bool × List Int) : Option ((Bool × List Int) × Bool × List Int) := callA P A k 101 (a, b)
noncomputable def whole_Int_By_c4 (k : Nat) (s2 : Bool × List Int) (s3 : Bool × List Int) (s4 : Bool × List Int) (s5 : Bool × List Int) (s6 : List Int) (s7 : List Int) (s8 : Int) : Option ((Bool × List Int) × Bool × List Int) := cutA P A k 101 (todoAt P A 101 4) [(2, (.box 86 [(.byv .bool), (.byv (.sl (.int .u32)))])), (3, (.box 86 [(.byv .bool), (.byv (.sl (.int .u32)))])), (4, (.box 86 [(.byv .bool), (.own 143 (.int .u32))])), (5, (.box 86 [(.byv .bool), (.own 143 (.int .u32))])), (6, (.own 143 (.int .u32))), (7, (.byv (.sl (.int .u32)))), (8, (.byv (.int .i64)))] (s2, s3, s4, s5, s6, s7, s8)
theorem whole_Int_By_eq (k : Nat) (a : Bool × List Int) (b : Bool × List Int) : whole_Int_By (k + 1) a b =
  cond (decide (0 ≤ (a.2.length : Int))) (
  cond (decide ((a.2.length : Int).toNat ≤ 35184372088832)) (
  whole_Int_By_c4 k a b (false, []) (false, []) (List.replicate (a.2.length : Int).toNat 0) [] (wi64 ((wi64 ((a.2.length : Int) * 32)) - 1))) none) none := by kernel_rfl
theorem whole_Int_By_c4_eq (k : Nat) (s2 : Bool × List Int) (s3 : Bool × List Int) (s4 : Bool × List Int) (s5 : Bool × List Int) (s6 : List Int) (s7 : List Int) (s8 : Int) : whole_Int_By_c4 (k + 1) s2 s3 s4 s5 s6 s7 s8 =
  cond (decide (s8 ≥ 0)) (
    (whole_sum k s7 s7).bind fun y0 =>
    cond (decide (0 < (y0.length : Int))) (
    cond (decide (0 ≤ (wi64 (s8.tdiv 32)))) (
    cond (decide ((wi64 (s8.tdiv 32)) < (s2.2.length : Int))) (
    cond (decide (0 ≤ (s8.tmod 32))) (
    cond (decide (0 < (y0.length : Int))) (
    (whole_trimmed k (y0.set 0 (bitsI .or .u32 (y0.getD 0 0) (bitsI .and .u32 (shrI .u32 (s2.2.getD (wi64 (s8.tdiv 32)).toNat 0) (s8.tmod 32)) 1)))).bind fun y1 =>
    (whole_compare k y1 s3.2).bind fun y2 =>
    cond (decide (y2 ≥ 0)) (
      (whole_less k y1 s3.2).bind fun y3 =>
      cond (decide (0 ≤ (wi64 (s8.tdiv 32)))) (
      cond (decide ((wi64 (s8.tdiv 32)) < (s6.length : Int))) (
      cond (decide (0 ≤ (s8.tmod 32))) (
      cond (decide (0 ≤ (wi64 (s8.tdiv 32)))) (
      cond (decide ((wi64 (s8.tdiv 32)) < (s6.length : Int))) (
      whole_Int_By_c4 k s2 s3 s4 s5 (s6.set (wi64 (s8.tdiv 32)).toNat (bitsI .or .u32 (s6.getD (wi64 (s8.tdiv 32)).toNat 0) (shlI .u32 1 (s8.tmod 32)))) y3 (wi64 (s8 - 1))) none) none) none) none) none) (
      whole_Int_By_c4 k s2 s3 s4 s5 s6 y1 (wi64 (s8 - 1)))) none) none) none) none) none) (
    (whole_made k false s6).bind fun y4 =>
    (whole_made k false s7).bind fun y5 =>
    some (y4, y5)) := by kernel_rfl
/-- (interchange/whole.Int).Sign -/
noncomputable def whole_Int_Sign (k : Nat) (a : Bool × List Int) : Option Int := callA P A k 128 a
theorem whole_Int_Sign_eq (k : Nat) (a : Bool × List Int) : whole_Int_Sign (k + 1) a =
  cond a.1 (
    some (-1)) (
    cond ((a.2.length : Int) == 0) (
      some 0) (
      some 1)) := by kernel_rfl
/-- (interchange/whole.Int).Plus -/
noncomputable def whole_Int_Plus (k : Nat) (a : Bool × List Int) (b : Bool × List Int) : Option (Bool × List Int) := callA P A k 97 (a, b)
theorem whole_Int_Plus_eq (k : Nat) (a : Bool × List Int) (b : Bool × List Int) : whole_Int_Plus (k + 1) a b =
  cond (a.1 == b.1) (
    (whole_sum k a.2 b.2).bind fun y0 =>
    (whole_made k a.1 y0).bind fun y1 =>
    some y1) (
    (whole_compare k a.2 b.2).bind fun y2 =>
    cond (decide (y2 ≥ 0)) (
      (whole_less k a.2 b.2).bind fun y3 =>
      (whole_made k a.1 y3).bind fun y4 =>
      some y4) (
      (whole_less k b.2 a.2).bind fun y5 =>
      (whole_made k b.1 y5).bind fun y6 =>
      some y6)) := by kernel_rfl
/-- (interchange/whole.Int).Minus -/
noncomputable def whole_Int_Minus (k : Nat) (a : Bool × List Int) : Option (Bool × List Int) := callA P A k 130 a
theorem whole_Int_Minus_eq (k : Nat) (a : Bool × List Int) : whole_Int_Minus (k + 1) a =
  (whole_made k (!a.1) a.2).bind fun y0 =>
  some y0 := by kernel_rfl
/-- (interchange/whole.Int).Less -/
noncomputable def whole_Int_Less (k : Nat) (a : Bool × List Int) (b : Bool × List Int) : Option (Bool × List Int) := callA P A k 169 (a, b)
theorem whole_Int_Less_eq (k : Nat) (a : Bool × List Int) (b : Bool × List Int) : whole_Int_Less (k + 1) a b =
  (whole_Int_Minus k b).bind fun y0 =>
  (whole_Int_Plus k a y0).bind fun y1 =>
  some y1 := by kernel_rfl
/-- (interchange/whole.Int).Compare -/
noncomputable def whole_Int_Compare (k : Nat) (a : Bool × List Int) (b : Bool × List Int) : Option Int := callA P A k 104 (a, b)
theorem whole_Int_Compare_eq (k : Nat) (a : Bool × List Int) (b : Bool × List Int) : whole_Int_Compare (k + 1) a b =
  (whole_Int_Less k a b).bind fun y0 =>
  (whole_Int_Sign k y0).bind fun y1 =>
  some y1 := by kernel_rfl
/-- (interchange/whole.Int).Odd -/
noncomputable def whole_Int_Odd (k : Nat) (a : Bool × List Int) : Option Bool := callA P A k 129 a
theorem whole_Int_Odd_eq (k : Nat) (a : Bool × List Int) : whole_Int_Odd (k + 1) a =
  cond ((!(decide ((a.2.length : Int) > 0))) || true) (
  cond ((!(decide ((a.2.length : Int) > 0))) || (decide (0 < (a.2.length : Int)))) (
  some (cond (decide ((a.2.length : Int) > 0)) ((bitsI .and .u32 (a.2.getD 0 0) 1) == 1) false)) none) none := by kernel_rfl
/-- interchange/amount.Divided -/
noncomputable def amount_Divided (k : Nat) (a : Bool × List Int) (b : Bool × List Int) (c : Int) : Option (Bool × List Int) := callA P A k 73 (a, b, c)
theorem amount_Divided_eq (k : Nat) (a : Bool × List Int) (b : Bool × List Int) (c : Int) : amount_Divided (k + 1) a b c =
  (whole_Int_By k a b).bind fun y0 =>
  (whole_Int_Sign k y0.2).bind fun y1 =>
  cond (y1 != 0) (
    (whole_Int_Plus k y0.2 y0.2).bind fun y2 =>
    (whole_Int_Compare k y2 b).bind fun y3 =>
    (whole_Int_Sign k a).bind fun y4 =>
    (cond ((((!(cond (cond (cond (c == 4) true (cond (c == 5) (decide (y4 < 0)) false)) true (cond (c == 6) (!(decide (y4 < 0))) false)) true (cond (c == 1) (decide (y3 ≥ 0)) false))) && (c == 2)) && (!(decide (y3 > 0)))) && (y3 == 0)) (whole_Int_Odd k y0.1) (some false)).bind fun y5 =>
    cond (cond (cond (cond (cond (c == 4) true (cond (c == 5) (decide (y4 < 0)) false)) true (cond (c == 6) (!(decide (y4 < 0))) false)) true (cond (c == 1) (decide (y3 ≥ 0)) false)) true (cond (c == 2) (cond (decide (y3 > 0)) true (cond (y3 == 0) y5 false)) false)) (
      (whole_Of k 1).bind fun y6 =>
      (whole_Int_Plus k y0.1 y6).bind fun y7 =>
      (whole_Int_Sign k a).bind fun y8 =>
      cond (decide (y8 < 0)) (
        (whole_Int_Minus k y7).bind fun y9 =>
        some y9) (
        some y7)) (
      (whole_Int_Sign k a).bind fun y10 =>
      cond (decide (y10 < 0)) (
        (whole_Int_Minus k y0.1).bind fun y11 =>
        some y11) (
        some y0.1))) (
    (whole_Int_Sign k a).bind fun y12 =>
    cond (decide (y12 < 0)) (
      (whole_Int_Minus k y0.1).bind fun y13 =>
      some y13) (
      some y0.1)) := by kernel_rfl
/-- interchange/amount.Made -/
noncomputable def amount_Made (k : Nat) (a : Bool × List Int) (b : Int) : Option ((Int × Int) × Int) := callA P A k 72 (a, b)
theorem amount_Made_eq (k : Nat) (a : Bool × List Int) (b : Int) : amount_Made (k + 1) a b =
  (whole_Int_Int k a 1000000000000000).bind fun y0 =>
  cond (!y0.2) (
    some ((0, 0), 1)) (
    some ((y0.1, b), 0)) := by kernel_rfl
/-- interchange/amount.InUnit -/
noncomputable def amount_InUnit (k : Nat) (a : List (ByteArray × ByteArray × Int × Int)) (b : Int × Int) (c : ByteArray) (d : ByteArray) (e : Int) (p : Int) : Option ((Int × Int) × Int) := callA P A k 13 (a, b, c, d, e, p)
theorem amount_InUnit_eq (k : Nat) (a : List (ByteArray × ByteArray × Int × Int)) (b : Int × Int) (c : ByteArray) (d : ByteArray) (e : Int) (p : Int) : amount_InUnit (k + 1) a b c d e p =
  (amount_factor k a c d).bind fun y0 =>
  cond (y0.2.2 != 0) (
    some ((0, 0), y0.2.2)) (
    (amount_CheckDecimal k b).bind fun y1 =>
    cond (y1 != 0) (
      some ((0, 0), y1)) (
      (amount_wayFault k e p).bind fun y2 =>
      cond (y2 != 0) (
        some ((0, 0), y2)) (
        (whole_Of k b.1).bind fun y3 =>
        (amount_product k y0.1).bind fun y4 =>
        (whole_Int_Times k y3 y4).bind fun y5 =>
        (whole_Power k e).bind fun y6 =>
        (whole_Int_Times k y5 y6).bind fun y7 =>
        (amount_product k y0.2.1).bind fun y8 =>
        (whole_Power k b.2).bind fun y9 =>
        (whole_Int_Times k y8 y9).bind fun y10 =>
        (amount_Divided k y7 y10 p).bind fun y11 =>
        (amount_Made k y11 e).bind fun y12 =>
        some y12))) := by kernel_rfl
/-- internal/stringslite.HasPrefix -/
noncomputable def stringslite_HasPrefix (k : Nat) (a : ByteArray) (b : ByteArray) : Option Bool := callA P A k 182 (a, b)
theorem stringslite_HasPrefix_eq (k : Nat) (a : ByteArray) (b : ByteArray) : stringslite_HasPrefix (k + 1) a b =
  cond ((!(decide ((a.size : Int) ≥ (b.size : Int)))) || (decide (0 ≤ (b.size : Int)))) (
  cond ((!(decide ((a.size : Int) ≥ (b.size : Int)))) || (decide ((b.size : Int) ≤ (a.size : Int)))) (
  some (cond (decide ((a.size : Int) ≥ (b.size : Int))) (eqS (a.extract 0 (b.size : Int).toNat) b) false)) none) none := by kernel_rfl
/-- internal/stringslite.CutPrefix -/
noncomputable def stringslite_CutPrefix (k : Nat) (a : ByteArray) (b : ByteArray) : Option (ByteArray × Bool) := callA P A k 175 (a, b)
theorem stringslite_CutPrefix_eq (k : Nat) (a : ByteArray) (b : ByteArray) : stringslite_CutPrefix (k + 1) a b =
  (stringslite_HasPrefix k a b).bind fun y0 =>
  cond (!y0) (
    some (a, false)) (
    cond (decide (0 ≤ (b.size : Int))) (
    cond (decide ((b.size : Int) ≤ (a.size : Int))) (
    some ((a.extract (b.size : Int).toNat a.size), true)) none) none) := by kernel_rfl
/-- strings.CutPrefix -/
noncomputable def strings_CutPrefix (k : Nat) (a : ByteArray) (b : ByteArray) : Option (ByteArray × Bool) := callA P A k 131 (a, b)
theorem strings_CutPrefix_eq (k : Nat) (a : ByteArray) (b : ByteArray) : strings_CutPrefix (k + 1) a b =
  (stringslite_CutPrefix k a b).bind fun y0 =>
  some y0 := by kernel_rfl
/-- internal/stringslite.IndexByte -/
noncomputable def stringslite_IndexByte (k : Nat) (a : ByteArray) (b : Int) : Option Int := callA P A k 219 (a, b)
theorem stringslite_IndexByte_eq (k : Nat) (a : ByteArray) (b : Int) : stringslite_IndexByte k a b = some (Lib.indexByte a.data.toList b.toNat.toUInt8) := by kernel_rfl
/-- internal/stringslite.Index -/
noncomputable def stringslite_Index (k : Nat) (a : ByteArray) (b : ByteArray) : Option Int := callA P A k 202 (a, b)
theorem stringslite_Index_eq (k : Nat) (a : ByteArray) (b : ByteArray) : stringslite_Index (k + 1) a b =
  cond (cond ((b.size : Int) == 0) true (eqS b a)) (
    some 0) (
    cond ((b.size : Int) == 1) (
      cond (decide (0 < (b.size : Int))) (
      (stringslite_IndexByte k a (bt b 0)).bind fun y0 =>
      some y0) none) (
      cond (decide ((b.size : Int) ≥ (a.size : Int))) (
        some (-1)) (
        none))) := by kernel_rfl
/-- internal/stringslite.Cut -/
noncomputable def stringslite_Cut (k : Nat) (a : ByteArray) (b : ByteArray) : Option (ByteArray × ByteArray × Bool) := callA P A k 176 (a, b)
theorem stringslite_Cut_eq (k : Nat) (a : ByteArray) (b : ByteArray) : stringslite_Cut (k + 1) a b =
  (stringslite_Index k a b).bind fun y0 =>
  cond (decide (y0 ≥ 0)) (
    cond (decide (0 ≤ y0)) (
    cond (decide (y0 ≤ (a.size : Int))) (
    cond (decide (0 ≤ (wi64 (y0 + (b.size : Int))))) (
    cond (decide ((wi64 (y0 + (b.size : Int))) ≤ (a.size : Int))) (
    some ((a.extract 0 y0.toNat), ((a.extract (wi64 (y0 + (b.size : Int))).toNat a.size), true))) none) none) none) none) (
    some (a, ((bs []), false))) := by kernel_rfl
/-- strings.Cut -/
noncomputable def strings_Cut (k : Nat) (a : ByteArray) (b : ByteArray) : Option (ByteArray × ByteArray × Bool) := callA P A k 132 (a, b)
theorem strings_Cut_eq (k : Nat) (a : ByteArray) (b : ByteArray) : strings_Cut (k + 1) a b =
  (stringslite_Cut k a b).bind fun y0 =>
  some y0 := by kernel_rfl
/-- interchange/kit.InBytes -/
noncomputable def kit_InBytes (k : Nat) (a : ByteArray) (b : Int) (c : Int) : Option Bool := callA P A k 177 (a, b, c)
noncomputable def kit_InBytes_c2 (k : Nat) (s0 : ByteArray) (s1 : Int) (s2 : Int) (s9 : Int) (s10 : Int) : Option Bool := cutA P A k 177 (todoAt P A 177 2) [(0, (.byv .str)), (1, (.byv (.int .u8))), (2, (.byv (.int .u8))), (9, (.byv (.int .i64))), (10, (.byv (.int .i64)))] (s0, s1, s2, s9, s10)
theorem kit_InBytes_eq (k : Nat) (a : ByteArray) (b : Int) (c : Int) : kit_InBytes (k + 1) a b c =
  kit_InBytes_c2 k a b c (a.size : Int) 0 := by kernel_rfl
theorem kit_InBytes_c2_eq (k : Nat) (s0 : ByteArray) (s1 : Int) (s2 : Int) (s9 : Int) (s10 : Int) : kit_InBytes_c2 (k + 1) s0 s1 s2 s9 s10 =
  cond (decide (s10 < s9)) (
    cond (decide (0 ≤ s10)) (
    cond (decide (s10 < (s0.size : Int))) (
    cond ((!(!(decide ((bt s0 s10) < s1)))) || (decide (0 ≤ s10))) (
    cond ((!(!(decide ((bt s0 s10) < s1)))) || (decide (s10 < (s0.size : Int)))) (
    cond (cond (decide ((bt s0 s10) < s1)) true (decide ((bt s0 s10) > s2))) (
      some false) (
      kit_InBytes_c2 k s0 s1 s2 s9 (wi64 (s10 + 1)))) none) none) none) none) (
    some true) := by kernel_rfl
/-- interchange/kit.IsDigits -/
noncomputable def kit_IsDigits (k : Nat) (a : ByteArray) : Option Bool := callA P A k 134 a
theorem kit_IsDigits_eq (k : Nat) (a : ByteArray) : kit_IsDigits (k + 1) a =
  (cond (!(eqS a (bs []))) (kit_InBytes k a 48 57) (some false)).bind fun y0 =>
  some (cond (!(eqS a (bs []))) y0 false) := by kernel_rfl
/-- interchange/amount.isWhole -/
noncomputable def amount_isWhole (k : Nat) (a : ByteArray) : Option Bool := callA P A k 133 a
theorem amount_isWhole_eq (k : Nat) (a : ByteArray) : amount_isWhole (k + 1) a =
  (kit_IsDigits k a).bind fun y0 =>
  cond ((!(y0 && (!((a.size : Int) == 1)))) || true) (
  cond ((!(y0 && (!((a.size : Int) == 1)))) || (decide (0 < (a.size : Int)))) (
  some (cond y0 (cond ((a.size : Int) == 1) true ((bt a 0) != 48)) false)) none) none := by kernel_rfl
/-- interchange/amount.read -/
noncomputable def amount_read (k : Nat) (a : Bool) (b : ByteArray) (c : ByteArray) : Option ((Int × Int) × Int) := callA P A k 135 (a, b, c)
noncomputable def amount_read_c3 (k : Nat) (s0 : Bool) (s1 : ByteArray) (s2 : ByteArray) (s6 : Int × Int) (s8 : Bool × List Int) (s14 : Int) (s15 : Int) : Option ((Int × Int) × Int) := cutA P A k 135 (todoAt P A 135 3) [(0, (.byv .bool)), (1, (.byv .str)), (2, (.byv .str)), (6, (.box 24 [(.byv (.int .i64)), (.byv (.int .i64))])), (8, (.box 86 [(.byv .bool), (.byv (.sl (.int .u32)))])), (14, (.byv (.int .i64))), (15, (.byv (.int .i64)))] (s0, s1, s2, s6, s8, s14, s15)
theorem amount_read_eq (k : Nat) (a : Bool) (b : ByteArray) (c : ByteArray) : amount_read (k + 1) a b c =
  (whole_Of k 0).bind fun y0 =>
  cond (decide (b.size + c.size ≤ 9223372036854775807)) (
  amount_read_c3 k a b c (0, 0) y0 ((b ++ c).size : Int) 0) none := by kernel_rfl
theorem amount_read_c3_eq (k : Nat) (s0 : Bool) (s1 : ByteArray) (s2 : ByteArray) (s6 : Int × Int) (s8 : Bool × List Int) (s14 : Int) (s15 : Int) : amount_read_c3 (k + 1) s0 s1 s2 s6 s8 s14 s15 =
  cond (decide (s15 < s14)) (
    (whole_Of k 10).bind fun y1 =>
    (whole_Int_Times k s8 y1).bind fun y2 =>
    cond (decide (s1.size + s2.size ≤ 9223372036854775807)) (
    cond (decide (0 ≤ s15)) (
    cond (decide (s15 < ((s1 ++ s2).size : Int))) (
    (whole_Of k (wi64 (wu8 ((bt (s1 ++ s2) s15) - 48)))).bind fun y3 =>
    (whole_Int_Plus k y2 y3).bind fun y4 =>
    amount_read_c3 k s0 s1 s2 s6 y4 s14 (wi64 (s15 + 1))) none) none) none) (
    cond s0 (
      (whole_Int_Sign k s8).bind fun y5 =>
      cond (y5 == 0) (
        some ((0, 0), 10)) (
        (whole_Int_Minus k s8).bind fun y6 =>
        (amount_Made k y6 (s2.size : Int)).bind fun y7 =>
        some y7)) (
      (amount_Made k s8 (s2.size : Int)).bind fun y8 =>
      some y8)) := by kernel_rfl
/-- interchange/amount.ReadText -/
noncomputable def amount_ReadText (k : Nat) (a : ByteArray) : Option ((Int × Int) × Int) := callA P A k 74 a
theorem amount_ReadText_eq (k : Nat) (a : ByteArray) : amount_ReadText (k + 1) a =
  (strings_CutPrefix k a (bs [45])).bind fun y0 =>
  (strings_Cut k y0.1 (bs [46])).bind fun y1 =>
  (cond (!(decide ((a.size : Int) > 40))) (amount_isWhole k y1.1) (some false)).bind fun y2 =>
  (cond ((!(cond (decide ((a.size : Int) > 40)) true (!y2))) && y1.2.2) (kit_IsDigits k y1.2.1) (some false)).bind fun y3 =>
  cond (cond (cond (decide ((a.size : Int) > 40)) true (!y2)) true (cond y1.2.2 (cond (!y3) true (decide ((y1.2.1.size : Int) > 9))) false)) (
    some ((0, 0), 10)) (
    (amount_read k y0.2 y1.1 y1.2.1).bind fun y4 =>
    some y4) := by kernel_rfl
/-- interchange/interchangelaw1.awake -/
noncomputable def interchangelaw1_awake (k : Nat) : Option Bool := callA P A k 14 ()
theorem interchangelaw1_awake_eq (k : Nat) : interchangelaw1_awake (k + 1) =
  (amount_ReadText k (bs [49, 46, 53, 48])).bind fun y0 =>
  some (cond (y0.2 == 0) ((y0.1.1 == 150) && ((y0.1.2 == 2) && true)) false) := by kernel_rfl
/-- interchange/interchangelaw1.AmountUnitsMatchSpec -/
noncomputable def interchangelaw1_AmountUnitsMatchSpec (k : Nat) (a : List (ByteArray × ByteArray × Int × Int)) (b : Int × Int) (c : ByteArray) (d : ByteArray) (e : Int) (p : Int) : Option Bool := callA P A k 3 (a, b, c, d, e, p)
theorem interchangelaw1_AmountUnitsMatchSpec_eq (k : Nat) (a : List (ByteArray × ByteArray × Int × Int)) (b : Int × Int) (c : ByteArray) (d : ByteArray) (e : Int) (p : Int) : interchangelaw1_AmountUnitsMatchSpec (k + 1) a b c d e p =
  (interchangeref1_Factor k a c d).bind fun y0 =>
  (amount_Factor k a c d).bind fun y1 =>
  (interchangeref1_CheckUnits k a).bind fun y2 =>
  (amount_CheckUnits k a).bind fun y3 =>
  cond (cond (cond (y2 != y3) true (y1.2 != y0.2)) true (!((y1.1.1 == y0.1.1) && ((y1.1.2 == y0.1.2) && true)))) (
    some false) (
    (interchangeref1_InUnit k a b c d e p).bind fun y4 =>
    (amount_InUnit k a b c d e p).bind fun y5 =>
    (cond (cond (y5.2 == y4.2) ((y5.1.1 == y4.1.1) && ((y5.1.2 == y4.1.2) && true)) false) (interchangelaw1_awake k) (some false)).bind fun y6 =>
    some (cond (cond (y5.2 == y4.2) ((y5.1.1 == y4.1.1) && ((y5.1.2 == y4.1.2) && true)) false) y6 false)) := by kernel_rfl
end Go.Proofs.YtegiadfbniamkaaGreatDoor.Eq
