/- The functions that these laws reach: how their calls are read, and the equations that they obey. Printed by a program of this session's own; Lean checks each equation. -/
import Derived.Test.YtoiahmmockgcbaaK1
import Derived.Test.YtoiahmmockgcbaaProg
import Derived.Lib.Bytealg
import Derived.KernelRfl
namespace Go.Proofs.Ytoiahmmockgcbaa.Eq
open Go Go.Ra
set_option linter.unusedVariables false
def var3 : Var := ⟨3, [(.byv (.sl (.pair (.int .i64) (.int .i64)))), (.byv (.int .i64))], [(.byv .bool)], fun _ => none, fun _ _ => false, fun _ _ => none, fun _ => []⟩
def var4 : Var := ⟨4, [(.byv (.pair (.int .i64) (.int .i64))), (.byv (.pair (.int .i64) (.int .i64))), (.byv (.sl (.pair (.int .i64) (.int .i64))))], [(.byv .bool)], fun _ => none, fun _ _ => false, fun _ _ => none, fun _ => []⟩
def var5 : Var := ⟨5, [(.byv (.pair (.int .i64) (.int .i64))), (.byv (.int .i64)), (.byv (.int .i64))], [(.byv .bool)], fun _ => none, fun _ _ => false, fun _ _ => none, fun _ => []⟩
def var6 : Var := ⟨6, [(.byv (.pair (.int .i64) (.int .i64))), (.byv (.pair (.int .i64) (.int .i64))), (.byv (.int .i64)), (.byv (.int .i64))], [(.byv .bool)], fun _ => none, fun _ _ => false, fun _ _ => none, fun _ => []⟩
def var7 : Var := ⟨7, [(.byv (.pair (.int .i64) (.sl (.int .i64)))), (.byv (.int .i64)), (.byv (.int .i64)), (.byv (.int .i64))], [(.byv .bool)], fun _ => none, fun _ _ => false, fun _ _ => none, fun _ => []⟩
def var8 : Var := ⟨8, [(.byv (.pair (.int .i64) (.sl (.int .i64)))), (.byv (.int .i64)), (.byv (.int .i64)), (.byv (.int .i64))], [(.byv .bool)], fun _ => none, fun _ _ => false, fun _ _ => none, fun _ => []⟩
def var9 : Var := ⟨9, [(.byv (.pair (.int .i64) (.int .i64))), (.byv (.sl (.int .i64)))], [(.byv .bool)], fun r => if r = 8 then some [(1, (.byv (.sl (.int .i64)))), (2, (.box 24 [(.byv (.int .i64)), (.byv (.int .i64))])), (5, (.own 24 (.pair (.int .i64) (.int .i64)))), (7, (.byv (.int .i64))), (8, (.byv (.int .i64))), (37, (.byv (.sl (.int .i64)))), (38, (.byv (.int .i64))), (39, (.byv (.int .i64)))] else if r = 15 then some [(2, (.box 24 [(.byv (.int .i64)), (.byv (.int .i64))])), (5, (.own 24 (.pair (.int .i64) (.int .i64)))), (7, (.byv (.int .i64))), (8, (.byv (.int .i64))), (75, (.byv (.sl (.int .i64)))), (76, (.byv (.int .i64))), (77, (.byv (.int .i64)))] else none, fun _ _ => false, fun _ _ => none, fun _ => []⟩
def var10 : Var := ⟨10, [(.byv (.pair (.int .i64) (.int .i64))), (.byv (.sl (.int .i64)))], [(.byv .bool)], fun _ => none, fun _ _ => false, fun _ _ => none, fun _ => []⟩
def var11 : Var := ⟨11, [(.byv (.sl (.pair (.int .i64) (.int .i64))))], [(.byv (.pair (.int .i64) (.int .i64))), (.byv (.int .i64))], fun r => if r = 8 then some [(0, (.byv (.sl (.pair (.int .i64) (.int .i64))))), (2, (.box 24 [(.byv (.int .i64)), (.byv (.int .i64))])), (5, (.byv (.int .i64))), (21, (.byv (.sl (.pair (.int .i64) (.int .i64))))), (22, (.byv (.int .i64))), (23, (.byv (.int .i64)))] else if r = 14 then some [(2, (.box 24 [(.byv (.int .i64)), (.byv (.int .i64))])), (5, (.byv (.int .i64))), (8, (.box 62 [(.byv .bool), (.byv (.sl (.int .u32)))])), (33, (.byv (.sl (.pair (.int .i64) (.int .i64))))), (34, (.byv (.int .i64))), (35, (.byv (.int .i64)))] else none, fun _ _ => false, fun _ _ => none, fun _ => []⟩
def var12 : Var := ⟨12, [], [(.byv .bool)], fun _ => none, fun _ _ => false, fun _ _ => none, fun _ => []⟩
def var13 : Var := ⟨13, [(.byv (.int .i64)), (.byv (.int .i64))], [(.byv (.int .i64))], fun _ => none, fun _ _ => false, fun _ _ => none, fun _ => []⟩
def var14 : Var := ⟨14, [(.byv (.sl (.pair (.int .i64) (.int .i64))))], [(.own 24 (.pair (.int .i64) (.int .i64)))], fun _ => none, fun _ _ => false, fun _ _ => none, fun _ => []⟩
def var15 : Var := ⟨15, [(.mv 24 (.pair (.int .i64) (.int .i64)) true)], [], fun r => if r = 1 then some [(0, (.own 24 (.pair (.int .i64) (.int .i64)))), (2, (.byv (.int .i64))), (3, (.byv (.int .i64)))] else none, fun _ _ => false, fun _ _ => none, fun _ => []⟩
def var16 : Var := ⟨16, [(.byv (.pair (.int .i64) (.int .i64))), (.byv (.pair (.int .i64) (.int .i64)))], [(.byv (.int .i64)), (.byv (.int .i64))], fun _ => none, fun _ _ => false, fun _ _ => none, fun _ => []⟩
def var17 : Var := ⟨17, [(.byv (.pair (.int .i64) (.int .i64))), (.byv (.pair (.int .i64) (.int .i64)))], [(.byv (.int .i64)), (.byv (.int .i64))], fun _ => none, fun _ _ => false, fun _ _ => none, fun _ => []⟩
def var18 : Var := ⟨18, [(.byv (.pair (.int .i64) (.int .i64)))], [(.byv (.int .i64))], fun _ => none, fun _ _ => false, fun _ _ => none, fun _ => []⟩
def var19 : Var := ⟨19, [(.byv (.pair (.int .i64) (.int .i64)))], [(.byv (.int .i64))], fun _ => none, fun _ _ => false, fun _ _ => none, fun _ => []⟩
def var20 : Var := ⟨20, [(.byv (.sl (.pair (.int .i64) (.int .i64))))], [(.byv (.pair (.int .i64) (.int .i64))), (.byv (.int .i64))], fun r => if r = 5 then some [(0, (.byv (.sl (.pair (.int .i64) (.int .i64))))), (2, (.box 24 [(.byv (.int .i64)), (.byv (.int .i64))])), (4, (.byv (.int .i64))), (14, (.byv (.sl (.pair (.int .i64) (.int .i64))))), (15, (.byv (.int .i64))), (16, (.byv (.int .i64)))] else if r = 13 then some [(2, (.box 24 [(.byv (.int .i64)), (.byv (.int .i64))])), (4, (.byv (.int .i64))), (7, (.box 41 [(.byv .bool), (.byv (.sl (.int .i64)))])), (29, (.byv (.sl (.pair (.int .i64) (.int .i64))))), (30, (.byv (.int .i64))), (31, (.byv (.int .i64)))] else none, fun _ _ => false, fun _ _ => none, fun _ => []⟩
def var21 : Var := ⟨21, [(.byv (.pair (.int .i64) (.int .i64))), (.byv (.pair (.int .i64) (.int .i64)))], [(.byv (.pair (.int .i64) (.int .i64))), (.byv (.int .i64))], fun _ => none, fun _ _ => false, fun _ _ => none, fun _ => []⟩
def var22 : Var := ⟨22, [(.byv (.pair (.int .i64) (.int .i64))), (.byv (.pair (.int .i64) (.int .i64)))], [(.byv (.pair (.int .i64) (.int .i64))), (.byv (.int .i64))], fun _ => none, fun _ _ => false, fun _ _ => none, fun _ => []⟩
def var23 : Var := ⟨23, [(.byv (.pair (.int .i64) (.int .i64))), (.byv (.int .i64)), (.byv (.int .i64))], [(.byv (.pair (.int .i64) (.int .i64))), (.byv (.int .i64))], fun _ => none, fun _ _ => false, fun _ _ => none, fun _ => []⟩
def var24 : Var := ⟨24, [(.byv (.pair .bool (.sl (.int .i64)))), (.byv (.pair .bool (.sl (.int .i64))))], [(.byv (.pair .bool (.sl (.int .i64))))], fun r => if r = 4 then some [(2, (.box 41 [(.byv .bool), (.byv (.sl (.int .i64)))])), (3, (.box 41 [(.byv .bool), (.byv (.sl (.int .i64)))])), (4, (.box 41 [(.byv .bool), (.own 3 (.int .i64))]))] else if r = 7 then some [(2, (.box 41 [(.byv .bool), (.byv (.sl (.int .i64)))])), (3, (.box 41 [(.byv .bool), (.byv (.sl (.int .i64)))])), (4, (.box 41 [(.byv .bool), (.own 3 (.int .i64))])), (5, (.box 41 [(.byv .bool), (.own 3 (.int .i64))])), (6, (.byv (.int .i64))), (31, (.byv (.int .i64))), (32, (.byv (.int .i64)))] else if r = 13 then some [(2, (.box 41 [(.byv .bool), (.byv (.sl (.int .i64)))])), (3, (.box 41 [(.byv .bool), (.byv (.sl (.int .i64)))])), (4, (.box 41 [(.byv .bool), (.own 3 (.int .i64))])), (5, (.box 41 [(.byv .bool), (.own 3 (.int .i64))])), (6, (.byv (.int .i64))), (8, (.byv (.int .i64))), (31, (.byv (.int .i64))), (32, (.byv (.int .i64)))] else if r = 19 then some [(2, (.box 41 [(.byv .bool), (.byv (.sl (.int .i64)))])), (3, (.box 41 [(.byv .bool), (.byv (.sl (.int .i64)))])), (4, (.box 41 [(.byv .bool), (.own 3 (.int .i64))])), (9, (.box 41 [(.byv .bool), (.own 3 (.int .i64))])), (10, (.byv (.int .i64))), (70, (.byv (.int .i64))), (71, (.byv (.int .i64)))] else none, fun _ _ => false, fun _ _ => none, fun _ => []⟩
def var25 : Var := ⟨25, [(.byv (.pair (.int .i64) (.int .i64))), (.byv (.int .i64))], [(.byv (.pair .bool (.sl (.int .i64))))], fun _ => none, fun _ _ => false, fun _ _ => none, fun _ => []⟩
def var26 : Var := ⟨26, [(.byv (.pair .bool (.sl (.int .i64))))], [(.byv (.pair .bool (.sl (.int .i64))))], fun _ => none, fun _ _ => false, fun _ _ => none, fun _ => []⟩
def var27 : Var := ⟨27, [(.byv (.pair .bool (.sl (.int .i64)))), (.byv (.pair .bool (.sl (.int .i64))))], [(.byv (.int .i64))], fun _ => none, fun _ _ => false, fun _ _ => none, fun _ => []⟩
def var28 : Var := ⟨28, [(.byv (.int .i64))], [(.byv (.pair .bool (.sl (.int .i64))))], fun r => if r = 3 then some [(2, (.box 41 [(.byv .bool), (.own 3 (.int .i64))])), (3, (.box 41 [(.byv .bool), (.byv (.sl (.int .i64)))])), (5, (.byv (.int .i64))), (6, (.byv (.int .i64)))] else none, fun _ _ => false, fun _ _ => none, fun _ => []⟩
def var29 : Var := ⟨29, [(.byv (.pair (.int .i64) (.int .i64))), (.byv (.int .i64)), (.byv (.int .i64))], [(.byv (.pair (.int .i64) (.int .i64))), (.byv (.int .i64))], fun _ => none, fun _ _ => false, fun _ _ => none, fun _ => []⟩
def var30 : Var := ⟨30, [(.byv (.pair (.int .i64) (.int .i64))), (.byv (.pair (.int .i64) (.int .i64))), (.byv (.int .i64)), (.byv (.int .i64))], [(.byv (.pair (.int .i64) (.int .i64))), (.byv (.int .i64))], fun _ => none, fun _ _ => false, fun _ _ => none, fun _ => []⟩
def var31 : Var := ⟨31, [(.byv (.pair (.int .i64) (.int .i64))), (.byv (.pair (.int .i64) (.int .i64))), (.byv (.int .i64)), (.byv (.int .i64))], [(.byv (.pair (.int .i64) (.int .i64))), (.byv (.int .i64))], fun _ => none, fun _ _ => false, fun _ _ => none, fun _ => []⟩
def var32 : Var := ⟨32, [(.byv (.pair (.int .i64) (.sl (.int .i64)))), (.byv (.int .i64)), (.byv (.int .i64))], [(.byv (.int .i64)), (.byv (.int .i64))], fun r => if r = 11 then some [(1, (.byv (.int .i64))), (2, (.byv (.int .i64))), (3, (.box 51 [(.byv (.int .i64)), (.byv (.sl (.int .i64)))])), (9, (.byv (.int .i64)))] else none, fun _ _ => false, fun _ _ => none, fun _ => []⟩
def var33 : Var := ⟨33, [(.byv (.pair (.int .i64) (.sl (.int .i64)))), (.byv (.int .i64)), (.byv (.int .i64))], [(.byv (.int .i64)), (.byv (.int .i64))], fun r => if r = 11 then some [(1, (.byv (.int .i64))), (3, (.box 51 [(.byv (.int .i64)), (.byv (.sl (.int .i64)))])), (9, (.byv (.int .i64))), (10, (.byv (.int .i64)))] else none, fun _ _ => false, fun _ _ => none, fun _ => []⟩
def var34 : Var := ⟨34, [(.byv (.pair (.int .i64) (.sl (.int .i64))))], [(.byv (.int .i64))], fun r => if r = 6 then some [(1, (.box 51 [(.byv (.int .i64)), (.byv (.sl (.int .i64)))])), (14, (.byv (.sl (.int .i64)))), (15, (.byv (.int .i64))), (16, (.byv (.int .i64)))] else none, fun _ _ => false, fun _ _ => none, fun _ => []⟩
def var35 : Var := ⟨35, [(.byv (.pair (.int .i64) (.sl (.int .i64))))], [(.byv (.int .i64))], fun r => if r = 6 then some [(1, (.box 51 [(.byv (.int .i64)), (.byv (.sl (.int .i64)))])), (13, (.byv (.sl (.int .i64)))), (14, (.byv (.int .i64))), (15, (.byv (.int .i64)))] else none, fun _ _ => false, fun _ _ => none, fun _ => []⟩
def var36 : Var := ⟨36, [(.byv (.pair (.int .i64) (.sl (.int .i64)))), (.byv (.int .i64)), (.byv (.int .i64))], [(.byv (.int .i64)), (.byv (.int .i64))], fun r => if r = 10 then some [(1, (.byv (.int .i64))), (2, (.byv (.int .i64))), (3, (.box 51 [(.byv (.int .i64)), (.byv (.sl (.int .i64)))])), (9, (.byv (.int .i64))), (29, (.byv (.int .i64)))] else if r = 16 then some [(1, (.byv (.int .i64))), (2, (.byv (.int .i64))), (3, (.box 51 [(.byv (.int .i64)), (.byv (.sl (.int .i64)))])), (9, (.byv (.int .i64))), (51, (.byv (.sl (.int .i64)))), (52, (.byv (.int .i64))), (53, (.byv (.int .i64)))] else none, fun _ _ => false, fun _ _ => none, fun _ => []⟩
def var37 : Var := ⟨37, [(.byv (.pair (.int .i64) (.sl (.int .i64)))), (.byv (.int .i64)), (.byv (.int .i64))], [(.byv (.int .i64)), (.byv (.int .i64))], fun r => if r = 10 then some [(1, (.byv (.int .i64))), (2, (.byv (.int .i64))), (3, (.box 51 [(.byv (.int .i64)), (.byv (.sl (.int .i64)))])), (9, (.byv (.int .i64))), (30, (.byv (.int .i64)))] else if r = 17 then some [(1, (.byv (.int .i64))), (2, (.byv (.int .i64))), (3, (.box 51 [(.byv (.int .i64)), (.byv (.sl (.int .i64)))])), (9, (.byv (.int .i64))), (55, (.byv (.sl (.int .i64)))), (56, (.byv (.int .i64))), (57, (.byv (.int .i64)))] else none, fun _ _ => false, fun _ _ => none, fun _ => []⟩
def var38 : Var := ⟨38, [(.byv (.pair (.int .i64) (.int .i64))), (.byv (.sl (.int .i64)))], [(.own 24 (.pair (.int .i64) (.int .i64))), (.byv (.int .i64))], fun r => if r = 9 then some [(1, (.byv (.sl (.int .i64)))), (2, (.box 24 [(.byv (.int .i64)), (.byv (.int .i64))])), (8, (.byv (.int .i64))), (33, (.byv (.sl (.int .i64)))), (34, (.byv (.int .i64))), (35, (.byv (.int .i64)))] else if r = 17 then some [(2, (.box 24 [(.byv (.int .i64)), (.byv (.int .i64))])), (8, (.byv (.int .i64))), (11, (.byv (.int .i64))), (12, (.byv (.int .i64))), (13, (.own 91 (.pair (.int .i64) (.pair (.int .i64) (.pair .bool (.sl (.int .u32))))))), (50, (.byv (.sl (.int .i64)))), (51, (.byv (.int .i64))), (52, (.byv (.int .i64)))] else if r = 27 then some [(2, (.box 24 [(.byv (.int .i64)), (.byv (.int .i64))])), (12, (.byv (.int .i64))), (20, (.own 24 (.pair (.int .i64) (.int .i64)))), (89, (.own 91 (.pair (.int .i64) (.pair (.int .i64) (.pair .bool (.sl (.int .u32))))))), (90, (.byv (.int .i64))), (91, (.byv (.int .i64)))] else none, fun _ _ => false, fun r i => if r = 24 ∧ i = 1 then some 100077 else none, fun _ => []⟩
def var39 : Var := ⟨39, [(.byv (.pair .bool (.sl (.int .i64)))), (.byv (.pair .bool (.sl (.int .i64))))], [(.byv (.pair .bool (.sl (.int .i64))))], fun r => if r = 3 then some [(3, (.box 41 [(.byv .bool), (.byv (.sl (.int .i64)))])), (4, (.box 41 [(.byv .bool), (.own 3 (.int .i64))])), (5, (.box 41 [(.byv .bool), (.own 3 (.int .i64))])), (27, (.byv (.sl (.int .i64)))), (28, (.byv (.int .i64))), (29, (.byv (.int .i64)))] else if r = 6 then some [(3, (.box 41 [(.byv .bool), (.byv (.sl (.int .i64)))])), (4, (.box 41 [(.byv .bool), (.own 3 (.int .i64))])), (5, (.box 41 [(.byv .bool), (.own 3 (.int .i64))])), (6, (.byv (.int .i64))), (7, (.byv (.int .i64))), (27, (.byv (.sl (.int .i64)))), (28, (.byv (.int .i64))), (29, (.byv (.int .i64))), (35, (.byv (.sl (.int .i64)))), (36, (.byv (.int .i64))), (37, (.byv (.int .i64)))] else if r = 14 then some [(4, (.box 41 [(.byv .bool), (.own 3 (.int .i64))])), (5, (.box 41 [(.byv .bool), (.own 3 (.int .i64))])), (86, (.byv (.int .i64))), (87, (.byv (.int .i64)))] else none, fun _ _ => false, fun _ _ => none, fun _ => []⟩
def var40 : Var := ⟨40, [(.byv (.int .i64))], [(.byv (.pair .bool (.sl (.int .i64))))], fun r => if r = 2 then some [(0, (.byv (.int .i64))), (2, (.box 41 [(.byv .bool), (.own 3 (.int .i64))])), (3, (.box 41 [(.byv .bool), (.own 3 (.int .i64))]))] else none, fun _ _ => false, fun _ _ => none, fun _ => []⟩
def var41 : Var := ⟨41, [(.byv (.pair (.int .i64) (.int .i64))), (.byv (.sl (.int .i64)))], [(.own 24 (.pair (.int .i64) (.int .i64))), (.byv (.int .i64))], fun r => if r = 9 then some [(1, (.byv (.sl (.int .i64)))), (2, (.box 24 [(.byv (.int .i64)), (.byv (.int .i64))])), (6, (.byv (.int .i64))), (32, (.byv (.sl (.int .i64)))), (33, (.byv (.int .i64))), (34, (.byv (.int .i64)))] else if r = 22 then some [(2, (.box 24 [(.byv (.int .i64)), (.byv (.int .i64))])), (6, (.byv (.int .i64))), (9, (.byv (.int .i64))), (10, (.own 24 (.pair (.int .i64) (.int .i64)))), (11, (.own 3 (.int .i64))), (12, (.byv (.int .i64))), (60, (.byv (.sl (.int .i64)))), (61, (.byv (.int .i64))), (62, (.byv (.int .i64)))] else if r = 30 then some [(2, (.box 24 [(.byv (.int .i64)), (.byv (.int .i64))])), (10, (.own 24 (.pair (.int .i64) (.int .i64)))), (11, (.own 3 (.int .i64))), (12, (.byv (.int .i64)))] else if r = 34 then some [(2, (.box 24 [(.byv (.int .i64)), (.byv (.int .i64))])), (10, (.own 24 (.pair (.int .i64) (.int .i64)))), (11, (.own 3 (.int .i64))), (12, (.byv (.int .i64))), (19, (.byv (.int .i64))), (107, (.byv (.int .i64))), (108, (.byv (.int .i64)))] else if r = 38 then some [(2, (.box 24 [(.byv (.int .i64)), (.byv (.int .i64))])), (10, (.own 24 (.pair (.int .i64) (.int .i64)))), (11, (.own 3 (.int .i64))), (12, (.byv (.int .i64))), (19, (.byv (.int .i64))), (107, (.byv (.int .i64))), (108, (.byv (.int .i64)))] else if r = 42 then some [(2, (.box 24 [(.byv (.int .i64)), (.byv (.int .i64))])), (10, (.own 24 (.pair (.int .i64) (.int .i64)))), (133, (.byv (.int .i64))), (134, (.byv (.int .i64)))] else none, fun _ _ => false, fun _ _ => none, fun r => if r = 34 then [(106, 11)] else if r = 38 then [(106, 11)] else []⟩
def var42 : Var := ⟨42, [(.byv (.sl (.pair (.int .i64) (.int .i64)))), (.byv (.sl (.pair (.int .i64) (.int .i64))))], [(.byv .bool)], fun r => if r = 4 then some [(0, (.byv (.sl (.pair (.int .i64) (.int .i64))))), (1, (.byv (.sl (.pair (.int .i64) (.int .i64))))), (12, (.byv (.int .i64))), (13, (.byv (.int .i64)))] else none, fun _ _ => false, fun _ _ => none, fun _ => []⟩
def var43 : Var := ⟨43, [(.byv (.sl (.pair (.int .i64) (.int .i64))))], [(.byv (.int .i64))], fun r => if r = 2 then some [(6, (.byv (.sl (.pair (.int .i64) (.int .i64))))), (7, (.byv (.int .i64))), (8, (.byv (.int .i64)))] else none, fun _ _ => false, fun _ _ => none, fun _ => []⟩
def var44 : Var := ⟨44, [(.byv (.int .i64))], [(.byv (.pair .bool (.sl (.int .u32))))], fun _ => none, fun _ _ => false, fun _ _ => none, fun _ => []⟩
def var45 : Var := ⟨45, [(.byv (.pair .bool (.sl (.int .u32)))), (.byv (.pair .bool (.sl (.int .u32))))], [(.byv (.pair .bool (.sl (.int .u32))))], fun _ => none, fun _ _ => false, fun _ _ => none, fun _ => []⟩
def var46 : Var := ⟨46, [(.byv (.pair (.int .i64) (.int .i64))), (.byv (.int .i64))], [(.byv (.pair .bool (.sl (.int .u32))))], fun _ => none, fun _ _ => false, fun _ _ => none, fun _ => []⟩
def var47 : Var := ⟨47, [(.byv (.pair .bool (.sl (.int .u32)))), (.byv (.int .i64))], [(.byv (.pair (.int .i64) (.int .i64))), (.byv (.int .i64))], fun _ => none, fun _ _ => false, fun _ _ => none, fun _ => []⟩
def var48 : Var := ⟨48, [(.byv .str)], [(.byv (.pair (.int .i64) (.int .i64))), (.byv (.int .i64))], fun _ => none, fun _ _ => false, fun _ _ => none, fun _ => []⟩
def var49 : Var := ⟨49, [(.byv (.pair (.int .i64) (.int .i64)))], [(.byv (.pair .bool (.sl (.int .u32))))], fun _ => none, fun _ _ => false, fun _ _ => none, fun _ => []⟩
def var50 : Var := ⟨50, [(.byv (.pair .bool (.sl (.int .u32)))), (.byv (.pair .bool (.sl (.int .u32))))], [(.byv (.int .i64))], fun _ => none, fun _ _ => false, fun _ _ => none, fun _ => []⟩
def var51 : Var := ⟨51, [(.byv (.int .i64)), (.byv (.int .i64)), (.byv (.int .i64))], [(.byv .bool)], fun _ => none, fun _ _ => false, fun _ _ => none, fun _ => []⟩
def var52 : Var := ⟨52, [(.byv (.int .i64)), (.byv (.int .i64)), (.byv (.int .i64))], [(.byv .bool)], fun _ => none, fun _ _ => false, fun _ _ => none, fun _ => []⟩
def var53 : Var := ⟨53, [(.byv (.pair .bool (.sl (.int .i64)))), (.byv (.int .i64))], [(.byv (.pair (.int .i64) (.int .i64))), (.byv (.int .i64))], fun _ => none, fun _ _ => false, fun _ _ => none, fun _ => []⟩
def var54 : Var := ⟨54, [(.byv (.pair .bool (.sl (.int .i64)))), (.byv (.pair .bool (.sl (.int .i64))))], [(.byv (.pair .bool (.sl (.int .i64)))), (.byv (.pair .bool (.sl (.int .i64))))], fun r => if r = 3 then some [(3, (.box 41 [(.byv .bool), (.byv (.sl (.int .i64)))])), (4, (.box 41 [(.byv .bool), (.own 3 (.int .i64))])), (5, (.box 41 [(.byv .bool), (.own 3 (.int .i64))])), (6, (.own 3 (.int .i64))), (7, (.box 41 [(.byv .bool), (.byv (.sl (.int .i64)))]))] else if r = 7 then some [(3, (.box 41 [(.byv .bool), (.byv (.sl (.int .i64)))])), (4, (.box 41 [(.byv .bool), (.own 3 (.int .i64))])), (5, (.box 41 [(.byv .bool), (.own 3 (.int .i64))])), (6, (.own 3 (.int .i64))), (28, (.byv (.pair .bool (.sl (.int .i64)))))] else if r = 11 then some [(3, (.box 41 [(.byv .bool), (.byv (.sl (.int .i64)))])), (4, (.box 41 [(.byv .bool), (.own 3 (.int .i64))])), (5, (.box 41 [(.byv .bool), (.own 3 (.int .i64))])), (6, (.own 3 (.int .i64))), (10, (.box 41 [(.byv .bool), (.byv (.sl (.int .i64)))])), (11, (.box 41 [(.byv .bool), (.byv (.sl (.int .i64)))])), (12, (.box 41 [(.byv .bool), (.byv (.sl (.int .i64)))])), (13, (.byv (.int .i64)))] else none, fun _ _ => false, fun _ _ => none, fun _ => []⟩
def var55 : Var := ⟨55, [(.byv (.pair .bool (.sl (.int .i64))))], [(.byv (.int .i64))], fun _ => none, fun _ _ => false, fun _ _ => none, fun _ => []⟩
def var56 : Var := ⟨56, [(.byv (.pair .bool (.sl (.int .u32)))), (.byv (.pair .bool (.sl (.int .u32))))], [(.byv (.pair .bool (.sl (.int .u32))))], fun r => if r = 3 then some [(2, (.box 62 [(.byv .bool), (.byv (.sl (.int .u32)))])), (3, (.box 62 [(.byv .bool), (.byv (.sl (.int .u32)))])), (4, (.box 62 [(.byv .bool), (.own 97 (.int .u32))])), (5, (.own 97 (.int .u32))), (20, (.byv (.sl (.int .u32)))), (21, (.byv (.int .i64))), (22, (.byv (.int .i64)))] else if r = 7 then some [(2, (.box 62 [(.byv .bool), (.byv (.sl (.int .u32)))])), (3, (.box 62 [(.byv .bool), (.byv (.sl (.int .u32)))])), (4, (.box 62 [(.byv .bool), (.own 97 (.int .u32))])), (5, (.own 97 (.int .u32))), (6, (.byv (.int .i64))), (7, (.byv (.int .u32))), (8, (.byv (.int .u64))), (20, (.byv (.sl (.int .u32)))), (21, (.byv (.int .i64))), (22, (.byv (.int .i64))), (28, (.byv (.sl (.int .u32)))), (29, (.byv (.int .i64))), (30, (.byv (.int .i64)))] else none, fun _ _ => false, fun _ _ => none, fun _ => []⟩
def var57 : Var := ⟨57, [(.byv (.pair .bool (.sl (.int .u32)))), (.byv (.pair .bool (.sl (.int .u32))))], [(.byv (.pair .bool (.sl (.int .u32)))), (.byv (.pair .bool (.sl (.int .u32))))], fun r => if r = 4 then some [(2, (.box 62 [(.byv .bool), (.byv (.sl (.int .u32)))])), (3, (.box 62 [(.byv .bool), (.byv (.sl (.int .u32)))])), (4, (.box 62 [(.byv .bool), (.own 97 (.int .u32))])), (5, (.box 62 [(.byv .bool), (.own 97 (.int .u32))])), (6, (.own 97 (.int .u32))), (7, (.byv (.sl (.int .u32)))), (8, (.byv (.int .i64)))] else none, fun _ _ => false, fun _ _ => none, fun _ => []⟩
def var58 : Var := ⟨58, [(.byv (.int .i64))], [(.byv (.pair .bool (.sl (.int .u32))))], fun r => if r = 3 then some [(2, (.box 62 [(.byv .bool), (.own 97 (.int .u32))])), (3, (.box 62 [(.byv .bool), (.byv (.sl (.int .u32)))])), (5, (.byv (.int .i64))), (6, (.byv (.int .i64)))] else none, fun _ _ => false, fun _ _ => none, fun _ => []⟩
def var59 : Var := ⟨59, [(.byv (.pair .bool (.sl (.int .u32))))], [(.byv (.int .i64))], fun _ => none, fun _ _ => false, fun _ _ => none, fun _ => []⟩
def var60 : Var := ⟨60, [(.byv (.pair .bool (.sl (.int .u32))))], [(.byv (.pair .bool (.sl (.int .u32))))], fun _ => none, fun _ _ => false, fun _ _ => none, fun _ => []⟩
def var61 : Var := ⟨61, [(.byv (.int .i64)), (.byv (.int .i64))], [(.byv (.int .i64))], fun _ => none, fun _ _ => false, fun _ _ => none, fun _ => []⟩
def var62 : Var := ⟨62, [(.byv (.pair .bool (.sl (.int .u32)))), (.byv (.pair .bool (.sl (.int .u32)))), (.byv (.int .i64))], [(.byv (.pair .bool (.sl (.int .u32))))], fun _ => none, fun _ _ => false, fun _ _ => none, fun _ => []⟩
def var63 : Var := ⟨63, [(.byv (.sl (.int .i64))), (.byv (.sl (.int .i64)))], [(.byv (.int .i64))], fun r => if r = 4 then some [(0, (.byv (.sl (.int .i64)))), (1, (.byv (.sl (.int .i64)))), (5, (.byv (.int .i64)))] else none, fun _ _ => false, fun _ _ => none, fun _ => []⟩
def var64 : Var := ⟨64, [(.byv (.sl (.int .i64))), (.byv (.int .i64))], [(.byv (.int .i64))], fun _ => none, fun _ _ => false, fun _ _ => none, fun _ => []⟩
def var65 : Var := ⟨65, [(.byv (.pair .bool (.sl (.int .i64))))], [(.byv (.pair .bool (.sl (.int .i64))))], fun r => if r = 1 then some [(1, (.box 41 [(.byv .bool), (.byv (.sl (.int .i64)))])), (2, (.box 41 [(.byv .bool), (.own 3 (.int .i64))]))] else none, fun _ _ => false, fun _ _ => none, fun _ => []⟩
def var66 : Var := ⟨66, [(.byv (.int .i64))], [(.byv .bool)], fun _ => none, fun _ _ => false, fun _ _ => none, fun _ => []⟩
def var67 : Var := ⟨67, [(.byv (.pair .bool (.sl (.int .i64)))), (.byv (.pair .bool (.sl (.int .i64)))), (.byv (.int .i64))], [(.byv (.pair .bool (.sl (.int .i64))))], fun _ => none, fun _ _ => false, fun _ _ => none, fun _ => []⟩
def var68 : Var := ⟨68, [(.byv (.pair .bool (.sl (.int .u32))))], [(.byv (.pair .bool (.sl (.int .u32))))], fun _ => none, fun _ _ => false, fun _ _ => none, fun _ => []⟩
def var69 : Var := ⟨69, [(.byv (.int .i64))], [(.byv .bool)], fun _ => none, fun _ _ => false, fun _ _ => none, fun _ => []⟩
def var70 : Var := ⟨70, [(.byv (.pair (.int .i64) (.sl (.int .i64)))), (.byv (.int .i64))], [(.byv .bool)], fun r => if r = 4 then some [(1, (.byv (.int .i64))), (16, (.byv (.sl (.int .i64)))), (17, (.byv (.int .i64))), (18, (.byv (.int .i64)))] else none, fun _ _ => false, fun _ _ => none, fun _ => []⟩
def var71 : Var := ⟨71, [(.byv (.int .i64))], [(.byv .bool)], fun _ => none, fun _ _ => false, fun _ _ => none, fun _ => []⟩
def var72 : Var := ⟨72, [(.byv (.pair (.int .i64) (.sl (.int .i64)))), (.byv (.int .i64))], [(.byv .bool)], fun _ => none, fun _ _ => false, fun _ _ => none, fun _ => []⟩
def var73 : Var := ⟨73, [(.byv (.int .i64)), (.byv (.int .i64))], [(.byv (.int .i64))], fun _ => none, fun _ _ => false, fun _ _ => none, fun _ => []⟩
def var74 : Var := ⟨74, [(.byv (.pair (.int .i64) (.sl (.int .i64)))), (.byv (.int .i64))], [(.byv .bool)], fun _ => none, fun _ _ => false, fun _ _ => none, fun _ => []⟩
def var75 : Var := ⟨75, [(.byv (.sl (.int .i64)))], [(.byv (.int .i64))], fun r => if r = 7 then some [(3, (.byv (.int .i64))), (12, (.byv (.sl (.int .i64)))), (13, (.byv (.int .i64))), (14, (.byv (.int .i64)))] else none, fun _ _ => false, fun _ _ => none, fun _ => []⟩
def var76 : Var := ⟨76, [(.byv (.pair .bool (.sl (.int .u32)))), (.byv (.int .i64))], [(.byv (.int .i64)), (.byv .bool)], fun r => if r = 5 then some [(1, (.byv (.int .i64))), (2, (.box 62 [(.byv .bool), (.byv (.sl (.int .u32)))])), (6, (.byv (.int .u64))), (14, (.byv (.sl (.int .u32)))), (15, (.byv (.int .i64))), (16, (.byv (.int .i64)))] else none, fun _ _ => false, fun _ _ => none, fun _ => []⟩
def var78 : Var := ⟨78, [(.byv (.pair (.int .i64) (.pair (.int .i64) (.pair .bool (.sl (.int .u32)))))), (.byv (.pair (.int .i64) (.pair (.int .i64) (.pair .bool (.sl (.int .u32))))))], [(.byv (.int .i64))], fun _ => none, fun _ _ => false, fun _ _ => none, fun _ => []⟩
def var79 : Var := ⟨79, [(.byv (.pair .bool (.sl (.int .i64)))), (.byv (.int .i64))], [(.byv (.int .i64)), (.byv .bool)], fun r => if r = 5 then some [(2, (.box 41 [(.byv .bool), (.byv (.sl (.int .i64)))])), (6, (.byv (.int .i64))), (7, (.byv (.int .i64)))] else none, fun _ _ => false, fun _ _ => none, fun _ => []⟩
def var80 : Var := ⟨80, [(.byv .bool), (.byv (.sl (.int .u32)))], [(.byv (.pair .bool (.sl (.int .u32))))], fun _ => none, fun _ _ => false, fun _ _ => none, fun _ => []⟩
def var81 : Var := ⟨81, [(.byv (.sl (.int .u32))), (.byv (.sl (.int .u32)))], [(.own 97 (.int .u32))], fun r => if r = 3 then some [(0, (.byv (.sl (.int .u32)))), (1, (.byv (.sl (.int .u32))))] else if r = 6 then some [(1, (.byv (.sl (.int .u32)))), (5, (.own 97 (.int .u32))), (6, (.byv (.int .u64))), (20, (.byv (.sl (.int .u32)))), (21, (.byv (.int .i64))), (22, (.byv (.int .i64)))] else none, fun _ _ => false, fun _ _ => none, fun _ => []⟩
def var82 : Var := ⟨82, [(.byv (.sl (.int .u32))), (.byv (.sl (.int .u32)))], [(.byv (.int .i64))], fun r => if r = 4 then some [(0, (.byv (.sl (.int .u32)))), (1, (.byv (.sl (.int .u32)))), (5, (.byv (.int .i64)))] else none, fun _ _ => false, fun _ _ => none, fun _ => []⟩
def var83 : Var := ⟨83, [(.byv (.sl (.int .u32))), (.byv (.sl (.int .u32)))], [(.byv (.sl (.int .u32)))], fun r => if r = 4 then some [(1, (.byv (.sl (.int .u32)))), (5, (.own 97 (.int .u32))), (6, (.byv (.int .u64))), (13, (.byv (.sl (.int .u32)))), (14, (.byv (.int .i64))), (15, (.byv (.int .i64)))] else none, fun _ _ => false, fun _ _ => none, fun _ => []⟩
def var84 : Var := ⟨84, [(.byv .str), (.byv .str)], [(.byv .str), (.byv .bool)], fun _ => none, fun _ _ => false, fun _ _ => none, fun _ => []⟩
def var85 : Var := ⟨85, [(.byv .str), (.byv .str)], [(.byv .str), (.byv .str), (.byv .bool)], fun _ => none, fun _ _ => false, fun _ _ => none, fun _ => []⟩
def var86 : Var := ⟨86, [(.byv .str)], [(.byv .bool)], fun _ => none, fun _ _ => false, fun _ _ => none, fun _ => []⟩
def var87 : Var := ⟨87, [(.byv .str)], [(.byv .bool)], fun _ => none, fun _ _ => false, fun _ _ => none, fun _ => []⟩
def var88 : Var := ⟨88, [(.byv .bool), (.byv .str), (.byv .str)], [(.byv (.pair (.int .i64) (.int .i64))), (.byv (.int .i64))], fun r => if r = 3 then some [(0, (.byv .bool)), (1, (.byv .str)), (2, (.byv .str)), (6, (.box 24 [(.byv (.int .i64)), (.byv (.int .i64))])), (8, (.box 62 [(.byv .bool), (.byv (.sl (.int .u32)))])), (14, (.byv (.int .i64))), (15, (.byv (.int .i64)))] else none, fun _ _ => false, fun _ _ => none, fun _ => []⟩
def var89 : Var := ⟨89, [(.byv (.pair .bool (.sl (.int .u32)))), (.byv (.pair .bool (.sl (.int .u32))))], [(.byv (.pair .bool (.sl (.int .u32))))], fun _ => none, fun _ _ => false, fun _ _ => none, fun _ => []⟩
def var90 : Var := ⟨90, [(.byv (.pair .bool (.sl (.int .i64))))], [(.byv (.pair .bool (.sl (.int .i64)))), (.byv (.int .i64))], fun r => if r = 4 then some [(1, (.box 41 [(.byv .bool), (.byv (.sl (.int .i64)))])), (2, (.box 41 [(.byv .bool), (.own 3 (.int .i64))])), (4, (.box 41 [(.byv .bool), (.own 3 (.int .i64))])), (5, (.byv (.int .i64))), (6, (.byv (.int .i64)))] else none, fun _ _ => false, fun _ _ => none, fun _ => []⟩
def var91 : Var := ⟨91, [(.byv (.sl (.int .u32)))], [(.byv (.sl (.int .u32)))], fun r => if r = 1 then some [(0, (.byv (.sl (.int .u32))))] else none, fun _ _ => false, fun _ _ => none, fun _ => []⟩
def var92 : Var := ⟨92, [(.byv (.int .i64))], [(.byv .bool)], fun _ => none, fun _ _ => false, fun _ _ => none, fun _ => []⟩
def var93 : Var := ⟨93, [(.byv (.pair .bool (.sl (.int .u32))))], [(.byv .bool)], fun _ => none, fun _ _ => false, fun _ _ => none, fun _ => []⟩
def var94 : Var := ⟨94, [(.byv (.sl (.int .i64))), (.byv (.int .i64))], [(.byv (.int .i64)), (.byv .bool)], fun r => if r = 3 then some [(0, (.byv (.sl (.int .i64)))), (1, (.byv (.int .i64))), (6, (.byv (.int .i64))), (7, (.byv (.int .i64))), (8, (.byv (.int .i64)))] else none, fun _ _ => false, fun _ _ => none, fun _ => []⟩
def var95 : Var := ⟨95, [(.byv (.int .i64))], [(.byv (.int .i64))], fun _ => none, fun _ _ => false, fun _ _ => none, fun _ => []⟩
def var97 : Var := ⟨97, [(.byv .str), (.byv .str)], [(.byv .str), (.byv .bool)], fun _ => none, fun _ _ => false, fun _ _ => none, fun _ => []⟩
def var98 : Var := ⟨98, [(.byv .str), (.byv .str)], [(.byv .str), (.byv .str), (.byv .bool)], fun _ => none, fun _ _ => false, fun _ _ => none, fun _ => []⟩
def var99 : Var := ⟨99, [(.byv .str), (.byv (.int .u8)), (.byv (.int .u8))], [(.byv .bool)], fun r => if r = 2 then some [(0, (.byv .str)), (1, (.byv (.int .u8))), (2, (.byv (.int .u8))), (9, (.byv (.int .i64))), (10, (.byv (.int .i64)))] else none, fun _ _ => false, fun _ _ => none, fun _ => []⟩
def var100 : Var := ⟨100, [(.byv (.int .i64)), (.byv (.int .i64))], [(.byv .bool)], fun _ => none, fun _ _ => false, fun _ _ => none, fun _ => []⟩
def var101 : Var := ⟨101, [(.byv (.int .i64))], [(.byv .bool)], fun _ => none, fun _ _ => false, fun _ _ => none, fun _ => []⟩
def var104 : Var := ⟨104, [(.byv .str), (.byv .str)], [(.byv .bool)], fun _ => none, fun _ _ => false, fun _ _ => none, fun _ => []⟩
def var105 : Var := ⟨105, [(.byv .str), (.byv .str)], [(.byv (.int .i64))], fun _ => none, fun _ _ => false, fun _ _ => none, fun _ => []⟩
def var106 : Var := ⟨106, [(.byv (.int .i64))], [(.byv .bool)], fun _ => none, fun _ _ => false, fun _ _ => none, fun _ => []⟩
def var108 : Var := ⟨108, [(.byv .str), (.byv (.int .u8))], [(.byv (.int .i64))], fun _ => none, fun _ _ => false, fun _ _ => none, fun _ => []⟩
def var100077 : Var := ⟨77, [(.mv 91 (.pair (.int .i64) (.pair (.int .i64) (.pair .bool (.sl (.int .u32))))) true), (.fn 78 [])], [], fun _ => none, fun _ _ => false, fun r i => if r = 0 ∧ i = 4 then some 100096 else none, fun _ => []⟩
def var100096 : Var := ⟨96, [(.mv 91 (.pair (.int .i64) (.pair (.int .i64) (.pair .bool (.sl (.int .u32))))) true), (.byv (.int .i64)), (.fn 78 [])], [], fun r => if r = 2 then some [(0, (.own 91 (.pair (.int .i64) (.pair (.int .i64) (.pair .bool (.sl (.int .u32))))))), (1, (.byv (.int .i64))), (2, (.fn 78 [])), (6, (.byv (.int .i64))), (7, (.byv (.int .i64))), (8, (.byv (.int .i64)))] else if r = 7 then some [(0, (.own 91 (.pair (.int .i64) (.pair (.int .i64) (.pair .bool (.sl (.int .u32))))))), (1, (.byv (.int .i64))), (2, (.fn 78 [])), (6, (.byv (.int .i64)))] else if r = 9 then some [(0, (.own 91 (.pair (.int .i64) (.pair (.int .i64) (.pair .bool (.sl (.int .u32))))))), (1, (.byv (.int .i64))), (2, (.fn 78 [])), (6, (.byv (.int .i64))), (7, (.byv (.int .i64))), (8, (.byv (.int .i64)))] else none, fun _ _ => false, fun r i => if r = 3 ∧ i = 4 then some 100102 else if r = 6 ∧ i = 4 then some 100102 else if r = 10 ∧ i = 7 then some 100103 else if r = 15 ∧ i = 5 then some 100103 else none, fun _ => []⟩
def var100102 : Var := ⟨102, [(.mv 91 (.pair (.int .i64) (.pair (.int .i64) (.pair .bool (.sl (.int .u32))))) true), (.byv (.int .i64)), (.byv (.int .i64)), (.fn 78 [])], [], fun r => if r = 1 then some [(0, (.own 91 (.pair (.int .i64) (.pair (.int .i64) (.pair .bool (.sl (.int .u32))))))), (1, (.byv (.int .i64))), (2, (.byv (.int .i64))), (3, (.fn 78 [])), (8, (.byv (.int .i64)))] else if r = 4 then some [(0, (.own 91 (.pair (.int .i64) (.pair (.int .i64) (.pair .bool (.sl (.int .u32))))))), (1, (.byv (.int .i64))), (2, (.byv (.int .i64))), (3, (.fn 78 [])), (8, (.byv (.int .i64))), (9, (.byv (.int .i64)))] else none, fun _ _ => false, fun _ _ => none, fun _ => []⟩
def var100103 : Var := ⟨103, [(.mv 91 (.pair (.int .i64) (.pair (.int .i64) (.pair .bool (.sl (.int .u32))))) true), (.byv (.int .i64)), (.byv (.int .i64)), (.byv (.int .i64)), (.fn 78 [])], [], fun r => if r = 3 then some [(0, (.own 91 (.pair (.int .i64) (.pair (.int .i64) (.pair .bool (.sl (.int .u32))))))), (1, (.byv (.int .i64))), (4, (.fn 78 [])), (10, (.byv (.int .i64))), (11, (.byv (.int .i64)))] else if r = 9 then some [(0, (.own 91 (.pair (.int .i64) (.pair (.int .i64) (.pair .bool (.sl (.int .u32))))))), (10, (.byv (.int .i64))), (13, (.byv (.int .i64)))] else if r = 15 then some [(0, (.own 91 (.pair (.int .i64) (.pair (.int .i64) (.pair .bool (.sl (.int .u32))))))), (2, (.byv (.int .i64))), (4, (.fn 78 [])), (14, (.byv (.int .i64))), (15, (.byv (.int .i64)))] else if r = 21 then some [(0, (.own 91 (.pair (.int .i64) (.pair (.int .i64) (.pair .bool (.sl (.int .u32))))))), (14, (.byv (.int .i64))), (17, (.byv (.int .i64)))] else if r = 32 then some [(0, (.own 91 (.pair (.int .i64) (.pair (.int .i64) (.pair .bool (.sl (.int .u32))))))), (1, (.byv (.int .i64))), (2, (.byv (.int .i64))), (3, (.byv (.int .i64))), (4, (.fn 78 [])), (18, (.byv (.int .i64))), (19, (.byv (.int .i64))), (20, (.byv (.int .i64))), (21, (.byv (.int .i64)))] else if r = 33 then some [(0, (.own 91 (.pair (.int .i64) (.pair (.int .i64) (.pair .bool (.sl (.int .u32))))))), (1, (.byv (.int .i64))), (2, (.byv (.int .i64))), (3, (.byv (.int .i64))), (4, (.fn 78 [])), (18, (.byv (.int .i64))), (19, (.byv (.int .i64))), (20, (.byv (.int .i64))), (21, (.byv (.int .i64))), (22, (.byv (.int .i64)))] else none, fun _ _ => false, fun r i => if r = 40 ∧ i = 5 then some 100107 else if r = 42 ∧ i = 5 then some 100103 else if r = 44 ∧ i = 5 then some 100103 else none, fun _ => []⟩
def var100107 : Var := ⟨107, [(.mv 91 (.pair (.int .i64) (.pair (.int .i64) (.pair .bool (.sl (.int .u32))))) true), (.byv (.int .i64)), (.byv (.int .i64)), (.byv (.int .i64)), (.fn 78 [])], [], fun r => if r = 2 then some [(0, (.own 91 (.pair (.int .i64) (.pair (.int .i64) (.pair .bool (.sl (.int .u32))))))), (2, (.byv (.int .i64))), (4, (.fn 78 [])), (10, (.byv (.int .i64))), (11, (.byv (.int .i64)))] else none, fun _ _ => false, fun r i => if r = 4 ∧ i = 7 then some 100112 else if r = 6 ∧ i = 11 then some 100112 else if r = 8 ∧ i = 7 then some 100112 else none, fun _ => []⟩
def var100112 : Var := ⟨112, [(.mv 91 (.pair (.int .i64) (.pair (.int .i64) (.pair .bool (.sl (.int .u32))))) true), (.byv (.int .i64)), (.byv (.int .i64)), (.byv (.int .i64)), (.fn 78 [])], [], fun r => if r = 1 then some [(0, (.own 91 (.pair (.int .i64) (.pair (.int .i64) (.pair .bool (.sl (.int .u32))))))), (1, (.byv (.int .i64))), (2, (.byv (.int .i64))), (3, (.byv (.int .i64))), (10, (.byv (.int .i64)))] else none, fun _ _ => false, fun _ _ => none, fun _ => []⟩
def varT (u : Nat) : Var := cond (Nat.blt u 56) (cond (Nat.blt u 29) (cond (Nat.blt u 16) (cond (Nat.blt u 9) (cond (Nat.blt u 6) (cond (Nat.blt u 4) (var3) (cond (Nat.blt u 5) (var4) (var5))) (cond (Nat.blt u 7) (var6) (cond (Nat.blt u 8) (var7) (var8)))) (cond (Nat.blt u 12) (cond (Nat.blt u 10) (var9) (cond (Nat.blt u 11) (var10) (var11))) (cond (Nat.blt u 14) (cond (Nat.blt u 13) (var12) (var13)) (cond (Nat.blt u 15) (var14) (var15))))) (cond (Nat.blt u 22) (cond (Nat.blt u 19) (cond (Nat.blt u 17) (var16) (cond (Nat.blt u 18) (var17) (var18))) (cond (Nat.blt u 20) (var19) (cond (Nat.blt u 21) (var20) (var21)))) (cond (Nat.blt u 25) (cond (Nat.blt u 23) (var22) (cond (Nat.blt u 24) (var23) (var24))) (cond (Nat.blt u 27) (cond (Nat.blt u 26) (var25) (var26)) (cond (Nat.blt u 28) (var27) (var28)))))) (cond (Nat.blt u 42) (cond (Nat.blt u 35) (cond (Nat.blt u 32) (cond (Nat.blt u 30) (var29) (cond (Nat.blt u 31) (var30) (var31))) (cond (Nat.blt u 33) (var32) (cond (Nat.blt u 34) (var33) (var34)))) (cond (Nat.blt u 38) (cond (Nat.blt u 36) (var35) (cond (Nat.blt u 37) (var36) (var37))) (cond (Nat.blt u 40) (cond (Nat.blt u 39) (var38) (var39)) (cond (Nat.blt u 41) (var40) (var41))))) (cond (Nat.blt u 49) (cond (Nat.blt u 45) (cond (Nat.blt u 43) (var42) (cond (Nat.blt u 44) (var43) (var44))) (cond (Nat.blt u 47) (cond (Nat.blt u 46) (var45) (var46)) (cond (Nat.blt u 48) (var47) (var48)))) (cond (Nat.blt u 52) (cond (Nat.blt u 50) (var49) (cond (Nat.blt u 51) (var50) (var51))) (cond (Nat.blt u 54) (cond (Nat.blt u 53) (var52) (var53)) (cond (Nat.blt u 55) (var54) (var55))))))) (cond (Nat.blt u 84) (cond (Nat.blt u 69) (cond (Nat.blt u 62) (cond (Nat.blt u 59) (cond (Nat.blt u 57) (var56) (cond (Nat.blt u 58) (var57) (var58))) (cond (Nat.blt u 60) (var59) (cond (Nat.blt u 61) (var60) (var61)))) (cond (Nat.blt u 65) (cond (Nat.blt u 63) (var62) (cond (Nat.blt u 64) (var63) (var64))) (cond (Nat.blt u 67) (cond (Nat.blt u 66) (var65) (var66)) (cond (Nat.blt u 68) (var67) (var68))))) (cond (Nat.blt u 76) (cond (Nat.blt u 72) (cond (Nat.blt u 70) (var69) (cond (Nat.blt u 71) (var70) (var71))) (cond (Nat.blt u 74) (cond (Nat.blt u 73) (var72) (var73)) (cond (Nat.blt u 75) (var74) (var75)))) (cond (Nat.blt u 80) (cond (Nat.blt u 78) (var76) (cond (Nat.blt u 79) (var78) (var79))) (cond (Nat.blt u 82) (cond (Nat.blt u 81) (var80) (var81)) (cond (Nat.blt u 83) (var82) (var83)))))) (cond (Nat.blt u 98) (cond (Nat.blt u 90) (cond (Nat.blt u 87) (cond (Nat.blt u 85) (var84) (cond (Nat.blt u 86) (var85) (var86))) (cond (Nat.blt u 88) (var87) (cond (Nat.blt u 89) (var88) (var89)))) (cond (Nat.blt u 93) (cond (Nat.blt u 91) (var90) (cond (Nat.blt u 92) (var91) (var92))) (cond (Nat.blt u 95) (cond (Nat.blt u 94) (var93) (var94)) (cond (Nat.blt u 97) (var95) (var97))))) (cond (Nat.blt u 108) (cond (Nat.blt u 101) (cond (Nat.blt u 99) (var98) (cond (Nat.blt u 100) (var99) (var100))) (cond (Nat.blt u 105) (cond (Nat.blt u 104) (var101) (var104)) (cond (Nat.blt u 106) (var105) (var106)))) (cond (Nat.blt u 100102) (cond (Nat.blt u 100077) (var108) (cond (Nat.blt u 100096) (var100077) (var100096))) (cond (Nat.blt u 100107) (cond (Nat.blt u 100103) (var100102) (var100103)) (cond (Nat.blt u 100112) (var100107) (var100112)))))))
def g108 : var108.PT → Option var108.RT := fun (a, b) => some (Lib.indexByte a.data.toList b.toNat.toUInt8)
def gvT (u : Nat) : Option ((varT u).PT → Option (varT u).RT) := if h : u = 108 then some (h ▸ g108) else none
def A : An := ⟨varT, fun f => f, gvT⟩
noncomputable abbrev P : Program := Try.prog
/-- interchange/kit.Outside -/
noncomputable def kit_Outside (k : Nat) (a : Int) (b : Int) (c : Int) : Option Bool := callA P A k 52 (a, b, c)
theorem kit_Outside_eq (k : Nat) (a : Int) (b : Int) (c : Int) : kit_Outside (k + 1) a b c =
  some (cond (decide (a < b)) true (decide (a > c))) := by kernel_rfl
/-- interchange/amount.CheckDecimal -/
noncomputable def amount_CheckDecimal (k : Nat) (a : Int × Int) : Option Int := callA P A k 19 a
theorem amount_CheckDecimal_eq (k : Nat) (a : Int × Int) : amount_CheckDecimal (k + 1) a =
  (kit_Outside k a.1 (-1000000000000000) 1000000000000000).bind fun y0 =>
  (cond (!y0) (kit_Outside k a.2 0 9) (some false)).bind fun y1 =>
  cond (cond y0 true y1) (
    some 1) (
    some 0) := by kernel_rfl
/-- interchange/amount.CheckDecimals -/
noncomputable def amount_CheckDecimals (k : Nat) (a : List (Int × Int)) : Option Int := callA P A k 43 a
noncomputable def amount_CheckDecimals_c2 (k : Nat) (s6 : List (Int × Int)) (s7 : Int) (s8 : Int) : Option Int := cutA P A k 43 (todoAt P A 43 2) [(6, (.byv (.sl (.pair (.int .i64) (.int .i64))))), (7, (.byv (.int .i64))), (8, (.byv (.int .i64)))] (s6, s7, s8)
theorem amount_CheckDecimals_eq (k : Nat) (a : List (Int × Int)) : amount_CheckDecimals (k + 1) a =
  amount_CheckDecimals_c2 k a (a.length : Int) 0 := by kernel_rfl
theorem amount_CheckDecimals_c2_eq (k : Nat) (s6 : List (Int × Int)) (s7 : Int) (s8 : Int) : amount_CheckDecimals_c2 (k + 1) s6 s7 s8 =
  cond (decide (s8 < s7)) (
    cond (decide (0 ≤ s8)) (
    cond (decide (s8 < (s6.length : Int))) (
    (amount_CheckDecimal k (((s6.getD s8.toNat (0, 0)).1), ((s6.getD s8.toNat (0, 0)).2))).bind fun y0 =>
    cond (y0 != 0) (
      some y0) (
      amount_CheckDecimals_c2 k s6 s7 (wi64 (s8 + 1)))) none) none) (
    some 0) := by kernel_rfl
/-- interchange/whole.trimmed -/
noncomputable def whole_trimmed (k : Nat) (a : List Int) : Option (List Int) := callA P A k 91 a
noncomputable def whole_trimmed_c1 (k : Nat) (s0 : List Int) : Option (List Int) := cutA P A k 91 (todoAt P A 91 1) [(0, (.byv (.sl (.int .u32))))] s0
theorem whole_trimmed_eq (k : Nat) (a : List Int) : whole_trimmed (k + 1) a =
  whole_trimmed_c1 k a := by kernel_rfl
theorem whole_trimmed_c1_eq (k : Nat) (s0 : List Int) : whole_trimmed_c1 (k + 1) s0 =
  cond ((!(decide ((s0.length : Int) > 0))) || (decide (0 ≤ (wi64 ((s0.length : Int) - 1))))) (
  cond ((!(decide ((s0.length : Int) > 0))) || (decide ((wi64 ((s0.length : Int) - 1)) < (s0.length : Int)))) (
  cond (cond (decide ((s0.length : Int) > 0)) ((s0.getD (wi64 ((s0.length : Int) - 1)).toNat 0) == 0) false) (
    cond (decide (0 ≤ (wi64 ((s0.length : Int) - 1)))) (
    cond (decide ((wi64 ((s0.length : Int) - 1)) ≤ (s0.length : Int))) (
    whole_trimmed_c1 k (s0.take (wi64 ((s0.length : Int) - 1)).toNat)) none) none) (
    some s0)) none) none := by kernel_rfl
/-- interchange/whole.made -/
noncomputable def whole_made (k : Nat) (a : Bool) (b : List Int) : Option (Bool × List Int) := callA P A k 80 (a, b)
theorem whole_made_eq (k : Nat) (a : Bool) (b : List Int) : whole_made (k + 1) a b =
  (whole_trimmed k b).bind fun y0 =>
  some ((cond a (decide ((y0.length : Int) > 0)) false), y0) := by kernel_rfl
/-- interchange/whole.Of -/
noncomputable def whole_Of (k : Nat) (a : Int) : Option (Bool × List Int) := callA P A k 44 a
theorem whole_Of_eq (k : Nat) (a : Int) : whole_Of (k + 1) a =
  cond (decide (a < 0)) (
    (whole_made k (decide (a < 0)) [(wu32 (wu64 (0 - (wu64 a)))), (wu32 (shrI .u64 (wu64 (0 - (wu64 a))) 32))]).bind fun y0 =>
    some y0) (
    (whole_made k (decide (a < 0)) [(wu32 (wu64 a)), (wu32 (shrI .u64 (wu64 a) 32))]).bind fun y1 =>
    some y1) := by kernel_rfl
/-- (interchange/whole.Int).Times -/
noncomputable def whole_Int_Times (k : Nat) (a : Bool × List Int) (b : Bool × List Int) : Option (Bool × List Int) := callA P A k 56 (a, b)
noncomputable def whole_Int_Times_c3 (k : Nat) (s2 : Bool × List Int) (s3 : Bool × List Int) (s4 : Bool × List Int) (s5 : List Int) (s20 : List Int) (s21 : Int) (s22 : Int) : Option (Bool × List Int) := cutA P A k 56 (todoAt P A 56 3) [(2, (.box 62 [(.byv .bool), (.byv (.sl (.int .u32)))])), (3, (.box 62 [(.byv .bool), (.byv (.sl (.int .u32)))])), (4, (.box 62 [(.byv .bool), (.own 97 (.int .u32))])), (5, (.own 97 (.int .u32))), (20, (.byv (.sl (.int .u32)))), (21, (.byv (.int .i64))), (22, (.byv (.int .i64)))] (s2, s3, s4, s5, s20, s21, s22)
noncomputable def whole_Int_Times_c7 (k : Nat) (s2 : Bool × List Int) (s3 : Bool × List Int) (s4 : Bool × List Int) (s5 : List Int) (s6 : Int) (s7 : Int) (s8 : Int) (s20 : List Int) (s21 : Int) (s22 : Int) (s28 : List Int) (s29 : Int) (s30 : Int) : Option (Bool × List Int) := cutA P A k 56 (todoAt P A 56 7) [(2, (.box 62 [(.byv .bool), (.byv (.sl (.int .u32)))])), (3, (.box 62 [(.byv .bool), (.byv (.sl (.int .u32)))])), (4, (.box 62 [(.byv .bool), (.own 97 (.int .u32))])), (5, (.own 97 (.int .u32))), (6, (.byv (.int .i64))), (7, (.byv (.int .u32))), (8, (.byv (.int .u64))), (20, (.byv (.sl (.int .u32)))), (21, (.byv (.int .i64))), (22, (.byv (.int .i64))), (28, (.byv (.sl (.int .u32)))), (29, (.byv (.int .i64))), (30, (.byv (.int .i64)))] (s2, s3, s4, s5, s6, s7, s8, s20, s21, s22, s28, s29, s30)
theorem whole_Int_Times_eq (k : Nat) (a : Bool × List Int) (b : Bool × List Int) : whole_Int_Times (k + 1) a b =
  cond (decide (0 ≤ (wi64 ((a.2.length : Int) + (b.2.length : Int))))) (
  cond (decide ((wi64 ((a.2.length : Int) + (b.2.length : Int))).toNat ≤ 35184372088832)) (
  whole_Int_Times_c3 k a b (false, []) (List.replicate (wi64 ((a.2.length : Int) + (b.2.length : Int))).toNat 0) a.2 (a.2.length : Int) 0) none) none := by kernel_rfl
theorem whole_Int_Times_c3_eq (k : Nat) (s2 : Bool × List Int) (s3 : Bool × List Int) (s4 : Bool × List Int) (s5 : List Int) (s20 : List Int) (s21 : Int) (s22 : Int) : whole_Int_Times_c3 (k + 1) s2 s3 s4 s5 s20 s21 s22 =
  cond (decide (s22 < s21)) (
    cond (decide (0 ≤ s22)) (
    cond (decide (s22 < (s20.length : Int))) (
    whole_Int_Times_c7 k s2 s3 s4 s5 s22 (s20.getD s22.toNat 0) 0 s20 s21 s22 s3.2 (s3.2.length : Int) 0) none) none) (
    (whole_made k (!(s2.1 == s3.1)) s5).bind fun y0 =>
    some y0) := by kernel_rfl
theorem whole_Int_Times_c7_eq (k : Nat) (s2 : Bool × List Int) (s3 : Bool × List Int) (s4 : Bool × List Int) (s5 : List Int) (s6 : Int) (s7 : Int) (s8 : Int) (s20 : List Int) (s21 : Int) (s22 : Int) (s28 : List Int) (s29 : Int) (s30 : Int) : whole_Int_Times_c7 (k + 1) s2 s3 s4 s5 s6 s7 s8 s20 s21 s22 s28 s29 s30 =
  cond (decide (s30 < s29)) (
    cond (decide (0 ≤ s30)) (
    cond (decide (s30 < (s28.length : Int))) (
    cond (decide (0 ≤ (wi64 (s6 + s30)))) (
    cond (decide ((wi64 (s6 + s30)) < (s5.length : Int))) (
    cond (decide (0 ≤ (wi64 (s6 + s30)))) (
    cond (decide ((wi64 (s6 + s30)) < (s5.length : Int))) (
    whole_Int_Times_c7 k s2 s3 s4 (s5.set (wi64 (s6 + s30)).toNat (wu32 (wu64 (s8 + (wu64 ((wu64 (s5.getD (wi64 (s6 + s30)).toNat 0)) + (wu64 ((wu64 s7) * (wu64 (s28.getD s30.toNat 0)))))))))) s6 s7 (shrI .u64 (wu64 (s8 + (wu64 ((wu64 (s5.getD (wi64 (s6 + s30)).toNat 0)) + (wu64 ((wu64 s7) * (wu64 (s28.getD s30.toNat 0)))))))) 32) s20 s21 s22 s28 s29 (wi64 (s30 + 1))) none) none) none) none) none) none) (
    cond (decide (0 ≤ (wi64 (s6 + (s3.2.length : Int))))) (
    cond (decide ((wi64 (s6 + (s3.2.length : Int))) < (s5.length : Int))) (
    whole_Int_Times_c3 k s2 s3 s4 (s5.set (wi64 (s6 + (s3.2.length : Int))).toNat (wu32 s8)) s20 s21 (wi64 (s22 + 1))) none) none) := by kernel_rfl
/-- interchange/whole.Power -/
noncomputable def whole_Power (k : Nat) (a : Int) : Option (Bool × List Int) := callA P A k 58 a
noncomputable def whole_Power_c3 (k : Nat) (s2 : Bool × List Int) (s3 : Bool × List Int) (s5 : Int) (s6 : Int) : Option (Bool × List Int) := cutA P A k 58 (todoAt P A 58 3) [(2, (.box 62 [(.byv .bool), (.own 97 (.int .u32))])), (3, (.box 62 [(.byv .bool), (.byv (.sl (.int .u32)))])), (5, (.byv (.int .i64))), (6, (.byv (.int .i64)))] (s2, s3, s5, s6)
theorem whole_Power_eq (k : Nat) (a : Int) : whole_Power (k + 1) a =
  (whole_Of k 1).bind fun y0 =>
  whole_Power_c3 k (false, []) y0 a 0 := by kernel_rfl
theorem whole_Power_c3_eq (k : Nat) (s2 : Bool × List Int) (s3 : Bool × List Int) (s5 : Int) (s6 : Int) : whole_Power_c3 (k + 1) s2 s3 s5 s6 =
  cond (decide (s6 < s5)) (
    (whole_Of k 10).bind fun y1 =>
    (whole_Int_Times k s3 y1).bind fun y2 =>
    whole_Power_c3 k s2 y2 s5 (wi64 (s6 + 1))) (
    some s3) := by kernel_rfl
/-- interchange/amount.Scaled -/
noncomputable def amount_Scaled (k : Nat) (a : Int × Int) (b : Int) : Option (Bool × List Int) := callA P A k 46 (a, b)
theorem amount_Scaled_eq (k : Nat) (a : Int × Int) (b : Int) : amount_Scaled (k + 1) a b =
  (whole_Of k a.1).bind fun y0 =>
  (whole_Power k (wi64 (b - a.2))).bind fun y1 =>
  (whole_Int_Times k y0 y1).bind fun y2 =>
  some y2 := by kernel_rfl
/-- interchange/whole.sum -/
noncomputable def whole_sum (k : Nat) (a : List Int) (b : List Int) : Option (List Int) := callA P A k 81 (a, b)
noncomputable def whole_sum_c3 (k : Nat) (s0 : List Int) (s1 : List Int) : Option (List Int) := cutA P A k 81 (todoAt P A 81 3) [(0, (.byv (.sl (.int .u32)))), (1, (.byv (.sl (.int .u32))))] (s0, s1)
noncomputable def whole_sum_c6 (k : Nat) (s1 : List Int) (s5 : List Int) (s6 : Int) (s20 : List Int) (s21 : Int) (s22 : Int) : Option (List Int) := cutA P A k 81 (todoAt P A 81 6) [(1, (.byv (.sl (.int .u32)))), (5, (.own 97 (.int .u32))), (6, (.byv (.int .u64))), (20, (.byv (.sl (.int .u32)))), (21, (.byv (.int .i64))), (22, (.byv (.int .i64)))] (s1, s5, s6, s20, s21, s22)
theorem whole_sum_eq (k : Nat) (a : List Int) (b : List Int) : whole_sum (k + 1) a b =
  cond (decide ((a.length : Int) < (b.length : Int))) (
    whole_sum_c3 k b a) (
    whole_sum_c3 k a b) := by kernel_rfl
theorem whole_sum_c3_eq (k : Nat) (s0 : List Int) (s1 : List Int) : whole_sum_c3 (k + 1) s0 s1 =
  cond (decide (0 ≤ (wi64 ((s0.length : Int) + 1)))) (
  cond (decide ((wi64 ((s0.length : Int) + 1)).toNat ≤ 35184372088832)) (
  whole_sum_c6 k s1 (List.replicate 0 0) 0 s0 (s0.length : Int) 0) none) none := by kernel_rfl
theorem whole_sum_c6_eq (k : Nat) (s1 : List Int) (s5 : List Int) (s6 : Int) (s20 : List Int) (s21 : Int) (s22 : Int) : whole_sum_c6 (k + 1) s1 s5 s6 s20 s21 s22 =
  cond (decide (s22 < s21)) (
    cond (decide (0 ≤ s22)) (
    cond (decide (s22 < (s20.length : Int))) (
    cond (decide (s22 < (s1.length : Int))) (
      cond (decide (0 ≤ s22)) (
      cond (decide (s22 < (s1.length : Int))) (
      cond (decide (s5.length + 1 < 35184372088832)) (
      whole_sum_c6 k s1 (s5 ++ [(wu32 (wu64 ((wu64 (s6 + (wu64 (s20.getD s22.toNat 0)))) + (wu64 (s1.getD s22.toNat 0)))))]) (shrI .u64 (wu64 ((wu64 (s6 + (wu64 (s20.getD s22.toNat 0)))) + (wu64 (s1.getD s22.toNat 0)))) 32) s20 s21 (wi64 (s22 + 1))) none) none) none) (
      cond (decide (s5.length + 1 < 35184372088832)) (
      whole_sum_c6 k s1 (s5 ++ [(wu32 (wu64 (s6 + (wu64 (s20.getD s22.toNat 0)))))]) (shrI .u64 (wu64 (s6 + (wu64 (s20.getD s22.toNat 0)))) 32) s20 s21 (wi64 (s22 + 1))) none)) none) none) (
    cond (decide (s5.length + 1 < 35184372088832)) (
    some (s5 ++ [(wu32 s6)])) none) := by kernel_rfl
/-- interchange/whole.compare -/
noncomputable def whole_compare (k : Nat) (a : List Int) (b : List Int) : Option Int := callA P A k 82 (a, b)
noncomputable def whole_compare_c4 (k : Nat) (s0 : List Int) (s1 : List Int) (s5 : Int) : Option Int := cutA P A k 82 (todoAt P A 82 4) [(0, (.byv (.sl (.int .u32)))), (1, (.byv (.sl (.int .u32)))), (5, (.byv (.int .i64)))] (s0, s1, s5)
theorem whole_compare_eq (k : Nat) (a : List Int) (b : List Int) : whole_compare (k + 1) a b =
  cond ((a.length : Int) != (b.length : Int)) (
    some (wi64 ((a.length : Int) - (b.length : Int)))) (
    whole_compare_c4 k a b (wi64 ((a.length : Int) - 1))) := by kernel_rfl
theorem whole_compare_c4_eq (k : Nat) (s0 : List Int) (s1 : List Int) (s5 : Int) : whole_compare_c4 (k + 1) s0 s1 s5 =
  cond (decide (s5 ≥ 0)) (
    cond (decide (0 ≤ s5)) (
    cond (decide (s5 < (s0.length : Int))) (
    cond (decide (0 ≤ s5)) (
    cond (decide (s5 < (s1.length : Int))) (
    cond ((s0.getD s5.toNat 0) != (s1.getD s5.toNat 0)) (
      cond (decide (0 ≤ s5)) (
      cond (decide (s5 < (s0.length : Int))) (
      cond (decide (0 ≤ s5)) (
      cond (decide (s5 < (s1.length : Int))) (
      cond (decide ((s0.getD s5.toNat 0) < (s1.getD s5.toNat 0))) (
        some (-1)) (
        some 1)) none) none) none) none) (
      whole_compare_c4 k s0 s1 (wi64 (s5 - 1)))) none) none) none) none) (
    some 0) := by kernel_rfl
/-- interchange/whole.less -/
noncomputable def whole_less (k : Nat) (a : List Int) (b : List Int) : Option (List Int) := callA P A k 83 (a, b)
noncomputable def whole_less_c4 (k : Nat) (s1 : List Int) (s5 : List Int) (s6 : Int) (s13 : List Int) (s14 : Int) (s15 : Int) : Option (List Int) := cutA P A k 83 (todoAt P A 83 4) [(1, (.byv (.sl (.int .u32)))), (5, (.own 97 (.int .u32))), (6, (.byv (.int .u64))), (13, (.byv (.sl (.int .u32)))), (14, (.byv (.int .i64))), (15, (.byv (.int .i64)))] (s1, s5, s6, s13, s14, s15)
theorem whole_less_eq (k : Nat) (a : List Int) (b : List Int) : whole_less (k + 1) a b =
  cond (decide (0 ≤ (a.length : Int))) (
  cond (decide ((a.length : Int).toNat ≤ 35184372088832)) (
  whole_less_c4 k b (List.replicate 0 0) 0 a (a.length : Int) 0) none) none := by kernel_rfl
theorem whole_less_c4_eq (k : Nat) (s1 : List Int) (s5 : List Int) (s6 : Int) (s13 : List Int) (s14 : Int) (s15 : Int) : whole_less_c4 (k + 1) s1 s5 s6 s13 s14 s15 =
  cond (decide (s15 < s14)) (
    cond (decide (0 ≤ s15)) (
    cond (decide (s15 < (s13.length : Int))) (
    cond (decide (s15 < (s1.length : Int))) (
      cond (decide (0 ≤ s15)) (
      cond (decide (s15 < (s1.length : Int))) (
      cond (decide (s5.length + 1 < 35184372088832)) (
      whole_less_c4 k s1 (s5 ++ [(wu32 (wu64 ((wu64 ((wu64 (s13.getD s15.toNat 0)) - s6)) - (wu64 (s1.getD s15.toNat 0)))))]) (bitsI .and .u64 (shrI .u64 (wu64 ((wu64 ((wu64 (s13.getD s15.toNat 0)) - s6)) - (wu64 (s1.getD s15.toNat 0)))) 32) 1) s13 s14 (wi64 (s15 + 1))) none) none) none) (
      cond (decide (s5.length + 1 < 35184372088832)) (
      whole_less_c4 k s1 (s5 ++ [(wu32 (wu64 ((wu64 (s13.getD s15.toNat 0)) - s6)))]) (bitsI .and .u64 (shrI .u64 (wu64 ((wu64 (s13.getD s15.toNat 0)) - s6)) 32) 1) s13 s14 (wi64 (s15 + 1))) none)) none) none) (
    (whole_trimmed k s5).bind fun y0 =>
    some y0) := by kernel_rfl
/-- (interchange/whole.Int).Plus -/
noncomputable def whole_Int_Plus (k : Nat) (a : Bool × List Int) (b : Bool × List Int) : Option (Bool × List Int) := callA P A k 45 (a, b)
theorem whole_Int_Plus_eq (k : Nat) (a : Bool × List Int) (b : Bool × List Int) : whole_Int_Plus (k + 1) a b =
  cond (a.1 == b.1) (
    (whole_sum k a.2 b.2).bind fun y0 =>
    (whole_made k a.1 y0).bind fun y1 =>
    some y1) (
    (whole_compare k a.2 b.2).bind fun y2 =>
    cond (decide (y2 ≥ 0)) (
      (whole_less k a.2 b.2).bind fun y3 =>
      (whole_made k a.1 y3).bind fun y4 =>
      some y4) (
      (whole_less k b.2 a.2).bind fun y5 =>
      (whole_made k b.1 y5).bind fun y6 =>
      some y6)) := by kernel_rfl
/-- (interchange/whole.Int).Int -/
noncomputable def whole_Int_Int (k : Nat) (a : Bool × List Int) (b : Int) : Option (Int × Bool) := callA P A k 76 (a, b)
noncomputable def whole_Int_Int_c5 (k : Nat) (s1 : Int) (s2 : Bool × List Int) (s6 : Int) (s14 : List Int) (s15 : Int) (s16 : Int) : Option (Int × Bool) := cutA P A k 76 (todoAt P A 76 5) [(1, (.byv (.int .i64))), (2, (.box 62 [(.byv .bool), (.byv (.sl (.int .u32)))])), (6, (.byv (.int .u64))), (14, (.byv (.sl (.int .u32)))), (15, (.byv (.int .i64))), (16, (.byv (.int .i64)))] (s1, s2, s6, s14, s15, s16)
theorem whole_Int_Int_eq (k : Nat) (a : Bool × List Int) (b : Int) : whole_Int_Int (k + 1) a b =
  cond (decide ((a.2.length : Int) > 2)) (
    some (0, false)) (
    whole_Int_Int_c5 k b a 0 a.2 (a.2.length : Int) 0) := by kernel_rfl
theorem whole_Int_Int_c5_eq (k : Nat) (s1 : Int) (s2 : Bool × List Int) (s6 : Int) (s14 : List Int) (s15 : Int) (s16 : Int) : whole_Int_Int_c5 (k + 1) s1 s2 s6 s14 s15 s16 =
  cond (decide (s16 < s15)) (
    cond (decide (0 ≤ s16)) (
    cond (decide (s16 < (s14.length : Int))) (
    cond (decide (0 ≤ (wi64 (32 * s16)))) (
    whole_Int_Int_c5 k s1 s2 (bitsI .or .u64 s6 (shlI .u64 (wu64 (s14.getD s16.toNat 0)) (wi64 (32 * s16)))) s14 s15 (wi64 (s16 + 1))) none) none) none) (
    cond (decide (s6 > (wu64 s1))) (
      some (0, false)) (
      cond s2.1 (
        some ((wi64 (0 - (wi64 s6))), true)) (
        some ((wi64 s6), true)))) := by kernel_rfl
/-- interchange/amount.Made -/
noncomputable def amount_Made (k : Nat) (a : Bool × List Int) (b : Int) : Option ((Int × Int) × Int) := callA P A k 47 (a, b)
theorem amount_Made_eq (k : Nat) (a : Bool × List Int) (b : Int) : amount_Made (k + 1) a b =
  (whole_Int_Int k a 1000000000000000).bind fun y0 =>
  cond (!y0.2) (
    some ((0, 0), 1)) (
    some ((y0.1, b), 0)) := by kernel_rfl
/-- interchange/amount.Sum -/
noncomputable def amount_Sum (k : Nat) (a : List (Int × Int)) : Option ((Int × Int) × Int) := callA P A k 11 a
noncomputable def amount_Sum_c8 (k : Nat) (s0 : List (Int × Int)) (s2 : Int × Int) (s5 : Int) (s21 : List (Int × Int)) (s22 : Int) (s23 : Int) : Option ((Int × Int) × Int) := cutA P A k 11 (todoAt P A 11 8) [(0, (.byv (.sl (.pair (.int .i64) (.int .i64))))), (2, (.box 24 [(.byv (.int .i64)), (.byv (.int .i64))])), (5, (.byv (.int .i64))), (21, (.byv (.sl (.pair (.int .i64) (.int .i64))))), (22, (.byv (.int .i64))), (23, (.byv (.int .i64)))] (s0, s2, s5, s21, s22, s23)
noncomputable def amount_Sum_c14 (k : Nat) (s2 : Int × Int) (s5 : Int) (s8 : Bool × List Int) (s33 : List (Int × Int)) (s34 : Int) (s35 : Int) : Option ((Int × Int) × Int) := cutA P A k 11 (todoAt P A 11 14) [(2, (.box 24 [(.byv (.int .i64)), (.byv (.int .i64))])), (5, (.byv (.int .i64))), (8, (.box 62 [(.byv .bool), (.byv (.sl (.int .u32)))])), (33, (.byv (.sl (.pair (.int .i64) (.int .i64))))), (34, (.byv (.int .i64))), (35, (.byv (.int .i64)))] (s2, s5, s8, s33, s34, s35)
theorem amount_Sum_eq (k : Nat) (a : List (Int × Int)) : amount_Sum (k + 1) a =
  cond (decide ((a.length : Int) > 1000)) (
    some ((0, 0), 2)) (
    (amount_CheckDecimals k a).bind fun y0 =>
    cond (y0 != 0) (
      some ((0, 0), y0)) (
      amount_Sum_c8 k a (0, 0) 0 a (a.length : Int) 0)) := by kernel_rfl
theorem amount_Sum_c8_eq (k : Nat) (s0 : List (Int × Int)) (s2 : Int × Int) (s5 : Int) (s21 : List (Int × Int)) (s22 : Int) (s23 : Int) : amount_Sum_c8 (k + 1) s0 s2 s5 s21 s22 s23 =
  cond (decide (s23 < s22)) (
    cond (decide (0 ≤ s23)) (
    cond (decide (s23 < (s21.length : Int))) (
    amount_Sum_c8 k s0 s2 (maxI s5 ((s21.getD s23.toNat (0, 0)).2)) s21 s22 (wi64 (s23 + 1))) none) none) (
    (whole_Of k 0).bind fun y1 =>
    amount_Sum_c14 k s2 s5 y1 s0 (s0.length : Int) 0) := by kernel_rfl
theorem amount_Sum_c14_eq (k : Nat) (s2 : Int × Int) (s5 : Int) (s8 : Bool × List Int) (s33 : List (Int × Int)) (s34 : Int) (s35 : Int) : amount_Sum_c14 (k + 1) s2 s5 s8 s33 s34 s35 =
  cond (decide (s35 < s34)) (
    cond (decide (0 ≤ s35)) (
    cond (decide (s35 < (s33.length : Int))) (
    (amount_Scaled k (((s33.getD s35.toNat (0, 0)).1), ((s33.getD s35.toNat (0, 0)).2)) s5).bind fun y2 =>
    (whole_Int_Plus k s8 y2).bind fun y3 =>
    amount_Sum_c14 k s2 s5 y3 s33 s34 (wi64 (s35 + 1))) none) none) (
    (amount_Made k s8 s5).bind fun y4 =>
    some y4) := by kernel_rfl
/-- internal/stringslite.HasPrefix -/
noncomputable def stringslite_HasPrefix (k : Nat) (a : ByteArray) (b : ByteArray) : Option Bool := callA P A k 104 (a, b)
theorem stringslite_HasPrefix_eq (k : Nat) (a : ByteArray) (b : ByteArray) : stringslite_HasPrefix (k + 1) a b =
  cond ((!(decide ((a.size : Int) ≥ (b.size : Int)))) || (decide (0 ≤ (b.size : Int)))) (
  cond ((!(decide ((a.size : Int) ≥ (b.size : Int)))) || (decide ((b.size : Int) ≤ (a.size : Int)))) (
  some (cond (decide ((a.size : Int) ≥ (b.size : Int))) (eqS (a.extract 0 (b.size : Int).toNat) b) false)) none) none := by kernel_rfl
/-- internal/stringslite.CutPrefix -/
noncomputable def stringslite_CutPrefix (k : Nat) (a : ByteArray) (b : ByteArray) : Option (ByteArray × Bool) := callA P A k 97 (a, b)
theorem stringslite_CutPrefix_eq (k : Nat) (a : ByteArray) (b : ByteArray) : stringslite_CutPrefix (k + 1) a b =
  (stringslite_HasPrefix k a b).bind fun y0 =>
  cond (!y0) (
    some (a, false)) (
    cond (decide (0 ≤ (b.size : Int))) (
    cond (decide ((b.size : Int) ≤ (a.size : Int))) (
    some ((a.extract (b.size : Int).toNat a.size), true)) none) none) := by kernel_rfl
/-- strings.CutPrefix -/
noncomputable def strings_CutPrefix (k : Nat) (a : ByteArray) (b : ByteArray) : Option (ByteArray × Bool) := callA P A k 84 (a, b)
theorem strings_CutPrefix_eq (k : Nat) (a : ByteArray) (b : ByteArray) : strings_CutPrefix (k + 1) a b =
  (stringslite_CutPrefix k a b).bind fun y0 =>
  some y0 := by kernel_rfl
/-- internal/stringslite.IndexByte -/
noncomputable def stringslite_IndexByte (k : Nat) (a : ByteArray) (b : Int) : Option Int := callA P A k 108 (a, b)
theorem stringslite_IndexByte_eq (k : Nat) (a : ByteArray) (b : Int) : stringslite_IndexByte k a b = some (Lib.indexByte a.data.toList b.toNat.toUInt8) := rfl
/-- internal/stringslite.Index -/
noncomputable def stringslite_Index (k : Nat) (a : ByteArray) (b : ByteArray) : Option Int := callA P A k 105 (a, b)
theorem stringslite_Index_eq (k : Nat) (a : ByteArray) (b : ByteArray) : stringslite_Index (k + 1) a b =
  cond (cond ((b.size : Int) == 0) true (eqS b a)) (
    some 0) (
    cond ((b.size : Int) == 1) (
      cond (decide (0 < (b.size : Int))) (
      (stringslite_IndexByte k a (bt b 0)).bind fun y0 =>
      some y0) none) (
      cond (decide ((b.size : Int) ≥ (a.size : Int))) (
        some (-1)) (
        none))) := by kernel_rfl
/-- internal/stringslite.Cut -/
noncomputable def stringslite_Cut (k : Nat) (a : ByteArray) (b : ByteArray) : Option (ByteArray × ByteArray × Bool) := callA P A k 98 (a, b)
theorem stringslite_Cut_eq (k : Nat) (a : ByteArray) (b : ByteArray) : stringslite_Cut (k + 1) a b =
  (stringslite_Index k a b).bind fun y0 =>
  cond (decide (y0 ≥ 0)) (
    cond (decide (0 ≤ y0)) (
    cond (decide (y0 ≤ (a.size : Int))) (
    cond (decide (0 ≤ (wi64 (y0 + (b.size : Int))))) (
    cond (decide ((wi64 (y0 + (b.size : Int))) ≤ (a.size : Int))) (
    some ((a.extract 0 y0.toNat), ((a.extract (wi64 (y0 + (b.size : Int))).toNat a.size), true))) none) none) none) none) (
    some (a, ((bs []), false))) := by kernel_rfl
/-- strings.Cut -/
noncomputable def strings_Cut (k : Nat) (a : ByteArray) (b : ByteArray) : Option (ByteArray × ByteArray × Bool) := callA P A k 85 (a, b)
theorem strings_Cut_eq (k : Nat) (a : ByteArray) (b : ByteArray) : strings_Cut (k + 1) a b =
  (stringslite_Cut k a b).bind fun y0 =>
  some y0 := by kernel_rfl
/-- interchange/kit.InBytes -/
noncomputable def kit_InBytes (k : Nat) (a : ByteArray) (b : Int) (c : Int) : Option Bool := callA P A k 99 (a, b, c)
noncomputable def kit_InBytes_c2 (k : Nat) (s0 : ByteArray) (s1 : Int) (s2 : Int) (s9 : Int) (s10 : Int) : Option Bool := cutA P A k 99 (todoAt P A 99 2) [(0, (.byv .str)), (1, (.byv (.int .u8))), (2, (.byv (.int .u8))), (9, (.byv (.int .i64))), (10, (.byv (.int .i64)))] (s0, s1, s2, s9, s10)
theorem kit_InBytes_eq (k : Nat) (a : ByteArray) (b : Int) (c : Int) : kit_InBytes (k + 1) a b c =
  kit_InBytes_c2 k a b c (a.size : Int) 0 := by kernel_rfl
theorem kit_InBytes_c2_eq (k : Nat) (s0 : ByteArray) (s1 : Int) (s2 : Int) (s9 : Int) (s10 : Int) : kit_InBytes_c2 (k + 1) s0 s1 s2 s9 s10 =
  cond (decide (s10 < s9)) (
    cond (decide (0 ≤ s10)) (
    cond (decide (s10 < (s0.size : Int))) (
    cond ((!(!(decide ((bt s0 s10) < s1)))) || (decide (0 ≤ s10))) (
    cond ((!(!(decide ((bt s0 s10) < s1)))) || (decide (s10 < (s0.size : Int)))) (
    cond (cond (decide ((bt s0 s10) < s1)) true (decide ((bt s0 s10) > s2))) (
      some false) (
      kit_InBytes_c2 k s0 s1 s2 s9 (wi64 (s10 + 1)))) none) none) none) none) (
    some true) := by kernel_rfl
/-- interchange/kit.IsDigits -/
noncomputable def kit_IsDigits (k : Nat) (a : ByteArray) : Option Bool := callA P A k 87 a
theorem kit_IsDigits_eq (k : Nat) (a : ByteArray) : kit_IsDigits (k + 1) a =
  (cond (!(eqS a (bs []))) (kit_InBytes k a 48 57) (some false)).bind fun y0 =>
  some (cond (!(eqS a (bs []))) y0 false) := by kernel_rfl
/-- interchange/amount.isWhole -/
noncomputable def amount_isWhole (k : Nat) (a : ByteArray) : Option Bool := callA P A k 86 a
theorem amount_isWhole_eq (k : Nat) (a : ByteArray) : amount_isWhole (k + 1) a =
  (kit_IsDigits k a).bind fun y0 =>
  cond ((!(y0 && (!((a.size : Int) == 1)))) || true) (
  cond ((!(y0 && (!((a.size : Int) == 1)))) || (decide (0 < (a.size : Int)))) (
  some (cond y0 (cond ((a.size : Int) == 1) true ((bt a 0) != 48)) false)) none) none := by kernel_rfl
/-- (interchange/whole.Int).Sign -/
noncomputable def whole_Int_Sign (k : Nat) (a : Bool × List Int) : Option Int := callA P A k 59 a
theorem whole_Int_Sign_eq (k : Nat) (a : Bool × List Int) : whole_Int_Sign (k + 1) a =
  cond a.1 (
    some (-1)) (
    cond ((a.2.length : Int) == 0) (
      some 0) (
      some 1)) := by kernel_rfl
/-- (interchange/whole.Int).Minus -/
noncomputable def whole_Int_Minus (k : Nat) (a : Bool × List Int) : Option (Bool × List Int) := callA P A k 60 a
theorem whole_Int_Minus_eq (k : Nat) (a : Bool × List Int) : whole_Int_Minus (k + 1) a =
  (whole_made k (!a.1) a.2).bind fun y0 =>
  some y0 := by kernel_rfl
/-- interchange/amount.read -/
noncomputable def amount_read (k : Nat) (a : Bool) (b : ByteArray) (c : ByteArray) : Option ((Int × Int) × Int) := callA P A k 88 (a, b, c)
noncomputable def amount_read_c3 (k : Nat) (s0 : Bool) (s1 : ByteArray) (s2 : ByteArray) (s6 : Int × Int) (s8 : Bool × List Int) (s14 : Int) (s15 : Int) : Option ((Int × Int) × Int) := cutA P A k 88 (todoAt P A 88 3) [(0, (.byv .bool)), (1, (.byv .str)), (2, (.byv .str)), (6, (.box 24 [(.byv (.int .i64)), (.byv (.int .i64))])), (8, (.box 62 [(.byv .bool), (.byv (.sl (.int .u32)))])), (14, (.byv (.int .i64))), (15, (.byv (.int .i64)))] (s0, s1, s2, s6, s8, s14, s15)
theorem amount_read_eq (k : Nat) (a : Bool) (b : ByteArray) (c : ByteArray) : amount_read (k + 1) a b c =
  (whole_Of k 0).bind fun y0 =>
  cond (decide (b.size + c.size ≤ 9223372036854775807)) (
  amount_read_c3 k a b c (0, 0) y0 ((b ++ c).size : Int) 0) none := by kernel_rfl
theorem amount_read_c3_eq (k : Nat) (s0 : Bool) (s1 : ByteArray) (s2 : ByteArray) (s6 : Int × Int) (s8 : Bool × List Int) (s14 : Int) (s15 : Int) : amount_read_c3 (k + 1) s0 s1 s2 s6 s8 s14 s15 =
  cond (decide (s15 < s14)) (
    (whole_Of k 10).bind fun y1 =>
    (whole_Int_Times k s8 y1).bind fun y2 =>
    cond (decide (s1.size + s2.size ≤ 9223372036854775807)) (
    cond (decide (0 ≤ s15)) (
    cond (decide (s15 < ((s1 ++ s2).size : Int))) (
    (whole_Of k (wi64 (wu8 ((bt (s1 ++ s2) s15) - 48)))).bind fun y3 =>
    (whole_Int_Plus k y2 y3).bind fun y4 =>
    amount_read_c3 k s0 s1 s2 s6 y4 s14 (wi64 (s15 + 1))) none) none) none) (
    cond s0 (
      (whole_Int_Sign k s8).bind fun y5 =>
      cond (y5 == 0) (
        some ((0, 0), 10)) (
        (whole_Int_Minus k s8).bind fun y6 =>
        (amount_Made k y6 (s2.size : Int)).bind fun y7 =>
        some y7)) (
      (amount_Made k s8 (s2.size : Int)).bind fun y8 =>
      some y8)) := by kernel_rfl
/-- interchange/amount.ReadText -/
noncomputable def amount_ReadText (k : Nat) (a : ByteArray) : Option ((Int × Int) × Int) := callA P A k 48 a
theorem amount_ReadText_eq (k : Nat) (a : ByteArray) : amount_ReadText (k + 1) a =
  (strings_CutPrefix k a (bs [45])).bind fun y0 =>
  (strings_Cut k y0.1 (bs [46])).bind fun y1 =>
  (cond (!(decide ((a.size : Int) > 40))) (amount_isWhole k y1.1) (some false)).bind fun y2 =>
  (cond ((!(cond (decide ((a.size : Int) > 40)) true (!y2))) && y1.2.2) (kit_IsDigits k y1.2.1) (some false)).bind fun y3 =>
  cond (cond (cond (decide ((a.size : Int) > 40)) true (!y2)) true (cond y1.2.2 (cond (!y3) true (decide ((y1.2.1.size : Int) > 9))) false)) (
    some ((0, 0), 10)) (
    (amount_read k y0.2 y1.1 y1.2.1).bind fun y4 =>
    some y4) := by kernel_rfl
/-- interchange/interchangelaw1.awake -/
noncomputable def interchangelaw1_awake (k : Nat) : Option Bool := callA P A k 12 ()
theorem interchangelaw1_awake_eq (k : Nat) : interchangelaw1_awake (k + 1) =
  (amount_ReadText k (bs [49, 46, 53, 48])).bind fun y0 =>
  some (cond (y0.2 == 0) ((y0.1.1 == 150) && ((y0.1.2 == 2) && true)) false) := by kernel_rfl
/-- interchange/interchangeref1.Below -/
noncomputable def interchangeref1_Below (k : Nat) (a : Int) (b : Int) : Option Int := callA P A k 13 (a, b)
theorem interchangeref1_Below_eq (k : Nat) (a : Int) (b : Int) : interchangeref1_Below (k + 1) a b =
  cond (!(decide (b = 0))) (
  cond (decide ((a.tmod b) < 0)) (
    some (wi64 ((a.tmod b) + b))) (
    some (a.tmod b))) none := by kernel_rfl
/-- slices.Clone[[]interchange/api.Decimal,interchange/api.Decimal] -/
noncomputable def slices_Clone (k : Nat) (a : List (Int × Int)) : Option (List (Int × Int)) := callA P A k 14 a
theorem slices_Clone_eq (k : Nat) (a : List (Int × Int)) : slices_Clone (k + 1) a =
  cond a.isEmpty (
    bothA (.sl (.pair (.int .i64) (.int .i64))) (
      some ([])) (
      cond (decide (0 + a.length < 8796093022208)) (
      some ([] ++ a)) none)) (
    cond (decide (0 + a.length < 8796093022208)) (
    some ([] ++ a)) none) := by kernel_rfl
/-- slices.Reverse[[]interchange/api.Decimal,interchange/api.Decimal] -/
noncomputable def slices_Reverse (k : Nat) (a : List (Int × Int)) : Option (List (Int × Int)) := callA P A k 15 a
noncomputable def slices_Reverse_c1 (k : Nat) (s0 : List (Int × Int)) (s2 : Int) (s3 : Int) : Option (List (Int × Int)) := cutA P A k 15 (todoAt P A 15 1) [(0, (.own 24 (.pair (.int .i64) (.int .i64)))), (2, (.byv (.int .i64))), (3, (.byv (.int .i64)))] (s0, s2, s3)
theorem slices_Reverse_eq (k : Nat) (a : List (Int × Int)) : slices_Reverse (k + 1) a =
  slices_Reverse_c1 k a 0 (wi64 ((a.length : Int) - 1)) := by kernel_rfl
theorem slices_Reverse_c1_eq (k : Nat) (s0 : List (Int × Int)) (s2 : Int) (s3 : Int) : slices_Reverse_c1 (k + 1) s0 s2 s3 =
  cond (decide (s2 < s3)) (
    cond (decide (0 ≤ s3)) (
    cond (decide (s3 < (s0.length : Int))) (
    cond (decide (0 ≤ s2)) (
    cond (decide (s2 < (s0.length : Int))) (
    cond (decide (0 ≤ s2)) (
    cond (decide (s2 < (s0.length : Int))) (
    cond (decide (0 ≤ s3)) (
    cond (decide (s3 < ((s0.set s2.toNat (((s0.getD s3.toNat (0, 0)).1), ((s0.getD s3.toNat (0, 0)).2))).length : Int))) (
    slices_Reverse_c1 k ((s0.set s2.toNat (((s0.getD s3.toNat (0, 0)).1), ((s0.getD s3.toNat (0, 0)).2))).set s3.toNat (((s0.getD s2.toNat (0, 0)).1), ((s0.getD s2.toNat (0, 0)).2))) (wi64 (s2 + 1)) (wi64 (s3 - 1))) none) none) none) none) none) none) none) none) (
    some s0) := by kernel_rfl
/-- interchange/amount.Value -/
noncomputable def amount_Value (k : Nat) (a : Int × Int) : Option (Bool × List Int) := callA P A k 49 a
theorem amount_Value_eq (k : Nat) (a : Int × Int) : amount_Value (k + 1) a =
  (amount_Scaled k a 9).bind fun y0 =>
  some y0 := by kernel_rfl
/-- (interchange/whole.Int).Less -/
noncomputable def whole_Int_Less (k : Nat) (a : Bool × List Int) (b : Bool × List Int) : Option (Bool × List Int) := callA P A k 89 (a, b)
theorem whole_Int_Less_eq (k : Nat) (a : Bool × List Int) (b : Bool × List Int) : whole_Int_Less (k + 1) a b =
  (whole_Int_Minus k b).bind fun y0 =>
  (whole_Int_Plus k a y0).bind fun y1 =>
  some y1 := by kernel_rfl
/-- (interchange/whole.Int).Compare -/
noncomputable def whole_Int_Compare (k : Nat) (a : Bool × List Int) (b : Bool × List Int) : Option Int := callA P A k 50 (a, b)
theorem whole_Int_Compare_eq (k : Nat) (a : Bool × List Int) (b : Bool × List Int) : whole_Int_Compare (k + 1) a b =
  (whole_Int_Less k a b).bind fun y0 =>
  (whole_Int_Sign k y0).bind fun y1 =>
  some y1 := by kernel_rfl
/-- interchange/amount.Compare -/
noncomputable def amount_Compare (k : Nat) (a : Int × Int) (b : Int × Int) : Option (Int × Int) := callA P A k 16 (a, b)
theorem amount_Compare_eq (k : Nat) (a : Int × Int) (b : Int × Int) : amount_Compare (k + 1) a b =
  (amount_CheckDecimals k [a, b]).bind fun y0 =>
  cond (y0 != 0) (
    some (0, y0)) (
    (amount_Value k a).bind fun y1 =>
    (amount_Value k b).bind fun y2 =>
    (whole_Int_Compare k y1 y2).bind fun y3 =>
    some (y3, 0)) := by kernel_rfl
/-- interchange/interchangelaw1.AmountSumsAreExact -/
noncomputable def interchangelaw1_AmountSumsAreExact (k : Nat) (a : List (Int × Int)) (b : Int) : Option Bool := callA P A k 3 (a, b)
theorem interchangelaw1_AmountSumsAreExact_eq (k : Nat) (a : List (Int × Int)) (b : Int) : interchangelaw1_AmountSumsAreExact (k + 1) a b =
  (amount_Sum k a).bind fun y0 =>
  cond (y0.2 != 0) (
    (cond (y0.1.1 == 0) (interchangelaw1_awake k) (some false)).bind fun y1 =>
    some (cond (y0.1.1 == 0) y1 false)) (
    (interchangeref1_Below k b (wi64 ((a.length : Int) + 1))).bind fun y2 =>
    (slices_Clone k a).bind fun y3 =>
    (slices_Reverse k y3).bind fun y4 =>
    (amount_Sum k y4).bind fun y5 =>
    (cond (!(cond (y5.2 != 0) true (!((y0.1.1 == y5.1.1) && ((y0.1.2 == y5.1.2) && true))))) (interchangelaw1_awake k) (some false)).bind fun y6 =>
    cond (cond (cond (y5.2 != 0) true (!((y0.1.1 == y5.1.1) && ((y0.1.2 == y5.1.2) && true)))) true (!y6)) (
      some false) (
      cond (decide (0 ≤ y2)) (
      cond (decide (y2 ≤ (a.length : Int))) (
      (amount_Sum k (a.take y2.toNat)).bind fun y7 =>
      cond (decide (0 ≤ y2)) (
      cond (decide (y2 ≤ (a.length : Int))) (
      (amount_Sum k (a.drop y2.toNat)).bind fun y8 =>
      cond (cond (y7.2 != 0) true (y8.2 != 0)) (
        some true) (
        (amount_Sum k [y7.1, y8.1]).bind fun y9 =>
        cond (y9.2 != 0) (
          some (y9.2 == 1)) (
          (amount_Compare k y0.1 y9.1).bind fun y10 =>
          some (cond (y10.2 == 0) (y10.1 == 0) false)))) none) none) none) none)) := by kernel_rfl
/-- interchange/interchangeref1.within -/
noncomputable def interchangeref1_within (k : Nat) (a : Int) (b : Int) (c : Int) : Option Bool := callA P A k 51 (a, b, c)
theorem interchangeref1_within_eq (k : Nat) (a : Int) (b : Int) (c : Int) : interchangeref1_within (k + 1) a b c =
  some (cond (decide (b ≤ a)) (decide (a ≤ c)) false) := by kernel_rfl
/-- interchange/interchangeref1.CheckDecimal -/
noncomputable def interchangeref1_CheckDecimal (k : Nat) (a : Int × Int) : Option Int := callA P A k 18 a
theorem interchangeref1_CheckDecimal_eq (k : Nat) (a : Int × Int) : interchangeref1_CheckDecimal (k + 1) a =
  (interchangeref1_within k a.1 (-1000000000000000) 1000000000000000).bind fun y0 =>
  (cond (!(!y0)) (interchangeref1_within k a.2 0 9) (some false)).bind fun y1 =>
  cond (cond (!y0) true (!y1)) (
    some 1) (
    some 0) := by kernel_rfl
/-- interchange/interchangeref1.Of -/
noncomputable def interchangeref1_Of (k : Nat) (a : Int) : Option (Bool × List Int) := callA P A k 40 a
noncomputable def interchangeref1_Of_c2 (k : Nat) (s0 : Int) (s2 : Bool × List Int) (s3 : Bool × List Int) : Option (Bool × List Int) := cutA P A k 40 (todoAt P A 40 2) [(0, (.byv (.int .i64))), (2, (.box 41 [(.byv .bool), (.own 3 (.int .i64))])), (3, (.box 41 [(.byv .bool), (.own 3 (.int .i64))]))] (s0, s2, s3)
theorem interchangeref1_Of_eq (k : Nat) (a : Int) : interchangeref1_Of (k + 1) a =
  interchangeref1_Of_c2 k a (false, []) ((decide (a < 0)), []) := by kernel_rfl
theorem interchangeref1_Of_c2_eq (k : Nat) (s0 : Int) (s2 : Bool × List Int) (s3 : Bool × List Int) : interchangeref1_Of_c2 (k + 1) s0 s2 s3 =
  cond (s0 != 0) (
    cond (decide (s3.2.length + 1 < 17592186044416)) (
    interchangeref1_Of_c2 k (wi64 (s0.tdiv 1000000)) s2 (s3.1, (s3.2 ++ [(maxI (s0.tmod 1000000) (wi64 (0 - (s0.tmod 1000000))))]))) none) (
    some s3) := by kernel_rfl
/-- interchange/interchangeref1.trimmed -/
noncomputable def interchangeref1_trimmed (k : Nat) (a : Bool × List Int) : Option (Bool × List Int) := callA P A k 65 a
noncomputable def interchangeref1_trimmed_c1 (k : Nat) (s1 : Bool × List Int) (s2 : Bool × List Int) : Option (Bool × List Int) := cutA P A k 65 (todoAt P A 65 1) [(1, (.box 41 [(.byv .bool), (.byv (.sl (.int .i64)))])), (2, (.box 41 [(.byv .bool), (.own 3 (.int .i64))]))] (s1, s2)
theorem interchangeref1_trimmed_eq (k : Nat) (a : Bool × List Int) : interchangeref1_trimmed (k + 1) a =
  interchangeref1_trimmed_c1 k a (false, []) := by kernel_rfl
theorem interchangeref1_trimmed_c1_eq (k : Nat) (s1 : Bool × List Int) (s2 : Bool × List Int) : interchangeref1_trimmed_c1 (k + 1) s1 s2 =
  cond ((!(decide ((s1.2.length : Int) > 0))) || (decide (0 ≤ (wi64 ((s1.2.length : Int) - 1))))) (
  cond ((!(decide ((s1.2.length : Int) > 0))) || (decide ((wi64 ((s1.2.length : Int) - 1)) < (s1.2.length : Int)))) (
  cond (cond (decide ((s1.2.length : Int) > 0)) ((s1.2.getD (wi64 ((s1.2.length : Int) - 1)).toNat 0) == 0) false) (
    cond (decide (0 ≤ (wi64 ((s1.2.length : Int) - 1)))) (
    cond (decide ((wi64 ((s1.2.length : Int) - 1)) ≤ (s1.2.length : Int))) (
    interchangeref1_trimmed_c1 k (s1.1, (s1.2.take (wi64 ((s1.2.length : Int) - 1)).toNat)) s2) none) none) (
    cond ((s1.2.length : Int) == 0) (
      some (false, s1.2)) (
      some s1))) none) none := by kernel_rfl
/-- interchange/interchangeref1.TimesOf -/
noncomputable def interchangeref1_TimesOf (k : Nat) (a : Bool × List Int) (b : Bool × List Int) : Option (Bool × List Int) := callA P A k 39 (a, b)
noncomputable def interchangeref1_TimesOf_c3 (k : Nat) (s3 : Bool × List Int) (s4 : Bool × List Int) (s5 : Bool × List Int) (s27 : List Int) (s28 : Int) (s29 : Int) : Option (Bool × List Int) := cutA P A k 39 (todoAt P A 39 3) [(3, (.box 41 [(.byv .bool), (.byv (.sl (.int .i64)))])), (4, (.box 41 [(.byv .bool), (.own 3 (.int .i64))])), (5, (.box 41 [(.byv .bool), (.own 3 (.int .i64))])), (27, (.byv (.sl (.int .i64)))), (28, (.byv (.int .i64))), (29, (.byv (.int .i64)))] (s3, s4, s5, s27, s28, s29)
noncomputable def interchangeref1_TimesOf_c6 (k : Nat) (s3 : Bool × List Int) (s4 : Bool × List Int) (s5 : Bool × List Int) (s6 : Int) (s7 : Int) (s27 : List Int) (s28 : Int) (s29 : Int) (s35 : List Int) (s36 : Int) (s37 : Int) : Option (Bool × List Int) := cutA P A k 39 (todoAt P A 39 6) [(3, (.box 41 [(.byv .bool), (.byv (.sl (.int .i64)))])), (4, (.box 41 [(.byv .bool), (.own 3 (.int .i64))])), (5, (.box 41 [(.byv .bool), (.own 3 (.int .i64))])), (6, (.byv (.int .i64))), (7, (.byv (.int .i64))), (27, (.byv (.sl (.int .i64)))), (28, (.byv (.int .i64))), (29, (.byv (.int .i64))), (35, (.byv (.sl (.int .i64)))), (36, (.byv (.int .i64))), (37, (.byv (.int .i64)))] (s3, s4, s5, s6, s7, s27, s28, s29, s35, s36, s37)
noncomputable def interchangeref1_TimesOf_c14 (k : Nat) (s4 : Bool × List Int) (s5 : Bool × List Int) (s86 : Int) (s87 : Int) : Option (Bool × List Int) := cutA P A k 39 (todoAt P A 39 14) [(4, (.box 41 [(.byv .bool), (.own 3 (.int .i64))])), (5, (.box 41 [(.byv .bool), (.own 3 (.int .i64))])), (86, (.byv (.int .i64))), (87, (.byv (.int .i64)))] (s4, s5, s86, s87)
theorem interchangeref1_TimesOf_eq (k : Nat) (a : Bool × List Int) (b : Bool × List Int) : interchangeref1_TimesOf (k + 1) a b =
  cond (decide (0 ≤ (wi64 ((wi64 ((a.2.length : Int) + (b.2.length : Int))) + 1)))) (
  cond (decide ((wi64 ((wi64 ((a.2.length : Int) + (b.2.length : Int))) + 1)).toNat ≤ 17592186044416)) (
  interchangeref1_TimesOf_c3 k b (false, []) ((!(a.1 == b.1)), (List.replicate (wi64 ((wi64 ((a.2.length : Int) + (b.2.length : Int))) + 1)).toNat 0)) a.2 (a.2.length : Int) 0) none) none := by kernel_rfl
theorem interchangeref1_TimesOf_c3_eq (k : Nat) (s3 : Bool × List Int) (s4 : Bool × List Int) (s5 : Bool × List Int) (s27 : List Int) (s28 : Int) (s29 : Int) : interchangeref1_TimesOf_c3 (k + 1) s3 s4 s5 s27 s28 s29 =
  cond (decide (s29 < s28)) (
    cond (decide (0 ≤ s29)) (
    cond (decide (s29 < (s27.length : Int))) (
    interchangeref1_TimesOf_c6 k s3 s4 s5 s29 (s27.getD s29.toNat 0) s27 s28 s29 s3.2 (s3.2.length : Int) 0) none) none) (
    interchangeref1_TimesOf_c14 k s4 s5 (wi64 ((s5.2.length : Int) - 1)) 0) := by kernel_rfl
theorem interchangeref1_TimesOf_c6_eq (k : Nat) (s3 : Bool × List Int) (s4 : Bool × List Int) (s5 : Bool × List Int) (s6 : Int) (s7 : Int) (s27 : List Int) (s28 : Int) (s29 : Int) (s35 : List Int) (s36 : Int) (s37 : Int) : interchangeref1_TimesOf_c6 (k + 1) s3 s4 s5 s6 s7 s27 s28 s29 s35 s36 s37 =
  cond (decide (s37 < s36)) (
    cond (decide (0 ≤ s37)) (
    cond (decide (s37 < (s35.length : Int))) (
    cond (decide (0 ≤ (wi64 (s6 + s37)))) (
    cond (decide ((wi64 (s6 + s37)) < (s5.2.length : Int))) (
    cond (decide (0 ≤ (wi64 (s6 + s37)))) (
    cond (decide ((wi64 (s6 + s37)) < (s5.2.length : Int))) (
    cond (decide (0 ≤ (wi64 ((wi64 (s6 + s37)) + 1)))) (
    cond (decide ((wi64 ((wi64 (s6 + s37)) + 1)) < ((s5.2.set (wi64 (s6 + s37)).toNat (wi64 ((s5.2.getD (wi64 (s6 + s37)).toNat 0) + (wi64 (s7 * (s35.getD s37.toNat 0)))))).length : Int))) (
    cond (decide (0 ≤ (wi64 (s6 + s37)))) (
    cond (decide ((wi64 (s6 + s37)) < ((s5.2.set (wi64 (s6 + s37)).toNat (wi64 ((s5.2.getD (wi64 (s6 + s37)).toNat 0) + (wi64 (s7 * (s35.getD s37.toNat 0)))))).length : Int))) (
    cond (decide (0 ≤ (wi64 ((wi64 (s6 + s37)) + 1)))) (
    cond (decide ((wi64 ((wi64 (s6 + s37)) + 1)) < ((s5.2.set (wi64 (s6 + s37)).toNat (wi64 ((s5.2.getD (wi64 (s6 + s37)).toNat 0) + (wi64 (s7 * (s35.getD s37.toNat 0)))))).length : Int))) (
    cond (decide (0 ≤ (wi64 (s6 + s37)))) (
    cond (decide ((wi64 (s6 + s37)) < (((s5.2.set (wi64 (s6 + s37)).toNat (wi64 ((s5.2.getD (wi64 (s6 + s37)).toNat 0) + (wi64 (s7 * (s35.getD s37.toNat 0)))))).set (wi64 ((wi64 (s6 + s37)) + 1)).toNat (wi64 (((s5.2.set (wi64 (s6 + s37)).toNat (wi64 ((s5.2.getD (wi64 (s6 + s37)).toNat 0) + (wi64 (s7 * (s35.getD s37.toNat 0)))))).getD (wi64 ((wi64 (s6 + s37)) + 1)).toNat 0) + (wi64 (((s5.2.set (wi64 (s6 + s37)).toNat (wi64 ((s5.2.getD (wi64 (s6 + s37)).toNat 0) + (wi64 (s7 * (s35.getD s37.toNat 0)))))).getD (wi64 (s6 + s37)).toNat 0).tdiv 1000000))))).length : Int))) (
    cond (decide (0 ≤ (wi64 (s6 + s37)))) (
    cond (decide ((wi64 (s6 + s37)) < (((s5.2.set (wi64 (s6 + s37)).toNat (wi64 ((s5.2.getD (wi64 (s6 + s37)).toNat 0) + (wi64 (s7 * (s35.getD s37.toNat 0)))))).set (wi64 ((wi64 (s6 + s37)) + 1)).toNat (wi64 (((s5.2.set (wi64 (s6 + s37)).toNat (wi64 ((s5.2.getD (wi64 (s6 + s37)).toNat 0) + (wi64 (s7 * (s35.getD s37.toNat 0)))))).getD (wi64 ((wi64 (s6 + s37)) + 1)).toNat 0) + (wi64 (((s5.2.set (wi64 (s6 + s37)).toNat (wi64 ((s5.2.getD (wi64 (s6 + s37)).toNat 0) + (wi64 (s7 * (s35.getD s37.toNat 0)))))).getD (wi64 (s6 + s37)).toNat 0).tdiv 1000000))))).length : Int))) (
    interchangeref1_TimesOf_c6 k s3 s4 (s5.1, (((s5.2.set (wi64 (s6 + s37)).toNat (wi64 ((s5.2.getD (wi64 (s6 + s37)).toNat 0) + (wi64 (s7 * (s35.getD s37.toNat 0)))))).set (wi64 ((wi64 (s6 + s37)) + 1)).toNat (wi64 (((s5.2.set (wi64 (s6 + s37)).toNat (wi64 ((s5.2.getD (wi64 (s6 + s37)).toNat 0) + (wi64 (s7 * (s35.getD s37.toNat 0)))))).getD (wi64 ((wi64 (s6 + s37)) + 1)).toNat 0) + (wi64 (((s5.2.set (wi64 (s6 + s37)).toNat (wi64 ((s5.2.getD (wi64 (s6 + s37)).toNat 0) + (wi64 (s7 * (s35.getD s37.toNat 0)))))).getD (wi64 (s6 + s37)).toNat 0).tdiv 1000000))))).set (wi64 (s6 + s37)).toNat ((((s5.2.set (wi64 (s6 + s37)).toNat (wi64 ((s5.2.getD (wi64 (s6 + s37)).toNat 0) + (wi64 (s7 * (s35.getD s37.toNat 0)))))).set (wi64 ((wi64 (s6 + s37)) + 1)).toNat (wi64 (((s5.2.set (wi64 (s6 + s37)).toNat (wi64 ((s5.2.getD (wi64 (s6 + s37)).toNat 0) + (wi64 (s7 * (s35.getD s37.toNat 0)))))).getD (wi64 ((wi64 (s6 + s37)) + 1)).toNat 0) + (wi64 (((s5.2.set (wi64 (s6 + s37)).toNat (wi64 ((s5.2.getD (wi64 (s6 + s37)).toNat 0) + (wi64 (s7 * (s35.getD s37.toNat 0)))))).getD (wi64 (s6 + s37)).toNat 0).tdiv 1000000))))).getD (wi64 (s6 + s37)).toNat 0).tmod 1000000))) s6 s7 s27 s28 s29 s35 s36 (wi64 (s37 + 1))) none) none) none) none) none) none) none) none) none) none) none) none) none) none) none) none) (
    interchangeref1_TimesOf_c3 k s3 s4 s5 s27 s28 (wi64 (s29 + 1))) := by kernel_rfl
theorem interchangeref1_TimesOf_c14_eq (k : Nat) (s4 : Bool × List Int) (s5 : Bool × List Int) (s86 : Int) (s87 : Int) : interchangeref1_TimesOf_c14 (k + 1) s4 s5 s86 s87 =
  cond (decide (s87 < s86)) (
    cond (decide (0 ≤ (wi64 (s87 + 1)))) (
    cond (decide ((wi64 (s87 + 1)) < (s5.2.length : Int))) (
    cond (decide (0 ≤ s87)) (
    cond (decide (s87 < (s5.2.length : Int))) (
    cond (decide (0 ≤ (wi64 (s87 + 1)))) (
    cond (decide ((wi64 (s87 + 1)) < (s5.2.length : Int))) (
    cond (decide (0 ≤ s87)) (
    cond (decide (s87 < ((s5.2.set (wi64 (s87 + 1)).toNat (wi64 ((s5.2.getD (wi64 (s87 + 1)).toNat 0) + (wi64 ((s5.2.getD s87.toNat 0).tdiv 1000000))))).length : Int))) (
    cond (decide (0 ≤ s87)) (
    cond (decide (s87 < ((s5.2.set (wi64 (s87 + 1)).toNat (wi64 ((s5.2.getD (wi64 (s87 + 1)).toNat 0) + (wi64 ((s5.2.getD s87.toNat 0).tdiv 1000000))))).length : Int))) (
    interchangeref1_TimesOf_c14 k s4 (s5.1, ((s5.2.set (wi64 (s87 + 1)).toNat (wi64 ((s5.2.getD (wi64 (s87 + 1)).toNat 0) + (wi64 ((s5.2.getD s87.toNat 0).tdiv 1000000))))).set s87.toNat (((s5.2.set (wi64 (s87 + 1)).toNat (wi64 ((s5.2.getD (wi64 (s87 + 1)).toNat 0) + (wi64 ((s5.2.getD s87.toNat 0).tdiv 1000000))))).getD s87.toNat 0).tmod 1000000))) s86 (wi64 (s87 + 1))) none) none) none) none) none) none) none) none) none) none) (
    (interchangeref1_trimmed k s5).bind fun y0 =>
    some y0) := by kernel_rfl
/-- interchange/interchangeref1.Power -/
noncomputable def interchangeref1_Power (k : Nat) (a : Int) : Option (Bool × List Int) := callA P A k 28 a
noncomputable def interchangeref1_Power_c3 (k : Nat) (s2 : Bool × List Int) (s3 : Bool × List Int) (s5 : Int) (s6 : Int) : Option (Bool × List Int) := cutA P A k 28 (todoAt P A 28 3) [(2, (.box 41 [(.byv .bool), (.own 3 (.int .i64))])), (3, (.box 41 [(.byv .bool), (.byv (.sl (.int .i64)))])), (5, (.byv (.int .i64))), (6, (.byv (.int .i64)))] (s2, s3, s5, s6)
theorem interchangeref1_Power_eq (k : Nat) (a : Int) : interchangeref1_Power (k + 1) a =
  (interchangeref1_Of k 1).bind fun y0 =>
  interchangeref1_Power_c3 k (false, []) y0 a 0 := by kernel_rfl
theorem interchangeref1_Power_c3_eq (k : Nat) (s2 : Bool × List Int) (s3 : Bool × List Int) (s5 : Int) (s6 : Int) : interchangeref1_Power_c3 (k + 1) s2 s3 s5 s6 =
  cond (decide (s6 < s5)) (
    (interchangeref1_Of k 10).bind fun y1 =>
    (interchangeref1_TimesOf k s3 y1).bind fun y2 =>
    interchangeref1_Power_c3 k s2 y2 s5 (wi64 (s6 + 1))) (
    some s3) := by kernel_rfl
/-- interchange/interchangeref1.At -/
noncomputable def interchangeref1_At (k : Nat) (a : Int × Int) (b : Int) : Option (Bool × List Int) := callA P A k 25 (a, b)
theorem interchangeref1_At_eq (k : Nat) (a : Int × Int) (b : Int) : interchangeref1_At (k + 1) a b =
  (interchangeref1_Of k a.1).bind fun y0 =>
  (interchangeref1_Power k (wi64 (b - a.2))).bind fun y1 =>
  (interchangeref1_TimesOf k y0 y1).bind fun y2 =>
  some y2 := by kernel_rfl
/-- interchange/interchangeref1.Minus -/
noncomputable def interchangeref1_Minus (k : Nat) (a : Bool × List Int) : Option (Bool × List Int) := callA P A k 26 a
theorem interchangeref1_Minus_eq (k : Nat) (a : Bool × List Int) : interchangeref1_Minus (k + 1) a =
  cond (decide ((a.2.length : Int) > 0)) (
    some ((!a.1), a.2)) (
    some a) := by kernel_rfl
/-- interchange/interchangeref1.sizes -/
noncomputable def interchangeref1_sizes (k : Nat) (a : List Int) (b : List Int) : Option Int := callA P A k 63 (a, b)
noncomputable def interchangeref1_sizes_c4 (k : Nat) (s0 : List Int) (s1 : List Int) (s5 : Int) : Option Int := cutA P A k 63 (todoAt P A 63 4) [(0, (.byv (.sl (.int .i64)))), (1, (.byv (.sl (.int .i64)))), (5, (.byv (.int .i64)))] (s0, s1, s5)
theorem interchangeref1_sizes_eq (k : Nat) (a : List Int) (b : List Int) : interchangeref1_sizes (k + 1) a b =
  cond ((a.length : Int) != (b.length : Int)) (
    some (wi64 ((a.length : Int) - (b.length : Int)))) (
    interchangeref1_sizes_c4 k a b (wi64 ((a.length : Int) - 1))) := by kernel_rfl
theorem interchangeref1_sizes_c4_eq (k : Nat) (s0 : List Int) (s1 : List Int) (s5 : Int) : interchangeref1_sizes_c4 (k + 1) s0 s1 s5 =
  cond (decide (s5 ≥ 0)) (
    cond (decide (0 ≤ s5)) (
    cond (decide (s5 < (s0.length : Int))) (
    cond (decide (0 ≤ s5)) (
    cond (decide (s5 < (s1.length : Int))) (
    cond ((s0.getD s5.toNat 0) != (s1.getD s5.toNat 0)) (
      cond (decide (0 ≤ s5)) (
      cond (decide (s5 < (s0.length : Int))) (
      cond (decide (0 ≤ s5)) (
      cond (decide (s5 < (s1.length : Int))) (
      some (wi64 ((s0.getD s5.toNat 0) - (s1.getD s5.toNat 0)))) none) none) none) none) (
      interchangeref1_sizes_c4 k s0 s1 (wi64 (s5 - 1)))) none) none) none) none) (
    some 0) := by kernel_rfl
/-- interchange/interchangeref1.digit -/
noncomputable def interchangeref1_digit (k : Nat) (a : List Int) (b : Int) : Option Int := callA P A k 64 (a, b)
theorem interchangeref1_digit_eq (k : Nat) (a : List Int) (b : Int) : interchangeref1_digit (k + 1) a b =
  cond (decide (b < (a.length : Int))) (
    cond (decide (0 ≤ b)) (
    cond (decide (b < (a.length : Int))) (
    some (a.getD b.toNat 0)) none) none) (
    some 0) := by kernel_rfl
/-- interchange/interchangeref1.Plus -/
noncomputable def interchangeref1_Plus (k : Nat) (a : Bool × List Int) (b : Bool × List Int) : Option (Bool × List Int) := callA P A k 24 (a, b)
noncomputable def interchangeref1_Plus_c4 (k : Nat) (s2 : Bool × List Int) (s3 : Bool × List Int) (s4 : Bool × List Int) : Option (Bool × List Int) := cutA P A k 24 (todoAt P A 24 4) [(2, (.box 41 [(.byv .bool), (.byv (.sl (.int .i64)))])), (3, (.box 41 [(.byv .bool), (.byv (.sl (.int .i64)))])), (4, (.box 41 [(.byv .bool), (.own 3 (.int .i64))]))] (s2, s3, s4)
noncomputable def interchangeref1_Plus_c7 (k : Nat) (s2 : Bool × List Int) (s3 : Bool × List Int) (s4 : Bool × List Int) (s5 : Bool × List Int) (s6 : Int) (s31 : Int) (s32 : Int) : Option (Bool × List Int) := cutA P A k 24 (todoAt P A 24 7) [(2, (.box 41 [(.byv .bool), (.byv (.sl (.int .i64)))])), (3, (.box 41 [(.byv .bool), (.byv (.sl (.int .i64)))])), (4, (.box 41 [(.byv .bool), (.own 3 (.int .i64))])), (5, (.box 41 [(.byv .bool), (.own 3 (.int .i64))])), (6, (.byv (.int .i64))), (31, (.byv (.int .i64))), (32, (.byv (.int .i64)))] (s2, s3, s4, s5, s6, s31, s32)
noncomputable def interchangeref1_Plus_c13 (k : Nat) (s2 : Bool × List Int) (s3 : Bool × List Int) (s4 : Bool × List Int) (s5 : Bool × List Int) (s6 : Int) (s8 : Int) (s31 : Int) (s32 : Int) : Option (Bool × List Int) := cutA P A k 24 (todoAt P A 24 13) [(2, (.box 41 [(.byv .bool), (.byv (.sl (.int .i64)))])), (3, (.box 41 [(.byv .bool), (.byv (.sl (.int .i64)))])), (4, (.box 41 [(.byv .bool), (.own 3 (.int .i64))])), (5, (.box 41 [(.byv .bool), (.own 3 (.int .i64))])), (6, (.byv (.int .i64))), (8, (.byv (.int .i64))), (31, (.byv (.int .i64))), (32, (.byv (.int .i64)))] (s2, s3, s4, s5, s6, s8, s31, s32)
noncomputable def interchangeref1_Plus_c19 (k : Nat) (s2 : Bool × List Int) (s3 : Bool × List Int) (s4 : Bool × List Int) (s9 : Bool × List Int) (s10 : Int) (s70 : Int) (s71 : Int) : Option (Bool × List Int) := cutA P A k 24 (todoAt P A 24 19) [(2, (.box 41 [(.byv .bool), (.byv (.sl (.int .i64)))])), (3, (.box 41 [(.byv .bool), (.byv (.sl (.int .i64)))])), (4, (.box 41 [(.byv .bool), (.own 3 (.int .i64))])), (9, (.box 41 [(.byv .bool), (.own 3 (.int .i64))])), (10, (.byv (.int .i64))), (70, (.byv (.int .i64))), (71, (.byv (.int .i64)))] (s2, s3, s4, s9, s10, s70, s71)
theorem interchangeref1_Plus_eq (k : Nat) (a : Bool × List Int) (b : Bool × List Int) : interchangeref1_Plus (k + 1) a b =
  cond (!(a.1 == b.1)) (
    (interchangeref1_sizes k a.2 b.2).bind fun y0 =>
    cond (decide (y0 < 0)) (
      interchangeref1_Plus_c4 k b a (false, [])) (
      interchangeref1_Plus_c4 k a b (false, []))) (
    interchangeref1_Plus_c19 k a b (false, []) (a.1, []) 0 (wi64 ((maxI (a.2.length : Int) (b.2.length : Int)) + 1)) 0) := by kernel_rfl
theorem interchangeref1_Plus_c4_eq (k : Nat) (s2 : Bool × List Int) (s3 : Bool × List Int) (s4 : Bool × List Int) : interchangeref1_Plus_c4 (k + 1) s2 s3 s4 =
  interchangeref1_Plus_c7 k s2 s3 s4 (s2.1, []) 0 (s2.2.length : Int) 0 := by kernel_rfl
theorem interchangeref1_Plus_c7_eq (k : Nat) (s2 : Bool × List Int) (s3 : Bool × List Int) (s4 : Bool × List Int) (s5 : Bool × List Int) (s6 : Int) (s31 : Int) (s32 : Int) : interchangeref1_Plus_c7 (k + 1) s2 s3 s4 s5 s6 s31 s32 =
  cond (decide (s32 < s31)) (
    cond (decide (0 ≤ s32)) (
    cond (decide (s32 < (s2.2.length : Int))) (
    (interchangeref1_digit k s3.2 s32).bind fun y4 =>
    cond (decide ((wi64 ((wi64 ((s2.2.getD s32.toNat 0) - y4)) - s6)) < 0)) (
      interchangeref1_Plus_c13 k s2 s3 s4 s5 1 (wi64 ((wi64 ((wi64 ((s2.2.getD s32.toNat 0) - y4)) - s6)) + 1000000)) s31 s32) (
      interchangeref1_Plus_c13 k s2 s3 s4 s5 0 (wi64 ((wi64 ((s2.2.getD s32.toNat 0) - y4)) - s6)) s31 s32)) none) none) (
    (interchangeref1_trimmed k s5).bind fun y5 =>
    some y5) := by kernel_rfl
theorem interchangeref1_Plus_c13_eq (k : Nat) (s2 : Bool × List Int) (s3 : Bool × List Int) (s4 : Bool × List Int) (s5 : Bool × List Int) (s6 : Int) (s8 : Int) (s31 : Int) (s32 : Int) : interchangeref1_Plus_c13 (k + 1) s2 s3 s4 s5 s6 s8 s31 s32 =
  cond (decide (s5.2.length + 1 < 17592186044416)) (
  interchangeref1_Plus_c7 k s2 s3 s4 (s5.1, (s5.2 ++ [s8])) s6 s31 (wi64 (s32 + 1))) none := by kernel_rfl
theorem interchangeref1_Plus_c19_eq (k : Nat) (s2 : Bool × List Int) (s3 : Bool × List Int) (s4 : Bool × List Int) (s9 : Bool × List Int) (s10 : Int) (s70 : Int) (s71 : Int) : interchangeref1_Plus_c19 (k + 1) s2 s3 s4 s9 s10 s70 s71 =
  cond (decide (s71 < s70)) (
    (interchangeref1_digit k s2.2 s71).bind fun y1 =>
    (interchangeref1_digit k s3.2 s71).bind fun y2 =>
    cond (decide (s9.2.length + 1 < 17592186044416)) (
    interchangeref1_Plus_c19 k s2 s3 s4 (s9.1, (s9.2 ++ [((wi64 ((wi64 (y1 + y2)) + s10)).tmod 1000000)])) (wi64 ((wi64 ((wi64 (y1 + y2)) + s10)).tdiv 1000000)) s70 (wi64 (s71 + 1))) none) (
    (interchangeref1_trimmed k s9).bind fun y3 =>
    some y3) := by kernel_rfl
/-- interchange/interchangeref1.Sign -/
noncomputable def interchangeref1_Sign (k : Nat) (a : Bool × List Int) : Option Int := callA P A k 55 a
theorem interchangeref1_Sign_eq (k : Nat) (a : Bool × List Int) : interchangeref1_Sign (k + 1) a =
  cond ((a.2.length : Int) == 0) (
    some 0) (
    cond a.1 (
      some (-1)) (
      some 1)) := by kernel_rfl
/-- interchange/interchangeref1.Cmp -/
noncomputable def interchangeref1_Cmp (k : Nat) (a : Bool × List Int) (b : Bool × List Int) : Option Int := callA P A k 27 (a, b)
theorem interchangeref1_Cmp_eq (k : Nat) (a : Bool × List Int) (b : Bool × List Int) : interchangeref1_Cmp (k + 1) a b =
  (interchangeref1_Minus k b).bind fun y0 =>
  (interchangeref1_Plus k a y0).bind fun y1 =>
  (interchangeref1_Sign k y1).bind fun y2 =>
  some y2 := by kernel_rfl
/-- interchange/interchangeref1.Compare -/
noncomputable def interchangeref1_Compare (k : Nat) (a : Int × Int) (b : Int × Int) : Option (Int × Int) := callA P A k 17 (a, b)
theorem interchangeref1_Compare_eq (k : Nat) (a : Int × Int) (b : Int × Int) : interchangeref1_Compare (k + 1) a b =
  (interchangeref1_CheckDecimal k a).bind fun y0 =>
  (cond (!(y0 != 0)) (interchangeref1_CheckDecimal k b) (some 0)).bind fun y1 =>
  cond (cond (y0 != 0) true (y1 != 0)) (
    some (0, 1)) (
    (interchangeref1_At k a 9).bind fun y2 =>
    (interchangeref1_At k b 9).bind fun y3 =>
    (interchangeref1_Cmp k y2 y3).bind fun y4 =>
    some (y4, 0)) := by kernel_rfl
/-- interchange/interchangeref1.Small -/
noncomputable def interchangeref1_Small (k : Nat) (a : Bool × List Int) (b : Int) : Option (Int × Bool) := callA P A k 79 (a, b)
noncomputable def interchangeref1_Small_c5 (k : Nat) (s2 : Bool × List Int) (s6 : Int) (s7 : Int) : Option (Int × Bool) := cutA P A k 79 (todoAt P A 79 5) [(2, (.box 41 [(.byv .bool), (.byv (.sl (.int .i64)))])), (6, (.byv (.int .i64))), (7, (.byv (.int .i64)))] (s2, s6, s7)
theorem interchangeref1_Small_eq (k : Nat) (a : Bool × List Int) (b : Int) : interchangeref1_Small (k + 1) a b =
  (interchangeref1_Of k b).bind fun y0 =>
  (interchangeref1_sizes k a.2 y0.2).bind fun y1 =>
  cond (decide (y1 > 0)) (
    some (0, false)) (
    interchangeref1_Small_c5 k a 0 (wi64 ((a.2.length : Int) - 1))) := by kernel_rfl
theorem interchangeref1_Small_c5_eq (k : Nat) (s2 : Bool × List Int) (s6 : Int) (s7 : Int) : interchangeref1_Small_c5 (k + 1) s2 s6 s7 =
  cond (decide (s7 ≥ 0)) (
    cond (decide (0 ≤ s7)) (
    cond (decide (s7 < (s2.2.length : Int))) (
    interchangeref1_Small_c5 k s2 (wi64 ((wi64 (s6 * 1000000)) + (s2.2.getD s7.toNat 0))) (wi64 (s7 - 1))) none) none) (
    cond s2.1 (
      some ((wi64 (0 - s6)), true)) (
      some (s6, true))) := by kernel_rfl
/-- interchange/interchangeref1.decimal -/
noncomputable def interchangeref1_decimal (k : Nat) (a : Bool × List Int) (b : Int) : Option ((Int × Int) × Int) := callA P A k 53 (a, b)
theorem interchangeref1_decimal_eq (k : Nat) (a : Bool × List Int) (b : Int) : interchangeref1_decimal (k + 1) a b =
  (interchangeref1_Small k a 1000000000000000).bind fun y0 =>
  cond (!y0.2) (
    some ((0, 0), 1)) (
    some ((y0.1, b), 0)) := by kernel_rfl
/-- interchange/interchangeref1.Sum -/
noncomputable def interchangeref1_Sum (k : Nat) (a : List (Int × Int)) : Option ((Int × Int) × Int) := callA P A k 20 a
noncomputable def interchangeref1_Sum_c5 (k : Nat) (s0 : List (Int × Int)) (s2 : Int × Int) (s4 : Int) (s14 : List (Int × Int)) (s15 : Int) (s16 : Int) : Option ((Int × Int) × Int) := cutA P A k 20 (todoAt P A 20 5) [(0, (.byv (.sl (.pair (.int .i64) (.int .i64))))), (2, (.box 24 [(.byv (.int .i64)), (.byv (.int .i64))])), (4, (.byv (.int .i64))), (14, (.byv (.sl (.pair (.int .i64) (.int .i64))))), (15, (.byv (.int .i64))), (16, (.byv (.int .i64)))] (s0, s2, s4, s14, s15, s16)
noncomputable def interchangeref1_Sum_c13 (k : Nat) (s2 : Int × Int) (s4 : Int) (s7 : Bool × List Int) (s29 : List (Int × Int)) (s30 : Int) (s31 : Int) : Option ((Int × Int) × Int) := cutA P A k 20 (todoAt P A 20 13) [(2, (.box 24 [(.byv (.int .i64)), (.byv (.int .i64))])), (4, (.byv (.int .i64))), (7, (.box 41 [(.byv .bool), (.byv (.sl (.int .i64)))])), (29, (.byv (.sl (.pair (.int .i64) (.int .i64))))), (30, (.byv (.int .i64))), (31, (.byv (.int .i64)))] (s2, s4, s7, s29, s30, s31)
theorem interchangeref1_Sum_eq (k : Nat) (a : List (Int × Int)) : interchangeref1_Sum (k + 1) a =
  cond (decide ((a.length : Int) > 1000)) (
    some ((0, 0), 2)) (
    interchangeref1_Sum_c5 k a (0, 0) 0 a (a.length : Int) 0) := by kernel_rfl
theorem interchangeref1_Sum_c5_eq (k : Nat) (s0 : List (Int × Int)) (s2 : Int × Int) (s4 : Int) (s14 : List (Int × Int)) (s15 : Int) (s16 : Int) : interchangeref1_Sum_c5 (k + 1) s0 s2 s4 s14 s15 s16 =
  cond (decide (s16 < s15)) (
    cond (decide (0 ≤ s16)) (
    cond (decide (s16 < (s14.length : Int))) (
    (interchangeref1_CheckDecimal k (((s14.getD s16.toNat (0, 0)).1), ((s14.getD s16.toNat (0, 0)).2))).bind fun y0 =>
    cond (y0 != 0) (
      some ((0, 0), 1)) (
      interchangeref1_Sum_c5 k s0 s2 (maxI s4 ((s14.getD s16.toNat (0, 0)).2)) s14 s15 (wi64 (s16 + 1)))) none) none) (
    interchangeref1_Sum_c13 k s2 s4 (false, []) s0 (s0.length : Int) 0) := by kernel_rfl
theorem interchangeref1_Sum_c13_eq (k : Nat) (s2 : Int × Int) (s4 : Int) (s7 : Bool × List Int) (s29 : List (Int × Int)) (s30 : Int) (s31 : Int) : interchangeref1_Sum_c13 (k + 1) s2 s4 s7 s29 s30 s31 =
  cond (decide (s31 < s30)) (
    cond (decide (0 ≤ s31)) (
    cond (decide (s31 < (s29.length : Int))) (
    (interchangeref1_At k (((s29.getD s31.toNat (0, 0)).1), ((s29.getD s31.toNat (0, 0)).2)) s4).bind fun y1 =>
    (interchangeref1_Plus k s7 y1).bind fun y2 =>
    interchangeref1_Sum_c13 k s2 s4 y2 s29 s30 (wi64 (s31 + 1))) none) none) (
    (interchangeref1_decimal k s7 s4).bind fun y3 =>
    some y3) := by kernel_rfl
/-- interchange/interchangeref1.half -/
noncomputable def interchangeref1_half (k : Nat) (a : Bool × List Int) : Option ((Bool × List Int) × Int) := callA P A k 90 a
noncomputable def interchangeref1_half_c4 (k : Nat) (s1 : Bool × List Int) (s2 : Bool × List Int) (s4 : Bool × List Int) (s5 : Int) (s6 : Int) : Option ((Bool × List Int) × Int) := cutA P A k 90 (todoAt P A 90 4) [(1, (.box 41 [(.byv .bool), (.byv (.sl (.int .i64)))])), (2, (.box 41 [(.byv .bool), (.own 3 (.int .i64))])), (4, (.box 41 [(.byv .bool), (.own 3 (.int .i64))])), (5, (.byv (.int .i64))), (6, (.byv (.int .i64)))] (s1, s2, s4, s5, s6)
theorem interchangeref1_half_eq (k : Nat) (a : Bool × List Int) : interchangeref1_half (k + 1) a =
  cond (decide (0 ≤ (a.2.length : Int))) (
  cond (decide ((a.2.length : Int).toNat ≤ 17592186044416)) (
  interchangeref1_half_c4 k a (false, []) (false, (List.replicate (a.2.length : Int).toNat 0)) 0 (wi64 ((a.2.length : Int) - 1))) none) none := by kernel_rfl
theorem interchangeref1_half_c4_eq (k : Nat) (s1 : Bool × List Int) (s2 : Bool × List Int) (s4 : Bool × List Int) (s5 : Int) (s6 : Int) : interchangeref1_half_c4 (k + 1) s1 s2 s4 s5 s6 =
  cond (decide (s6 ≥ 0)) (
    cond (decide (0 ≤ s6)) (
    cond (decide (s6 < (s1.2.length : Int))) (
    cond (decide (0 ≤ s6)) (
    cond (decide (s6 < (s4.2.length : Int))) (
    interchangeref1_half_c4 k s1 s2 (s4.1, (s4.2.set s6.toNat (wi64 ((wi64 ((wi64 (s5 * 1000000)) + (s1.2.getD s6.toNat 0))).tdiv 2)))) ((wi64 ((wi64 (s5 * 1000000)) + (s1.2.getD s6.toNat 0))).tmod 2) (wi64 (s6 - 1))) none) none) none) none) (
    (interchangeref1_trimmed k s4).bind fun y0 =>
    some (y0, s5)) := by kernel_rfl
/-- interchange/interchangeref1.DivMod -/
noncomputable def interchangeref1_DivMod (k : Nat) (a : Bool × List Int) (b : Bool × List Int) : Option ((Bool × List Int) × Bool × List Int) := callA P A k 54 (a, b)
noncomputable def interchangeref1_DivMod_c3 (k : Nat) (s3 : Bool × List Int) (s4 : Bool × List Int) (s5 : Bool × List Int) (s6 : List Int) (s7 : Bool × List Int) : Option ((Bool × List Int) × Bool × List Int) := cutA P A k 54 (todoAt P A 54 3) [(3, (.box 41 [(.byv .bool), (.byv (.sl (.int .i64)))])), (4, (.box 41 [(.byv .bool), (.own 3 (.int .i64))])), (5, (.box 41 [(.byv .bool), (.own 3 (.int .i64))])), (6, (.own 3 (.int .i64))), (7, (.box 41 [(.byv .bool), (.byv (.sl (.int .i64)))]))] (s3, s4, s5, s6, s7)
noncomputable def interchangeref1_DivMod_c7 (k : Nat) (s3 : Bool × List Int) (s4 : Bool × List Int) (s5 : Bool × List Int) (s6 : List Int) (s28 : Bool × List Int) : Option ((Bool × List Int) × Bool × List Int) := cutA P A k 54 (todoAt P A 54 7) [(3, (.box 41 [(.byv .bool), (.byv (.sl (.int .i64)))])), (4, (.box 41 [(.byv .bool), (.own 3 (.int .i64))])), (5, (.box 41 [(.byv .bool), (.own 3 (.int .i64))])), (6, (.own 3 (.int .i64))), (28, (.byv (.pair .bool (.sl (.int .i64)))))] (s3, s4, s5, s6, s28)
noncomputable def interchangeref1_DivMod_c11 (k : Nat) (s3 : Bool × List Int) (s4 : Bool × List Int) (s5 : Bool × List Int) (s6 : List Int) (s10 : Bool × List Int) (s11 : Bool × List Int) (s12 : Bool × List Int) (s13 : Int) : Option ((Bool × List Int) × Bool × List Int) := cutA P A k 54 (todoAt P A 54 11) [(3, (.box 41 [(.byv .bool), (.byv (.sl (.int .i64)))])), (4, (.box 41 [(.byv .bool), (.own 3 (.int .i64))])), (5, (.box 41 [(.byv .bool), (.own 3 (.int .i64))])), (6, (.own 3 (.int .i64))), (10, (.box 41 [(.byv .bool), (.byv (.sl (.int .i64)))])), (11, (.box 41 [(.byv .bool), (.byv (.sl (.int .i64)))])), (12, (.box 41 [(.byv .bool), (.byv (.sl (.int .i64)))])), (13, (.byv (.int .i64)))] (s3, s4, s5, s6, s10, s11, s12, s13)
theorem interchangeref1_DivMod_eq (k : Nat) (a : Bool × List Int) (b : Bool × List Int) : interchangeref1_DivMod (k + 1) a b =
  interchangeref1_DivMod_c3 k b (false, []) (false, []) [] a := by kernel_rfl
theorem interchangeref1_DivMod_c3_eq (k : Nat) (s3 : Bool × List Int) (s4 : Bool × List Int) (s5 : Bool × List Int) (s6 : List Int) (s7 : Bool × List Int) : interchangeref1_DivMod_c3 (k + 1) s3 s4 s5 s6 s7 =
  (interchangeref1_Sign k s7).bind fun y0 =>
  cond (decide (y0 > 0)) (
    (interchangeref1_half k s7).bind fun y1 =>
    cond (decide (s6.length + 1 < 17592186044416)) (
    interchangeref1_DivMod_c7 k s3 s4 s5 (s6 ++ [y1.2]) y1.1) none) (
    (interchangeref1_Of k 2).bind fun y2 =>
    interchangeref1_DivMod_c11 k s3 s4 s5 s6 (false, []) (false, []) y2 (wi64 ((s6.length : Int) - 1))) := by kernel_rfl
theorem interchangeref1_DivMod_c7_eq (k : Nat) (s3 : Bool × List Int) (s4 : Bool × List Int) (s5 : Bool × List Int) (s6 : List Int) (s28 : Bool × List Int) : interchangeref1_DivMod_c7 (k + 1) s3 s4 s5 s6 s28 =
  interchangeref1_DivMod_c3 k s3 s4 s5 s6 s28 := by kernel_rfl
theorem interchangeref1_DivMod_c11_eq (k : Nat) (s3 : Bool × List Int) (s4 : Bool × List Int) (s5 : Bool × List Int) (s6 : List Int) (s10 : Bool × List Int) (s11 : Bool × List Int) (s12 : Bool × List Int) (s13 : Int) : interchangeref1_DivMod_c11 (k + 1) s3 s4 s5 s6 s10 s11 s12 s13 =
  cond (decide (s13 ≥ 0)) (
    (interchangeref1_TimesOf k s10 s12).bind fun y3 =>
    (interchangeref1_TimesOf k s11 s12).bind fun y4 =>
    cond (decide (0 ≤ s13)) (
    cond (decide (s13 < (s6.length : Int))) (
    (interchangeref1_Of k (s6.getD s13.toNat 0)).bind fun y5 =>
    (interchangeref1_Plus k y4 y5).bind fun y6 =>
    (interchangeref1_Cmp k y6 s3).bind fun y7 =>
    cond (decide (y7 ≥ 0)) (
      (interchangeref1_Of k 1).bind fun y8 =>
      (interchangeref1_Plus k y3 y8).bind fun y9 =>
      (interchangeref1_Minus k s3).bind fun y10 =>
      (interchangeref1_Plus k y6 y10).bind fun y11 =>
      interchangeref1_DivMod_c11 k s3 s4 s5 s6 y9 y11 s12 (wi64 (s13 - 1))) (
      interchangeref1_DivMod_c11 k s3 s4 s5 s6 y3 y6 s12 (wi64 (s13 - 1)))) none) none) (
    some (s10, s11)) := by kernel_rfl
/-- interchange/interchangeref1.Times -/
noncomputable def interchangeref1_Times (k : Nat) (a : Int × Int) (b : Int × Int) : Option ((Int × Int) × Int) := callA P A k 21 (a, b)
theorem interchangeref1_Times_eq (k : Nat) (a : Int × Int) (b : Int × Int) : interchangeref1_Times (k + 1) a b =
  (interchangeref1_CheckDecimal k a).bind fun y0 =>
  (cond (!(y0 != 0)) (interchangeref1_CheckDecimal k b) (some 0)).bind fun y1 =>
  cond (cond (y0 != 0) true (y1 != 0)) (
    some ((0, 0), 1)) (
    (interchangeref1_Of k a.1).bind fun y2 =>
    (interchangeref1_Of k b.1).bind fun y3 =>
    (interchangeref1_TimesOf k y2 y3).bind fun y4 =>
    cond (decide ((wi64 (a.2 + b.2)) > 9)) (
      (interchangeref1_Power k (wi64 ((wi64 (a.2 + b.2)) - 9))).bind fun y5 =>
      (interchangeref1_DivMod k (false, y4.2) y5).bind fun y6 =>
      (interchangeref1_Sign k y6.2).bind fun y7 =>
      cond (y7 != 0) (
        some ((0, 0), 1)) (
        cond y4.1 (
          (interchangeref1_Minus k y6.1).bind fun y8 =>
          (interchangeref1_decimal k y8 9).bind fun y9 =>
          some y9) (
          (interchangeref1_decimal k y6.1 9).bind fun y10 =>
          some y10))) (
      (interchangeref1_decimal k y4 (wi64 (a.2 + b.2))).bind fun y11 =>
      some y11)) := by kernel_rfl
/-- (interchange/whole.Int).By -/
noncomputable def whole_Int_By (k : Nat) (a : Bool × List Int) (b : Bool × List Int) : Option ((Bool × List Int) × Bool × List Int) := callA P A k 57 (a, b)
noncomputable def whole_Int_By_c4 (k : Nat) (s2 : Bool × List Int) (s3 : Bool × List Int) (s4 : Bool × List Int) (s5 : Bool × List Int) (s6 : List Int) (s7 : List Int) (s8 : Int) : Option ((Bool × List Int) × Bool × List Int) := cutA P A k 57 (todoAt P A 57 4) [(2, (.box 62 [(.byv .bool), (.byv (.sl (.int .u32)))])), (3, (.box 62 [(.byv .bool), (.byv (.sl (.int .u32)))])), (4, (.box 62 [(.byv .bool), (.own 97 (.int .u32))])), (5, (.box 62 [(.byv .bool), (.own 97 (.int .u32))])), (6, (.own 97 (.int .u32))), (7, (.byv (.sl (.int .u32)))), (8, (.byv (.int .i64)))] (s2, s3, s4, s5, s6, s7, s8)
theorem whole_Int_By_eq (k : Nat) (a : Bool × List Int) (b : Bool × List Int) : whole_Int_By (k + 1) a b =
  cond (decide (0 ≤ (a.2.length : Int))) (
  cond (decide ((a.2.length : Int).toNat ≤ 35184372088832)) (
  whole_Int_By_c4 k a b (false, []) (false, []) (List.replicate (a.2.length : Int).toNat 0) [] (wi64 ((wi64 ((a.2.length : Int) * 32)) - 1))) none) none := by kernel_rfl
theorem whole_Int_By_c4_eq (k : Nat) (s2 : Bool × List Int) (s3 : Bool × List Int) (s4 : Bool × List Int) (s5 : Bool × List Int) (s6 : List Int) (s7 : List Int) (s8 : Int) : whole_Int_By_c4 (k + 1) s2 s3 s4 s5 s6 s7 s8 =
  cond (decide (s8 ≥ 0)) (
    (whole_sum k s7 s7).bind fun y0 =>
    cond (decide (0 < (y0.length : Int))) (
    cond (decide (0 ≤ (wi64 (s8.tdiv 32)))) (
    cond (decide ((wi64 (s8.tdiv 32)) < (s2.2.length : Int))) (
    cond (decide (0 ≤ (s8.tmod 32))) (
    cond (decide (0 < (y0.length : Int))) (
    (whole_trimmed k (y0.set 0 (bitsI .or .u32 (y0.getD 0 0) (bitsI .and .u32 (shrI .u32 (s2.2.getD (wi64 (s8.tdiv 32)).toNat 0) (s8.tmod 32)) 1)))).bind fun y1 =>
    (whole_compare k y1 s3.2).bind fun y2 =>
    cond (decide (y2 ≥ 0)) (
      (whole_less k y1 s3.2).bind fun y3 =>
      cond (decide (0 ≤ (wi64 (s8.tdiv 32)))) (
      cond (decide ((wi64 (s8.tdiv 32)) < (s6.length : Int))) (
      cond (decide (0 ≤ (s8.tmod 32))) (
      cond (decide (0 ≤ (wi64 (s8.tdiv 32)))) (
      cond (decide ((wi64 (s8.tdiv 32)) < (s6.length : Int))) (
      whole_Int_By_c4 k s2 s3 s4 s5 (s6.set (wi64 (s8.tdiv 32)).toNat (bitsI .or .u32 (s6.getD (wi64 (s8.tdiv 32)).toNat 0) (shlI .u32 1 (s8.tmod 32)))) y3 (wi64 (s8 - 1))) none) none) none) none) none) (
      whole_Int_By_c4 k s2 s3 s4 s5 s6 y1 (wi64 (s8 - 1)))) none) none) none) none) none) (
    (whole_made k false s6).bind fun y4 =>
    (whole_made k false s7).bind fun y5 =>
    some (y4, y5)) := by kernel_rfl
/-- interchange/amount.Times -/
noncomputable def amount_Times (k : Nat) (a : Int × Int) (b : Int × Int) : Option ((Int × Int) × Int) := callA P A k 22 (a, b)
theorem amount_Times_eq (k : Nat) (a : Int × Int) (b : Int × Int) : amount_Times (k + 1) a b =
  (amount_CheckDecimals k [a, b]).bind fun y0 =>
  cond (y0 != 0) (
    some ((0, 0), y0)) (
    (whole_Of k a.1).bind fun y1 =>
    (whole_Of k b.1).bind fun y2 =>
    (whole_Int_Times k y1 y2).bind fun y3 =>
    cond (decide ((wi64 (a.2 + b.2)) > 9)) (
      (whole_Power k (wi64 ((wi64 (a.2 + b.2)) - 9))).bind fun y4 =>
      (whole_Int_By k y3 y4).bind fun y5 =>
      (whole_Int_Sign k y5.2).bind fun y6 =>
      cond (y6 != 0) (
        some ((0, 0), 1)) (
        (whole_Int_Sign k y3).bind fun y7 =>
        cond (decide (y7 < 0)) (
          (whole_Int_Minus k y5.1).bind fun y8 =>
          (amount_Made k y8 9).bind fun y9 =>
          some y9) (
          (amount_Made k y5.1 9).bind fun y10 =>
          some y10))) (
      (amount_Made k y3 (wi64 (a.2 + b.2))).bind fun y11 =>
      some y11)) := by kernel_rfl
/-- interchange/interchangelaw1.AmountSumsMatchSpec -/
noncomputable def interchangelaw1_AmountSumsMatchSpec (k : Nat) (a : Int × Int) (b : Int × Int) (c : List (Int × Int)) : Option Bool := callA P A k 4 (a, b, c)
theorem interchangelaw1_AmountSumsMatchSpec_eq (k : Nat) (a : Int × Int) (b : Int × Int) (c : List (Int × Int)) : interchangelaw1_AmountSumsMatchSpec (k + 1) a b c =
  (interchangeref1_Compare k a b).bind fun y0 =>
  (amount_Compare k a b).bind fun y1 =>
  (interchangeref1_CheckDecimal k a).bind fun y2 =>
  (amount_CheckDecimal k a).bind fun y3 =>
  cond (cond (cond (y2 != y3) true (y1.2 != y0.2)) true (y1.1 != y0.1)) (
    some false) (
    (interchangeref1_Sum k c).bind fun y4 =>
    (amount_Sum k c).bind fun y5 =>
    cond (cond (y5.2 != y4.2) true (!((y5.1.1 == y4.1.1) && ((y5.1.2 == y4.1.2) && true)))) (
      some false) (
      (interchangeref1_Times k a b).bind fun y6 =>
      (amount_Times k a b).bind fun y7 =>
      (cond (cond (y7.2 == y6.2) ((y7.1.1 == y6.1.1) && ((y7.1.2 == y6.1.2) && true)) false) (interchangelaw1_awake k) (some false)).bind fun y8 =>
      some (cond (cond (y7.2 == y6.2) ((y7.1.1 == y6.1.1) && ((y7.1.2 == y6.1.2) && true)) false) y8 false))) := by kernel_rfl
/-- interchange/amount.IsWay -/
noncomputable def amount_IsWay (k : Nat) (a : Int) : Option Bool := callA P A k 92 a
theorem amount_IsWay_eq (k : Nat) (a : Int) : amount_IsWay (k + 1) a =
  (kit_Outside k a 1 6).bind fun y0 =>
  some (!y0) := by kernel_rfl
/-- interchange/amount.wayFault -/
noncomputable def amount_wayFault (k : Nat) (a : Int) (b : Int) : Option Int := callA P A k 61 (a, b)
theorem amount_wayFault_eq (k : Nat) (a : Int) (b : Int) : amount_wayFault (k + 1) a b =
  (kit_Outside k a 0 9).bind fun y0 =>
  cond y0 (
    some 1) (
    (amount_IsWay k b).bind fun y1 =>
    cond (!y1) (
      some 4) (
      some 0)) := by kernel_rfl
/-- (interchange/whole.Int).Odd -/
noncomputable def whole_Int_Odd (k : Nat) (a : Bool × List Int) : Option Bool := callA P A k 93 a
theorem whole_Int_Odd_eq (k : Nat) (a : Bool × List Int) : whole_Int_Odd (k + 1) a =
  cond ((!(decide ((a.2.length : Int) > 0))) || true) (
  cond ((!(decide ((a.2.length : Int) > 0))) || (decide (0 < (a.2.length : Int)))) (
  some (cond (decide ((a.2.length : Int) > 0)) ((bitsI .and .u32 (a.2.getD 0 0) 1) == 1) false)) none) none := by kernel_rfl
/-- interchange/amount.Divided -/
noncomputable def amount_Divided (k : Nat) (a : Bool × List Int) (b : Bool × List Int) (c : Int) : Option (Bool × List Int) := callA P A k 62 (a, b, c)
theorem amount_Divided_eq (k : Nat) (a : Bool × List Int) (b : Bool × List Int) (c : Int) : amount_Divided (k + 1) a b c =
  (whole_Int_By k a b).bind fun y0 =>
  (whole_Int_Sign k y0.2).bind fun y1 =>
  cond (y1 != 0) (
    (whole_Int_Plus k y0.2 y0.2).bind fun y2 =>
    (whole_Int_Compare k y2 b).bind fun y3 =>
    (whole_Int_Sign k a).bind fun y4 =>
    (cond ((((!(cond (cond (cond (c == 4) true (cond (c == 5) (decide (y4 < 0)) false)) true (cond (c == 6) (!(decide (y4 < 0))) false)) true (cond (c == 1) (decide (y3 ≥ 0)) false))) && (c == 2)) && (!(decide (y3 > 0)))) && (y3 == 0)) (whole_Int_Odd k y0.1) (some false)).bind fun y5 =>
    cond (cond (cond (cond (cond (c == 4) true (cond (c == 5) (decide (y4 < 0)) false)) true (cond (c == 6) (!(decide (y4 < 0))) false)) true (cond (c == 1) (decide (y3 ≥ 0)) false)) true (cond (c == 2) (cond (decide (y3 > 0)) true (cond (y3 == 0) y5 false)) false)) (
      (whole_Of k 1).bind fun y6 =>
      (whole_Int_Plus k y0.1 y6).bind fun y7 =>
      (whole_Int_Sign k a).bind fun y8 =>
      cond (decide (y8 < 0)) (
        (whole_Int_Minus k y7).bind fun y9 =>
        some y9) (
        some y7)) (
      (whole_Int_Sign k a).bind fun y10 =>
      cond (decide (y10 < 0)) (
        (whole_Int_Minus k y0.1).bind fun y11 =>
        some y11) (
        some y0.1))) (
    (whole_Int_Sign k a).bind fun y12 =>
    cond (decide (y12 < 0)) (
      (whole_Int_Minus k y0.1).bind fun y13 =>
      some y13) (
      some y0.1)) := by kernel_rfl
/-- interchange/amount.Rounded -/
noncomputable def amount_Rounded (k : Nat) (a : Int × Int) (b : Int) (c : Int) : Option ((Int × Int) × Int) := callA P A k 23 (a, b, c)
theorem amount_Rounded_eq (k : Nat) (a : Int × Int) (b : Int) (c : Int) : amount_Rounded (k + 1) a b c =
  (amount_CheckDecimal k a).bind fun y0 =>
  cond (y0 != 0) (
    some ((0, 0), y0)) (
    (amount_wayFault k b c).bind fun y1 =>
    cond (y1 != 0) (
      some ((0, 0), y1)) (
      (amount_Value k a).bind fun y2 =>
      (whole_Power k (wi64 (9 - b))).bind fun y3 =>
      (amount_Divided k y2 y3 c).bind fun y4 =>
      (amount_Made k y4 b).bind fun y5 =>
      some y5)) := by kernel_rfl
/-- interchange/interchangelaw1.AmountRoundsAreNear -/
noncomputable def interchangelaw1_AmountRoundsAreNear (k : Nat) (a : Int × Int) (b : Int) (c : Int) : Option Bool := callA P A k 5 (a, b, c)
theorem interchangelaw1_AmountRoundsAreNear_eq (k : Nat) (a : Int × Int) (b : Int) (c : Int) : interchangelaw1_AmountRoundsAreNear (k + 1) a b c =
  (amount_Rounded k a b c).bind fun y0 =>
  cond (y0.2 != 0) (
    (cond (y0.1.1 == 0) (interchangelaw1_awake k) (some false)).bind fun y1 =>
    some (cond (y0.1.1 == 0) y1 false)) (
    (amount_Rounded k y0.1 b c).bind fun y2 =>
    (cond (!(cond (y2.2 != 0) true (!((y2.1.1 == y0.1.1) && ((y2.1.2 == y0.1.2) && true))))) (interchangelaw1_awake k) (some false)).bind fun y3 =>
    cond (cond (cond (y2.2 != 0) true (!((y2.1.1 == y0.1.1) && ((y2.1.2 == y0.1.2) && true)))) true (!y3)) (
      some false) (
      (amount_Compare k y0.1 a).bind fun y4 =>
      cond (cond (cond (y4.2 != 0) true (cond (c == 5) (decide (y4.1 > 0)) false)) true (cond (c == 6) (decide (y4.1 < 0)) false)) (
        some false) (
        cond (cond (cond (c == 3) (cond (cond (decide (a.1 > 0)) (decide (y4.1 > 0)) false) true (cond (decide (a.1 < 0)) (decide (y4.1 < 0)) false)) false) true (cond (c == 4) (cond (cond (decide (a.1 > 0)) (decide (y4.1 < 0)) false) true (cond (decide (a.1 < 0)) (decide (y4.1 > 0)) false)) false)) (
          some false) (
          (interchangeref1_At k y0.1 9).bind fun y5 =>
          (interchangeref1_At k a 9).bind fun y6 =>
          (interchangeref1_Minus k y6).bind fun y7 =>
          (interchangeref1_Plus k y5 y7).bind fun y8 =>
          (interchangeref1_Power k (wi64 (9 - b))).bind fun y9 =>
          (interchangeref1_Cmp k (false, y8.2) y9).bind fun y10 =>
          some (decide (y10 < 0)))))) := by kernel_rfl
/-- interchange/interchangeref1.isWay -/
noncomputable def interchangeref1_isWay (k : Nat) (a : Int) : Option Bool := callA P A k 66 a
theorem interchangeref1_isWay_eq (k : Nat) (a : Int) : interchangeref1_isWay (k + 1) a =
  (interchangeref1_within k a 1 6).bind fun y0 =>
  some y0 := by kernel_rfl
/-- interchange/interchangeref1.Round -/
noncomputable def interchangeref1_Round (k : Nat) (a : Bool × List Int) (b : Bool × List Int) (c : Int) : Option (Bool × List Int) := callA P A k 67 (a, b, c)
theorem interchangeref1_Round_eq (k : Nat) (a : Bool × List Int) (b : Bool × List Int) (c : Int) : interchangeref1_Round (k + 1) a b c =
  (interchangeref1_DivMod k (false, a.2) b).bind fun y0 =>
  (interchangeref1_Of k 2).bind fun y1 =>
  (interchangeref1_TimesOf k y0.2 y1).bind fun y2 =>
  (interchangeref1_Cmp k y2 b).bind fun y3 =>
  cond (c == 1) (
    cond (decide (y3 ≥ 0)) (
      (interchangeref1_Of k 1).bind fun y4 =>
      (interchangeref1_Plus k y0.1 y4).bind fun y5 =>
      cond a.1 (
        (interchangeref1_Minus k y5).bind fun y6 =>
        some y6) (
        some y5)) (
      cond a.1 (
        (interchangeref1_Minus k y0.1).bind fun y7 =>
        some y7) (
        some y0.1))) (
    cond (c == 2) (
      (cond ((!(decide (y3 > 0))) && (y3 == 0)) (interchangeref1_digit k y0.1.2 0) (some 0)).bind fun y8 =>
      cond ((!((!(decide (y3 > 0))) && (y3 == 0))) || true) (
      cond (cond (decide (y3 > 0)) true (cond (y3 == 0) ((y8.tmod 2) == 1) false)) (
        (interchangeref1_Of k 1).bind fun y9 =>
        (interchangeref1_Plus k y0.1 y9).bind fun y10 =>
        cond a.1 (
          (interchangeref1_Minus k y10).bind fun y11 =>
          some y11) (
          some y10)) (
        cond a.1 (
          (interchangeref1_Minus k y0.1).bind fun y12 =>
          some y12) (
          some y0.1))) none) (
      cond (c == 4) (
        (interchangeref1_Sign k y0.2).bind fun y13 =>
        cond (decide (y13 > 0)) (
          (interchangeref1_Of k 1).bind fun y14 =>
          (interchangeref1_Plus k y0.1 y14).bind fun y15 =>
          cond a.1 (
            (interchangeref1_Minus k y15).bind fun y16 =>
            some y16) (
            some y15)) (
          cond a.1 (
            (interchangeref1_Minus k y0.1).bind fun y17 =>
            some y17) (
            some y0.1))) (
        cond (c == 5) (
          (cond a.1 (interchangeref1_Sign k y0.2) (some 0)).bind fun y18 =>
          cond (cond a.1 (decide (y18 > 0)) false) (
            (interchangeref1_Of k 1).bind fun y19 =>
            (interchangeref1_Plus k y0.1 y19).bind fun y20 =>
            cond a.1 (
              (interchangeref1_Minus k y20).bind fun y21 =>
              some y21) (
              some y20)) (
            cond a.1 (
              (interchangeref1_Minus k y0.1).bind fun y22 =>
              some y22) (
              some y0.1))) (
          cond (c == 6) (
            (cond (!a.1) (interchangeref1_Sign k y0.2) (some 0)).bind fun y23 =>
            cond (cond (!a.1) (decide (y23 > 0)) false) (
              (interchangeref1_Of k 1).bind fun y24 =>
              (interchangeref1_Plus k y0.1 y24).bind fun y25 =>
              cond a.1 (
                (interchangeref1_Minus k y25).bind fun y26 =>
                some y26) (
                some y25)) (
              cond a.1 (
                (interchangeref1_Minus k y0.1).bind fun y27 =>
                some y27) (
                some y0.1))) (
            cond a.1 (
              (interchangeref1_Minus k y0.1).bind fun y28 =>
              some y28) (
              some y0.1)))))) := by kernel_rfl
/-- interchange/interchangeref1.Quotient -/
noncomputable def interchangeref1_Quotient (k : Nat) (a : Int × Int) (b : Int × Int) (c : Int) (d : Int) : Option ((Int × Int) × Int) := callA P A k 30 (a, b, c, d)
theorem interchangeref1_Quotient_eq (k : Nat) (a : Int × Int) (b : Int × Int) (c : Int) (d : Int) : interchangeref1_Quotient (k + 1) a b c d =
  (interchangeref1_CheckDecimal k a).bind fun y0 =>
  (cond (!(y0 != 0)) (interchangeref1_CheckDecimal k b) (some 0)).bind fun y1 =>
  (cond (!(cond (y0 != 0) true (y1 != 0))) (interchangeref1_within k c 0 9) (some false)).bind fun y2 =>
  cond (cond (cond (y0 != 0) true (y1 != 0)) true (!y2)) (
    some ((0, 0), 1)) (
    (interchangeref1_isWay k d).bind fun y3 =>
    cond (!y3) (
      some ((0, 0), 4)) (
      cond (b.1 == 0) (
        some ((0, 0), 13)) (
        (interchangeref1_At k a 9).bind fun y4 =>
        (interchangeref1_Power k c).bind fun y5 =>
        (interchangeref1_TimesOf k y4 y5).bind fun y6 =>
        (interchangeref1_At k b 9).bind fun y7 =>
        cond y7.1 (
          (interchangeref1_Minus k y6).bind fun y8 =>
          (interchangeref1_Minus k y7).bind fun y9 =>
          (interchangeref1_Round k y8 y9 d).bind fun y10 =>
          (interchangeref1_decimal k y10 c).bind fun y11 =>
          some y11) (
          (interchangeref1_Round k y6 y7 d).bind fun y12 =>
          (interchangeref1_decimal k y12 c).bind fun y13 =>
          some y13)))) := by kernel_rfl
/-- interchange/interchangeref1.Rounded -/
noncomputable def interchangeref1_Rounded (k : Nat) (a : Int × Int) (b : Int) (c : Int) : Option ((Int × Int) × Int) := callA P A k 29 (a, b, c)
theorem interchangeref1_Rounded_eq (k : Nat) (a : Int × Int) (b : Int) (c : Int) : interchangeref1_Rounded (k + 1) a b c =
  (interchangeref1_Quotient k a (1, 0) b c).bind fun y0 =>
  some y0 := by kernel_rfl
/-- (interchange/whole.Int).Abs -/
noncomputable def whole_Int_Abs (k : Nat) (a : Bool × List Int) : Option (Bool × List Int) := callA P A k 68 a
theorem whole_Int_Abs_eq (k : Nat) (a : Bool × List Int) : whole_Int_Abs (k + 1) a =
  (whole_made k false a.2).bind fun y0 =>
  some y0 := by kernel_rfl
/-- interchange/amount.Quotient -/
noncomputable def amount_Quotient (k : Nat) (a : Int × Int) (b : Int × Int) (c : Int) (d : Int) : Option ((Int × Int) × Int) := callA P A k 31 (a, b, c, d)
theorem amount_Quotient_eq (k : Nat) (a : Int × Int) (b : Int × Int) (c : Int) (d : Int) : amount_Quotient (k + 1) a b c d =
  (amount_CheckDecimals k [a, b]).bind fun y0 =>
  cond (y0 != 0) (
    some ((0, 0), y0)) (
    (amount_wayFault k c d).bind fun y1 =>
    cond (y1 != 0) (
      some ((0, 0), y1)) (
      cond (b.1 == 0) (
        some ((0, 0), 13)) (
        (amount_Value k a).bind fun y2 =>
        (whole_Power k c).bind fun y3 =>
        (whole_Int_Times k y2 y3).bind fun y4 =>
        cond (decide (b.1 < 0)) (
          (whole_Int_Minus k y4).bind fun y5 =>
          (amount_Value k b).bind fun y6 =>
          (whole_Int_Abs k y6).bind fun y7 =>
          (amount_Divided k y5 y7 d).bind fun y8 =>
          (amount_Made k y8 c).bind fun y9 =>
          some y9) (
          (amount_Value k b).bind fun y10 =>
          (whole_Int_Abs k y10).bind fun y11 =>
          (amount_Divided k y4 y11 d).bind fun y12 =>
          (amount_Made k y12 c).bind fun y13 =>
          some y13)))) := by kernel_rfl
/-- interchange/interchangelaw1.AmountRoundsMatchSpec -/
noncomputable def interchangelaw1_AmountRoundsMatchSpec (k : Nat) (a : Int × Int) (b : Int × Int) (c : Int) (d : Int) : Option Bool := callA P A k 6 (a, b, c, d)
theorem interchangelaw1_AmountRoundsMatchSpec_eq (k : Nat) (a : Int × Int) (b : Int × Int) (c : Int) (d : Int) : interchangelaw1_AmountRoundsMatchSpec (k + 1) a b c d =
  (interchangeref1_Rounded k a c d).bind fun y0 =>
  (amount_Rounded k a c d).bind fun y1 =>
  cond (cond (y1.2 != y0.2) true (!((y1.1.1 == y0.1.1) && ((y1.1.2 == y0.1.2) && true)))) (
    some false) (
    (interchangeref1_Quotient k a b c d).bind fun y2 =>
    (amount_Quotient k a b c d).bind fun y3 =>
    (cond (cond (y3.2 == y2.2) ((y3.1.1 == y2.1.1) && ((y3.1.2 == y2.1.2) && true)) false) (interchangelaw1_awake k) (some false)).bind fun y4 =>
    some (cond (cond (y3.2 == y2.2) ((y3.1.1 == y2.1.1) && ((y3.1.2 == y2.1.2) && true)) false) y4 false)) := by kernel_rfl
/-- interchange/interchangeref1.isDay -/
noncomputable def interchangeref1_isDay (k : Nat) (a : Int) : Option Bool := callA P A k 69 a
theorem interchangeref1_isDay_eq (k : Nat) (a : Int) : interchangeref1_isDay (k + 1) a =
  (interchangeref1_within k a 1 3652059).bind fun y0 =>
  some y0 := by kernel_rfl
/-- interchange/interchangeref1.CheckCalendar -/
noncomputable def interchangeref1_CheckCalendar (k : Nat) (a : Int × List Int) : Option Int := callA P A k 34 a
noncomputable def interchangeref1_CheckCalendar_c6 (k : Nat) (s1 : Int × List Int) (s14 : List Int) (s15 : Int) (s16 : Int) : Option Int := cutA P A k 34 (todoAt P A 34 6) [(1, (.box 51 [(.byv (.int .i64)), (.byv (.sl (.int .i64)))])), (14, (.byv (.sl (.int .i64)))), (15, (.byv (.int .i64))), (16, (.byv (.int .i64)))] (s1, s14, s15, s16)
theorem interchangeref1_CheckCalendar_eq (k : Nat) (a : Int × List Int) : interchangeref1_CheckCalendar (k + 1) a =
  (interchangeref1_within k a.1 0 126).bind fun y0 =>
  cond (!y0) (
    some 1) (
    cond (decide ((a.2.length : Int) > 1000)) (
      some 2) (
      interchangeref1_CheckCalendar_c6 k a a.2 (a.2.length : Int) 0)) := by kernel_rfl
theorem interchangeref1_CheckCalendar_c6_eq (k : Nat) (s1 : Int × List Int) (s14 : List Int) (s15 : Int) (s16 : Int) : interchangeref1_CheckCalendar_c6 (k + 1) s1 s14 s15 s16 =
  cond (decide (s16 < s15)) (
    cond (decide (0 ≤ s16)) (
    cond (decide (s16 < (s14.length : Int))) (
    (interchangeref1_isDay k (s14.getD s16.toNat 0)).bind fun y1 =>
    cond (!y1) (
      some 1) (
      cond ((!(decide (s16 > 0))) || (decide (0 ≤ (wi64 (s16 - 1))))) (
      cond ((!(decide (s16 > 0))) || (decide ((wi64 (s16 - 1)) < (s1.2.length : Int)))) (
      cond (cond (decide (s16 > 0)) (decide ((s14.getD s16.toNat 0) ≤ (s1.2.getD (wi64 (s16 - 1)).toNat 0))) false) (
        some 8) (
        interchangeref1_CheckCalendar_c6 k s1 s14 s15 (wi64 (s16 + 1)))) none) none)) none) none) (
    some 0) := by kernel_rfl
/-- interchange/interchangeref1.isWork -/
noncomputable def interchangeref1_isWork (k : Nat) (a : Int × List Int) (b : Int) : Option Bool := callA P A k 70 (a, b)
noncomputable def interchangeref1_isWork_c4 (k : Nat) (s1 : Int) (s16 : List Int) (s17 : Int) (s18 : Int) : Option Bool := cutA P A k 70 (todoAt P A 70 4) [(1, (.byv (.int .i64))), (16, (.byv (.sl (.int .i64)))), (17, (.byv (.int .i64))), (18, (.byv (.int .i64)))] (s1, s16, s17, s18)
theorem interchangeref1_isWork_eq (k : Nat) (a : Int × List Int) (b : Int) : interchangeref1_isWork (k + 1) a b =
  cond (decide (0 ≤ ((wi64 (b - 1)).tmod 7))) (
  cond (((shrI .i64 a.1 ((wi64 (b - 1)).tmod 7)).tmod 2) == 1) (
    some false) (
    interchangeref1_isWork_c4 k b a.2 (a.2.length : Int) 0)) none := by kernel_rfl
theorem interchangeref1_isWork_c4_eq (k : Nat) (s1 : Int) (s16 : List Int) (s17 : Int) (s18 : Int) : interchangeref1_isWork_c4 (k + 1) s1 s16 s17 s18 =
  cond (decide (s18 < s17)) (
    cond (decide (0 ≤ s18)) (
    cond (decide (s18 < (s16.length : Int))) (
    cond ((s16.getD s18.toNat 0) == s1) (
      some false) (
      interchangeref1_isWork_c4 k s1 s16 s17 (wi64 (s18 + 1)))) none) none) (
    some true) := by kernel_rfl
/-- interchange/interchangeref1.WorkDay -/
noncomputable def interchangeref1_WorkDay (k : Nat) (a : Int × List Int) (b : Int) (c : Int) : Option (Int × Int) := callA P A k 32 (a, b, c)
noncomputable def interchangeref1_WorkDay_c11 (k : Nat) (s1 : Int) (s2 : Int) (s3 : Int × List Int) (s9 : Int) : Option (Int × Int) := cutA P A k 32 (todoAt P A 32 11) [(1, (.byv (.int .i64))), (2, (.byv (.int .i64))), (3, (.box 51 [(.byv (.int .i64)), (.byv (.sl (.int .i64)))])), (9, (.byv (.int .i64)))] (s1, s2, s3, s9)
theorem interchangeref1_WorkDay_eq (k : Nat) (a : Int × List Int) (b : Int) (c : Int) : interchangeref1_WorkDay (k + 1) a b c =
  (interchangeref1_CheckCalendar k a).bind fun y0 =>
  cond (y0 != 0) (
    some (0, y0)) (
    (interchangeref1_isDay k b).bind fun y1 =>
    (cond (!(!y1)) (interchangeref1_within k c (-10000) 10000) (some false)).bind fun y2 =>
    cond (cond (!y1) true (!y2)) (
      some (0, 1)) (
      cond (decide (c < 0)) (
        cond ((wi64 (0 - c)) == 0) (
          interchangeref1_WorkDay_c11 k (wi64 (b - 1)) 1 a (-1)) (
          interchangeref1_WorkDay_c11 k b (wi64 (0 - c)) a (-1))) (
        cond (c == 0) (
          interchangeref1_WorkDay_c11 k (wi64 (b - 1)) 1 a 1) (
          interchangeref1_WorkDay_c11 k b c a 1)))) := by kernel_rfl
theorem interchangeref1_WorkDay_c11_eq (k : Nat) (s1 : Int) (s2 : Int) (s3 : Int × List Int) (s9 : Int) : interchangeref1_WorkDay_c11 (k + 1) s1 s2 s3 s9 =
  cond (decide (s2 > 0)) (
    (interchangeref1_isDay k (wi64 (s1 + s9))).bind fun y3 =>
    cond (!y3) (
      some (0, 9)) (
      (interchangeref1_isWork k s3 (wi64 (s1 + s9))).bind fun y4 =>
      cond y4 (
        interchangeref1_WorkDay_c11 k (wi64 (s1 + s9)) (wi64 (s2 - 1)) s3 s9) (
        interchangeref1_WorkDay_c11 k (wi64 (s1 + s9)) s2 s3 s9))) (
    some (s1, 0)) := by kernel_rfl
/-- interchange/kit.IsDay -/
noncomputable def kit_IsDay (k : Nat) (a : Int) : Option Bool := callA P A k 71 a
theorem kit_IsDay_eq (k : Nat) (a : Int) : kit_IsDay (k + 1) a =
  (kit_Outside k a 1 3652059).bind fun y0 =>
  some (!y0) := by kernel_rfl
/-- interchange/amount.CheckCalendar -/
noncomputable def amount_CheckCalendar (k : Nat) (a : Int × List Int) : Option Int := callA P A k 35 a
noncomputable def amount_CheckCalendar_c6 (k : Nat) (s1 : Int × List Int) (s13 : List Int) (s14 : Int) (s15 : Int) : Option Int := cutA P A k 35 (todoAt P A 35 6) [(1, (.box 51 [(.byv (.int .i64)), (.byv (.sl (.int .i64)))])), (13, (.byv (.sl (.int .i64)))), (14, (.byv (.int .i64))), (15, (.byv (.int .i64)))] (s1, s13, s14, s15)
theorem amount_CheckCalendar_eq (k : Nat) (a : Int × List Int) : amount_CheckCalendar (k + 1) a =
  (kit_Outside k a.1 0 126).bind fun y0 =>
  cond y0 (
    some 1) (
    cond (decide ((a.2.length : Int) > 1000)) (
      some 2) (
      amount_CheckCalendar_c6 k a a.2 (a.2.length : Int) 0)) := by kernel_rfl
theorem amount_CheckCalendar_c6_eq (k : Nat) (s1 : Int × List Int) (s13 : List Int) (s14 : Int) (s15 : Int) : amount_CheckCalendar_c6 (k + 1) s1 s13 s14 s15 =
  cond (decide (s15 < s14)) (
    cond (decide (0 ≤ s15)) (
    cond (decide (s15 < (s13.length : Int))) (
    (kit_IsDay k (s13.getD s15.toNat 0)).bind fun y1 =>
    cond (!y1) (
      some 1) (
      cond ((!(decide (s15 > 0))) || (decide (0 ≤ (wi64 (s15 - 1))))) (
      cond ((!(decide (s15 > 0))) || (decide ((wi64 (s15 - 1)) < (s1.2.length : Int)))) (
      cond (cond (decide (s15 > 0)) (decide ((s13.getD s15.toNat 0) ≤ (s1.2.getD (wi64 (s15 - 1)).toNat 0))) false) (
        some 8) (
        amount_CheckCalendar_c6 k s1 s13 s14 (wi64 (s15 + 1)))) none) none)) none) none) (
    some 0) := by kernel_rfl
/-- cmp.isNaN[int] -/
noncomputable def cmp_isNaN (k : Nat) (a : Int) : Option Bool := callA P A k 106 a
theorem cmp_isNaN_eq (k : Nat) (a : Int) : cmp_isNaN (k + 1) a =
  some (a != a) := by kernel_rfl
/-- cmp.Less[int] -/
noncomputable def cmp_Less (k : Nat) (a : Int) (b : Int) : Option Bool := callA P A k 100 (a, b)
theorem cmp_Less_eq (k : Nat) (a : Int) (b : Int) : cmp_Less (k + 1) a b =
  (cmp_isNaN k a).bind fun y0 =>
  (cond y0 (cmp_isNaN k b) (some false)).bind fun y1 =>
  some (cond (cond y0 (!y1) false) true (decide (a < b))) := by kernel_rfl
/-- slices.isNaN[int] -/
noncomputable def slices_isNaN (k : Nat) (a : Int) : Option Bool := callA P A k 101 a
theorem slices_isNaN_eq (k : Nat) (a : Int) : slices_isNaN (k + 1) a =
  some (a != a) := by kernel_rfl
/-- slices.BinarySearch[[]int,int] -/
noncomputable def slices_BinarySearch (k : Nat) (a : List Int) (b : Int) : Option (Int × Bool) := callA P A k 94 (a, b)
noncomputable def slices_BinarySearch_c3 (k : Nat) (s0 : List Int) (s1 : Int) (s6 : Int) (s7 : Int) (s8 : Int) : Option (Int × Bool) := cutA P A k 94 (todoAt P A 94 3) [(0, (.byv (.sl (.int .i64)))), (1, (.byv (.int .i64))), (6, (.byv (.int .i64))), (7, (.byv (.int .i64))), (8, (.byv (.int .i64)))] (s0, s1, s6, s7, s8)
theorem slices_BinarySearch_eq (k : Nat) (a : List Int) (b : Int) : slices_BinarySearch (k + 1) a b =
  slices_BinarySearch_c3 k a b (a.length : Int) 0 (a.length : Int) := by kernel_rfl
theorem slices_BinarySearch_c3_eq (k : Nat) (s0 : List Int) (s1 : Int) (s6 : Int) (s7 : Int) (s8 : Int) : slices_BinarySearch_c3 (k + 1) s0 s1 s6 s7 s8 =
  cond (decide (s7 < s8)) (
    cond (decide (0 ≤ (wi64 (shrI .u64 (wu64 (wi64 (s7 + s8))) 1)))) (
    cond (decide ((wi64 (shrI .u64 (wu64 (wi64 (s7 + s8))) 1)) < (s0.length : Int))) (
    (cmp_Less k (s0.getD (wi64 (shrI .u64 (wu64 (wi64 (s7 + s8))) 1)).toNat 0) s1).bind fun y0 =>
    cond y0 (
      slices_BinarySearch_c3 k s0 s1 s6 (wi64 ((wi64 (shrI .u64 (wu64 (wi64 (s7 + s8))) 1)) + 1)) s8) (
      slices_BinarySearch_c3 k s0 s1 s6 s7 (wi64 (shrI .u64 (wu64 (wi64 (s7 + s8))) 1)))) none) none) (
    cond ((!(decide (s7 < s6))) || (decide (0 ≤ s7))) (
    cond ((!(decide (s7 < s6))) || (decide (s7 < (s0.length : Int)))) (
    cond ((!((decide (s7 < s6)) && (!((s0.getD s7.toNat 0) == s1)))) || (decide (0 ≤ s7))) (
    cond ((!((decide (s7 < s6)) && (!((s0.getD s7.toNat 0) == s1)))) || (decide (s7 < (s0.length : Int)))) (
    (cond ((decide (s7 < s6)) && (!((s0.getD s7.toNat 0) == s1))) (slices_isNaN k (s0.getD s7.toNat 0)) (some false)).bind fun y1 =>
    (cond (((decide (s7 < s6)) && (!((s0.getD s7.toNat 0) == s1))) && y1) (slices_isNaN k s1) (some false)).bind fun y2 =>
    some (s7, (cond (decide (s7 < s6)) (cond ((s0.getD s7.toNat 0) == s1) true (cond y1 y2 false)) false))) none) none) none) none) := by kernel_rfl
/-- interchange/amount.WeekDay -/
noncomputable def amount_WeekDay (k : Nat) (a : Int) : Option Int := callA P A k 95 a
theorem amount_WeekDay_eq (k : Nat) (a : Int) : amount_WeekDay (k + 1) a =
  some ((wi64 (a - 1)).tmod 7) := by kernel_rfl
/-- interchange/amount.rests -/
noncomputable def amount_rests (k : Nat) (a : Int × List Int) (b : Int) : Option Bool := callA P A k 74 (a, b)
theorem amount_rests_eq (k : Nat) (a : Int × List Int) (b : Int) : amount_rests (k + 1) a b =
  (amount_WeekDay k b).bind fun y0 =>
  cond (decide (0 ≤ y0)) (
  some ((bitsI .and .i64 (shrI .i64 a.1 y0) 1) == 1)) none := by kernel_rfl
/-- interchange/amount.isWork -/
noncomputable def amount_isWork (k : Nat) (a : Int × List Int) (b : Int) : Option Bool := callA P A k 72 (a, b)
theorem amount_isWork_eq (k : Nat) (a : Int × List Int) (b : Int) : amount_isWork (k + 1) a b =
  (slices_BinarySearch k a.2 b).bind fun y0 =>
  (cond (!y0.2) (amount_rests k a b) (some false)).bind fun y1 =>
  some (cond (!y0.2) (!y1) false) := by kernel_rfl
/-- interchange/amount.WorkDay -/
noncomputable def amount_WorkDay (k : Nat) (a : Int × List Int) (b : Int) (c : Int) : Option (Int × Int) := callA P A k 33 (a, b, c)
noncomputable def amount_WorkDay_c11 (k : Nat) (s1 : Int) (s3 : Int × List Int) (s9 : Int) (s10 : Int) : Option (Int × Int) := cutA P A k 33 (todoAt P A 33 11) [(1, (.byv (.int .i64))), (3, (.box 51 [(.byv (.int .i64)), (.byv (.sl (.int .i64)))])), (9, (.byv (.int .i64))), (10, (.byv (.int .i64)))] (s1, s3, s9, s10)
theorem amount_WorkDay_eq (k : Nat) (a : Int × List Int) (b : Int) (c : Int) : amount_WorkDay (k + 1) a b c =
  (amount_CheckCalendar k a).bind fun y0 =>
  cond (y0 != 0) (
    some (0, y0)) (
    (kit_IsDay k b).bind fun y1 =>
    (cond (!(!y1)) (kit_Outside k c (-10000) 10000) (some false)).bind fun y2 =>
    cond (cond (!y1) true y2) (
      some (0, 1)) (
      cond (decide (c < 0)) (
        amount_WorkDay_c11 k b a (-1) (wi64 (0 - c))) (
        cond (c == 0) (
          amount_WorkDay_c11 k (wi64 (b - 1)) a 1 1) (
          amount_WorkDay_c11 k b a 1 c)))) := by kernel_rfl
theorem amount_WorkDay_c11_eq (k : Nat) (s1 : Int) (s3 : Int × List Int) (s9 : Int) (s10 : Int) : amount_WorkDay_c11 (k + 1) s1 s3 s9 s10 =
  cond (decide (s10 > 0)) (
    (kit_IsDay k (wi64 (s1 + s9))).bind fun y3 =>
    cond (!y3) (
      some (0, 9)) (
      (amount_isWork k s3 (wi64 (s1 + s9))).bind fun y4 =>
      cond y4 (
        amount_WorkDay_c11 k (wi64 (s1 + s9)) s3 s9 (wi64 (s10 - 1))) (
        amount_WorkDay_c11 k (wi64 (s1 + s9)) s3 s9 s10))) (
    some (s1, 0)) := by kernel_rfl
/-- interchange/interchangeref1.through -/
noncomputable def interchangeref1_through (k : Nat) (a : Int) (b : Int) : Option Int := callA P A k 73 (a, b)
theorem interchangeref1_through_eq (k : Nat) (a : Int) (b : Int) : interchangeref1_through (k + 1) a b =
  some (wi64 ((wi64 ((wi64 (a + 6)) - b)).tdiv 7)) := by kernel_rfl
/-- interchange/interchangeref1.WorkDays -/
noncomputable def interchangeref1_WorkDays (k : Nat) (a : Int × List Int) (b : Int) (c : Int) : Option (Int × Int) := callA P A k 36 (a, b, c)
noncomputable def interchangeref1_WorkDays_c10 (k : Nat) (s1 : Int) (s2 : Int) (s3 : Int × List Int) (s9 : Int) (s29 : Int) : Option (Int × Int) := cutA P A k 36 (todoAt P A 36 10) [(1, (.byv (.int .i64))), (2, (.byv (.int .i64))), (3, (.box 51 [(.byv (.int .i64)), (.byv (.sl (.int .i64)))])), (9, (.byv (.int .i64))), (29, (.byv (.int .i64)))] (s1, s2, s3, s9, s29)
noncomputable def interchangeref1_WorkDays_c16 (k : Nat) (s1 : Int) (s2 : Int) (s3 : Int × List Int) (s9 : Int) (s51 : List Int) (s52 : Int) (s53 : Int) : Option (Int × Int) := cutA P A k 36 (todoAt P A 36 16) [(1, (.byv (.int .i64))), (2, (.byv (.int .i64))), (3, (.box 51 [(.byv (.int .i64)), (.byv (.sl (.int .i64)))])), (9, (.byv (.int .i64))), (51, (.byv (.sl (.int .i64)))), (52, (.byv (.int .i64))), (53, (.byv (.int .i64)))] (s1, s2, s3, s9, s51, s52, s53)
theorem interchangeref1_WorkDays_eq (k : Nat) (a : Int × List Int) (b : Int) (c : Int) : interchangeref1_WorkDays (k + 1) a b c =
  (interchangeref1_CheckCalendar k a).bind fun y0 =>
  cond (y0 != 0) (
    some (0, y0)) (
    (interchangeref1_isDay k b).bind fun y1 =>
    (cond (!(!y1)) (interchangeref1_isDay k c) (some false)).bind fun y2 =>
    cond (cond (!y1) true (!y2)) (
      some (0, 1)) (
      cond (decide (c < b)) (
        some (0, 8)) (
        interchangeref1_WorkDays_c10 k b c a 0 0))) := by kernel_rfl
theorem interchangeref1_WorkDays_c10_eq (k : Nat) (s1 : Int) (s2 : Int) (s3 : Int × List Int) (s9 : Int) (s29 : Int) : interchangeref1_WorkDays_c10 (k + 1) s1 s2 s3 s9 s29 =
  cond (decide (s29 < 7)) (
    cond (decide (0 ≤ s29)) (
    cond (((shrI .i64 s3.1 s29).tmod 2) == 0) (
      (interchangeref1_through k (wi64 (s2 - 1)) s29).bind fun y3 =>
      (interchangeref1_through k (wi64 (s1 - 1)) s29).bind fun y4 =>
      interchangeref1_WorkDays_c10 k s1 s2 s3 (wi64 (s9 + (wi64 (y3 - y4)))) (wi64 (s29 + 1))) (
      interchangeref1_WorkDays_c10 k s1 s2 s3 s9 (wi64 (s29 + 1)))) none) (
    interchangeref1_WorkDays_c16 k s1 s2 s3 s9 s3.2 (s3.2.length : Int) 0) := by kernel_rfl
theorem interchangeref1_WorkDays_c16_eq (k : Nat) (s1 : Int) (s2 : Int) (s3 : Int × List Int) (s9 : Int) (s51 : List Int) (s52 : Int) (s53 : Int) : interchangeref1_WorkDays_c16 (k + 1) s1 s2 s3 s9 s51 s52 s53 =
  cond (decide (s53 < s52)) (
    cond (decide (0 ≤ s53)) (
    cond (decide (s53 < (s51.length : Int))) (
    cond ((!(cond (decide ((s51.getD s53.toNat 0) ≥ s1)) (decide ((s51.getD s53.toNat 0) < s2)) false)) || true) (
    cond ((!(cond (decide ((s51.getD s53.toNat 0) ≥ s1)) (decide ((s51.getD s53.toNat 0) < s2)) false)) || (decide (0 ≤ ((wi64 ((s51.getD s53.toNat 0) - 1)).tmod 7)))) (
    cond ((!(cond (decide ((s51.getD s53.toNat 0) ≥ s1)) (decide ((s51.getD s53.toNat 0) < s2)) false)) || true) (
    cond (cond (cond (decide ((s51.getD s53.toNat 0) ≥ s1)) (decide ((s51.getD s53.toNat 0) < s2)) false) (((shrI .i64 s3.1 ((wi64 ((s51.getD s53.toNat 0) - 1)).tmod 7)).tmod 2) == 0) false) (
      interchangeref1_WorkDays_c16 k s1 s2 s3 (wi64 (s9 - 1)) s51 s52 (wi64 (s53 + 1))) (
      interchangeref1_WorkDays_c16 k s1 s2 s3 s9 s51 s52 (wi64 (s53 + 1)))) none) none) none) none) none) (
    some (s9, 0)) := by kernel_rfl
/-- interchange/amount.WorkDays -/
noncomputable def amount_WorkDays (k : Nat) (a : Int × List Int) (b : Int) (c : Int) : Option (Int × Int) := callA P A k 37 (a, b, c)
noncomputable def amount_WorkDays_c10 (k : Nat) (s1 : Int) (s2 : Int) (s3 : Int × List Int) (s9 : Int) (s30 : Int) : Option (Int × Int) := cutA P A k 37 (todoAt P A 37 10) [(1, (.byv (.int .i64))), (2, (.byv (.int .i64))), (3, (.box 51 [(.byv (.int .i64)), (.byv (.sl (.int .i64)))])), (9, (.byv (.int .i64))), (30, (.byv (.int .i64)))] (s1, s2, s3, s9, s30)
noncomputable def amount_WorkDays_c17 (k : Nat) (s1 : Int) (s2 : Int) (s3 : Int × List Int) (s9 : Int) (s55 : List Int) (s56 : Int) (s57 : Int) : Option (Int × Int) := cutA P A k 37 (todoAt P A 37 17) [(1, (.byv (.int .i64))), (2, (.byv (.int .i64))), (3, (.box 51 [(.byv (.int .i64)), (.byv (.sl (.int .i64)))])), (9, (.byv (.int .i64))), (55, (.byv (.sl (.int .i64)))), (56, (.byv (.int .i64))), (57, (.byv (.int .i64)))] (s1, s2, s3, s9, s55, s56, s57)
theorem amount_WorkDays_eq (k : Nat) (a : Int × List Int) (b : Int) (c : Int) : amount_WorkDays (k + 1) a b c =
  (amount_CheckCalendar k a).bind fun y0 =>
  cond (y0 != 0) (
    some (0, y0)) (
    (kit_IsDay k b).bind fun y1 =>
    (cond (!(!y1)) (kit_IsDay k c) (some false)).bind fun y2 =>
    cond (cond (!y1) true (!y2)) (
      some (0, 1)) (
      cond (decide (c < b)) (
        some (0, 8)) (
        amount_WorkDays_c10 k b c a 0 0))) := by kernel_rfl
theorem amount_WorkDays_c10_eq (k : Nat) (s1 : Int) (s2 : Int) (s3 : Int × List Int) (s9 : Int) (s30 : Int) : amount_WorkDays_c10 (k + 1) s1 s2 s3 s9 s30 =
  cond (decide (s30 < 7)) (
    (amount_rests k s3 (wi64 (s1 + s30))).bind fun y3 =>
    cond (cond (!y3) (decide ((wi64 (s1 + s30)) < s2)) false) (
      amount_WorkDays_c10 k s1 s2 s3 (wi64 (s9 + (wi64 ((wi64 ((wi64 ((wi64 (s2 - (wi64 (s1 + s30)))) - 1)).tdiv 7)) + 1)))) (wi64 (s30 + 1))) (
      amount_WorkDays_c10 k s1 s2 s3 s9 (wi64 (s30 + 1)))) (
    amount_WorkDays_c17 k s1 s2 s3 s9 s3.2 (s3.2.length : Int) 0) := by kernel_rfl
theorem amount_WorkDays_c17_eq (k : Nat) (s1 : Int) (s2 : Int) (s3 : Int × List Int) (s9 : Int) (s55 : List Int) (s56 : Int) (s57 : Int) : amount_WorkDays_c17 (k + 1) s1 s2 s3 s9 s55 s56 s57 =
  cond (decide (s57 < s56)) (
    cond (decide (0 ≤ s57)) (
    cond (decide (s57 < (s55.length : Int))) (
    (cond (cond (decide (s1 ≤ (s55.getD s57.toNat 0))) (decide ((s55.getD s57.toNat 0) < s2)) false) (amount_rests k s3 (s55.getD s57.toNat 0)) (some false)).bind fun y4 =>
    cond (cond (cond (decide (s1 ≤ (s55.getD s57.toNat 0))) (decide ((s55.getD s57.toNat 0) < s2)) false) (!y4) false) (
      amount_WorkDays_c17 k s1 s2 s3 (wi64 (s9 - 1)) s55 s56 (wi64 (s57 + 1))) (
      amount_WorkDays_c17 k s1 s2 s3 s9 s55 s56 (wi64 (s57 + 1)))) none) none) (
    some (s9, 0)) := by kernel_rfl
/-- interchange/interchangelaw1.AmountWorkDaysMatchSpec -/
noncomputable def interchangelaw1_AmountWorkDaysMatchSpec (k : Nat) (a : Int × List Int) (b : Int) (c : Int) (d : Int) : Option Bool := callA P A k 7 (a, b, c, d)
theorem interchangelaw1_AmountWorkDaysMatchSpec_eq (k : Nat) (a : Int × List Int) (b : Int) (c : Int) (d : Int) : interchangelaw1_AmountWorkDaysMatchSpec (k + 1) a b c d =
  (interchangeref1_WorkDay k a b c).bind fun y0 =>
  (amount_WorkDay k a b c).bind fun y1 =>
  (interchangeref1_CheckCalendar k a).bind fun y2 =>
  (amount_CheckCalendar k a).bind fun y3 =>
  cond (cond (cond (y2 != y3) true (y1.2 != y0.2)) true (y1.1 != y0.1)) (
    some false) (
    (interchangeref1_WorkDays k a b d).bind fun y4 =>
    (amount_WorkDays k a b d).bind fun y5 =>
    (cond (cond (y5.2 == y4.2) (y5.1 == y4.1) false) (interchangelaw1_awake k) (some false)).bind fun y6 =>
    some (cond (cond (y5.2 == y4.2) (y5.1 == y4.1) false) y6 false)) := by kernel_rfl
/-- interchange/interchangelaw1.AmountWorkDaysAreCounted -/
noncomputable def interchangelaw1_AmountWorkDaysAreCounted (k : Nat) (a : Int × List Int) (b : Int) (c : Int) (d : Int) : Option Bool := callA P A k 8 (a, b, c, d)
theorem interchangelaw1_AmountWorkDaysAreCounted_eq (k : Nat) (a : Int × List Int) (b : Int) (c : Int) (d : Int) : interchangelaw1_AmountWorkDaysAreCounted (k + 1) a b c d =
  (amount_WorkDay k a b c).bind fun y0 =>
  cond (cond (cond (y0.2 != 0) true (decide (c < 1))) true (y0.1 == 3652059)) (
    (cond (cond (y0.2 == 0) true (y0.1 == 0)) (interchangelaw1_awake k) (some false)).bind fun y1 =>
    some (cond (cond (y0.2 == 0) true (y0.1 == 0)) y1 false)) (
    (amount_WorkDays k a (wi64 (b + 1)) (wi64 (y0.1 + 1))).bind fun y2 =>
    (cond (!(cond (y2.2 != 0) true (y2.1 != c))) (interchangelaw1_awake k) (some false)).bind fun y3 =>
    cond (cond (cond (y2.2 != 0) true (y2.1 != c)) true (!y3)) (
      some false) (
      (interchangeref1_Below k d (wi64 (y0.1 - b))).bind fun y4 =>
      (amount_WorkDays k a (wi64 (b + 1)) (wi64 ((wi64 (b + 1)) + y4))).bind fun y5 =>
      (amount_WorkDays k a (wi64 ((wi64 (b + 1)) + y4)) (wi64 (y0.1 + 1))).bind fun y6 =>
      some (cond (cond (y5.2 == 0) (y6.2 == 0) false) ((wi64 (y5.1 + y6.1)) == y2.1) false))) := by kernel_rfl
/-- interchange/amount.weightsFault -/
noncomputable def amount_weightsFault (k : Nat) (a : List Int) : Option Int := callA P A k 75 a
noncomputable def amount_weightsFault_c7 (k : Nat) (s3 : Int) (s12 : List Int) (s13 : Int) (s14 : Int) : Option Int := cutA P A k 75 (todoAt P A 75 7) [(3, (.byv (.int .i64))), (12, (.byv (.sl (.int .i64)))), (13, (.byv (.int .i64))), (14, (.byv (.int .i64)))] (s3, s12, s13, s14)
theorem amount_weightsFault_eq (k : Nat) (a : List Int) : amount_weightsFault (k + 1) a =
  cond ((a.length : Int) == 0) (
    some 9) (
    cond (decide ((a.length : Int) > 1000)) (
      some 2) (
      amount_weightsFault_c7 k 0 a (a.length : Int) 0)) := by kernel_rfl
theorem amount_weightsFault_c7_eq (k : Nat) (s3 : Int) (s12 : List Int) (s13 : Int) (s14 : Int) : amount_weightsFault_c7 (k + 1) s3 s12 s13 s14 =
  cond (decide (s14 < s13)) (
    cond (decide (0 ≤ s14)) (
    cond (decide (s14 < (s12.length : Int))) (
    (kit_Outside k (s12.getD s14.toNat 0) 0 1000000000).bind fun y0 =>
    cond y0 (
      some 1) (
      amount_weightsFault_c7 k (wi64 (s3 + (s12.getD s14.toNat 0))) s12 s13 (wi64 (s14 + 1)))) none) none) (
    cond (s3 == 0) (
      some 13) (
      some 0)) := by kernel_rfl
/-- interchange/amount.Shares$1 -/
noncomputable def amount_Shares_1 (k : Nat) (a : Int × Int × Bool × List Int) (b : Int × Int × Bool × List Int) : Option Int := callA P A k 78 (a, b)
theorem amount_Shares_1_eq (k : Nat) (a : Int × Int × Bool × List Int) (b : Int × Int × Bool × List Int) : amount_Shares_1 (k + 1) a b =
  (whole_Int_Compare k b.2.2 a.2.2).bind fun y0 =>
  some y0 := by kernel_rfl
/-- slices.insertionSortCmpFunc[interchange/amount.share] -/
noncomputable def slices_insertionSortCmpFunc_1 (k : Nat) (a : List (Int × Int × Bool × List Int)) (b : Int) (c : Int) (d : Unit) : Option (List (Int × Int × Bool × List Int)) := callA P A k 100102 (a, b, c, d)
noncomputable def slices_insertionSortCmpFunc_1_c1 (k : Nat) (s0 : List (Int × Int × Bool × List Int)) (s1 : Int) (s2 : Int) (s3 : Unit) (s8 : Int) : Option (List (Int × Int × Bool × List Int)) := cutA P A k 100102 (todoAt P A 100102 1) [(0, (.own 91 (.pair (.int .i64) (.pair (.int .i64) (.pair .bool (.sl (.int .u32))))))), (1, (.byv (.int .i64))), (2, (.byv (.int .i64))), (3, (.fn 78 [])), (8, (.byv (.int .i64)))] (s0, s1, s2, s3, s8)
noncomputable def slices_insertionSortCmpFunc_1_c4 (k : Nat) (s0 : List (Int × Int × Bool × List Int)) (s1 : Int) (s2 : Int) (s3 : Unit) (s8 : Int) (s9 : Int) : Option (List (Int × Int × Bool × List Int)) := cutA P A k 100102 (todoAt P A 100102 4) [(0, (.own 91 (.pair (.int .i64) (.pair (.int .i64) (.pair .bool (.sl (.int .u32))))))), (1, (.byv (.int .i64))), (2, (.byv (.int .i64))), (3, (.fn 78 [])), (8, (.byv (.int .i64))), (9, (.byv (.int .i64)))] (s0, s1, s2, s3, s8, s9)
theorem slices_insertionSortCmpFunc_1_eq (k : Nat) (a : List (Int × Int × Bool × List Int)) (b : Int) (c : Int) (d : Unit) : slices_insertionSortCmpFunc_1 (k + 1) a b c d =
  slices_insertionSortCmpFunc_1_c1 k a b c () (wi64 (b + 1)) := by kernel_rfl
theorem slices_insertionSortCmpFunc_1_c1_eq (k : Nat) (s0 : List (Int × Int × Bool × List Int)) (s1 : Int) (s2 : Int) (s3 : Unit) (s8 : Int) : slices_insertionSortCmpFunc_1_c1 (k + 1) s0 s1 s2 s3 s8 =
  cond (decide (s8 < s2)) (
    slices_insertionSortCmpFunc_1_c4 k s0 s1 s2 () s8 s8) (
    some s0) := by kernel_rfl
theorem slices_insertionSortCmpFunc_1_c4_eq (k : Nat) (s0 : List (Int × Int × Bool × List Int)) (s1 : Int) (s2 : Int) (s3 : Unit) (s8 : Int) (s9 : Int) : slices_insertionSortCmpFunc_1_c4 (k + 1) s0 s1 s2 s3 s8 s9 =
  cond ((!(decide (s9 > s1))) || (decide (0 ≤ s9))) (
  cond ((!(decide (s9 > s1))) || (decide (s9 < (s0.length : Int)))) (
  cond ((!(decide (s9 > s1))) || (decide (0 ≤ (wi64 (s9 - 1))))) (
  cond ((!(decide (s9 > s1))) || (decide ((wi64 (s9 - 1)) < (s0.length : Int)))) (
  (cond (decide (s9 > s1)) (amount_Shares_1 k (((s0.getD s9.toNat (0, (0, (false, [])))).1), ((((s0.getD s9.toNat (0, (0, (false, [])))).2).1), (((((s0.getD s9.toNat (0, (0, (false, [])))).2).2).1), ((((s0.getD s9.toNat (0, (0, (false, [])))).2).2).2)))) (((s0.getD (wi64 (s9 - 1)).toNat (0, (0, (false, [])))).1), ((((s0.getD (wi64 (s9 - 1)).toNat (0, (0, (false, [])))).2).1), (((((s0.getD (wi64 (s9 - 1)).toNat (0, (0, (false, [])))).2).2).1), ((((s0.getD (wi64 (s9 - 1)).toNat (0, (0, (false, [])))).2).2).2))))) (some 0)).bind fun y0 =>
  cond (cond (decide (s9 > s1)) (decide (y0 < 0)) false) (
    cond (decide (0 ≤ (wi64 (s9 - 1)))) (
    cond (decide ((wi64 (s9 - 1)) < (s0.length : Int))) (
    cond (decide (0 ≤ s9)) (
    cond (decide (s9 < (s0.length : Int))) (
    cond (decide (0 ≤ s9)) (
    cond (decide (s9 < (s0.length : Int))) (
    cond (decide (0 ≤ (wi64 (s9 - 1)))) (
    cond (decide ((wi64 (s9 - 1)) < ((s0.set s9.toNat (((s0.getD (wi64 (s9 - 1)).toNat (0, (0, (false, [])))).1), ((((s0.getD (wi64 (s9 - 1)).toNat (0, (0, (false, [])))).2).1), (((((s0.getD (wi64 (s9 - 1)).toNat (0, (0, (false, [])))).2).2).1), ((((s0.getD (wi64 (s9 - 1)).toNat (0, (0, (false, [])))).2).2).2))))).length : Int))) (
    slices_insertionSortCmpFunc_1_c4 k ((s0.set s9.toNat (((s0.getD (wi64 (s9 - 1)).toNat (0, (0, (false, [])))).1), ((((s0.getD (wi64 (s9 - 1)).toNat (0, (0, (false, [])))).2).1), (((((s0.getD (wi64 (s9 - 1)).toNat (0, (0, (false, [])))).2).2).1), ((((s0.getD (wi64 (s9 - 1)).toNat (0, (0, (false, [])))).2).2).2))))).set (wi64 (s9 - 1)).toNat (((s0.getD s9.toNat (0, (0, (false, [])))).1), ((((s0.getD s9.toNat (0, (0, (false, [])))).2).1), (((((s0.getD s9.toNat (0, (0, (false, [])))).2).2).1), ((((s0.getD s9.toNat (0, (0, (false, [])))).2).2).2))))) s1 s2 () s8 (wi64 (s9 - 1))) none) none) none) none) none) none) none) none) (
    slices_insertionSortCmpFunc_1_c1 k s0 s1 s2 () (wi64 (s8 + 1)))) none) none) none) none := by kernel_rfl
/-- slices.swapRangeCmpFunc[interchange/amount.share] -/
noncomputable def slices_swapRangeCmpFunc_1 (k : Nat) (a : List (Int × Int × Bool × List Int)) (b : Int) (c : Int) (d : Int) (e : Unit) : Option (List (Int × Int × Bool × List Int)) := callA P A k 100112 (a, b, c, d, e)
noncomputable def slices_swapRangeCmpFunc_1_c1 (k : Nat) (s0 : List (Int × Int × Bool × List Int)) (s1 : Int) (s2 : Int) (s3 : Int) (s10 : Int) : Option (List (Int × Int × Bool × List Int)) := cutA P A k 100112 (todoAt P A 100112 1) [(0, (.own 91 (.pair (.int .i64) (.pair (.int .i64) (.pair .bool (.sl (.int .u32))))))), (1, (.byv (.int .i64))), (2, (.byv (.int .i64))), (3, (.byv (.int .i64))), (10, (.byv (.int .i64)))] (s0, s1, s2, s3, s10)
theorem slices_swapRangeCmpFunc_1_eq (k : Nat) (a : List (Int × Int × Bool × List Int)) (b : Int) (c : Int) (d : Int) (e : Unit) : slices_swapRangeCmpFunc_1 (k + 1) a b c d e =
  slices_swapRangeCmpFunc_1_c1 k a b c d 0 := by kernel_rfl
theorem slices_swapRangeCmpFunc_1_c1_eq (k : Nat) (s0 : List (Int × Int × Bool × List Int)) (s1 : Int) (s2 : Int) (s3 : Int) (s10 : Int) : slices_swapRangeCmpFunc_1_c1 (k + 1) s0 s1 s2 s3 s10 =
  cond (decide (s10 < s3)) (
    cond (decide (0 ≤ (wi64 (s2 + s10)))) (
    cond (decide ((wi64 (s2 + s10)) < (s0.length : Int))) (
    cond (decide (0 ≤ (wi64 (s1 + s10)))) (
    cond (decide ((wi64 (s1 + s10)) < (s0.length : Int))) (
    cond (decide (0 ≤ (wi64 (s1 + s10)))) (
    cond (decide ((wi64 (s1 + s10)) < (s0.length : Int))) (
    cond (decide (0 ≤ (wi64 (s2 + s10)))) (
    cond (decide ((wi64 (s2 + s10)) < ((s0.set (wi64 (s1 + s10)).toNat (((s0.getD (wi64 (s2 + s10)).toNat (0, (0, (false, [])))).1), ((((s0.getD (wi64 (s2 + s10)).toNat (0, (0, (false, [])))).2).1), (((((s0.getD (wi64 (s2 + s10)).toNat (0, (0, (false, [])))).2).2).1), ((((s0.getD (wi64 (s2 + s10)).toNat (0, (0, (false, [])))).2).2).2))))).length : Int))) (
    slices_swapRangeCmpFunc_1_c1 k ((s0.set (wi64 (s1 + s10)).toNat (((s0.getD (wi64 (s2 + s10)).toNat (0, (0, (false, [])))).1), ((((s0.getD (wi64 (s2 + s10)).toNat (0, (0, (false, [])))).2).1), (((((s0.getD (wi64 (s2 + s10)).toNat (0, (0, (false, [])))).2).2).1), ((((s0.getD (wi64 (s2 + s10)).toNat (0, (0, (false, [])))).2).2).2))))).set (wi64 (s2 + s10)).toNat (((s0.getD (wi64 (s1 + s10)).toNat (0, (0, (false, [])))).1), ((((s0.getD (wi64 (s1 + s10)).toNat (0, (0, (false, [])))).2).1), (((((s0.getD (wi64 (s1 + s10)).toNat (0, (0, (false, [])))).2).2).1), ((((s0.getD (wi64 (s1 + s10)).toNat (0, (0, (false, [])))).2).2).2))))) s1 s2 s3 (wi64 (s10 + 1))) none) none) none) none) none) none) none) none) (
    some s0) := by kernel_rfl
/-- slices.rotateCmpFunc[interchange/amount.share] -/
noncomputable def slices_rotateCmpFunc_1 (k : Nat) (a : List (Int × Int × Bool × List Int)) (b : Int) (c : Int) (d : Int) (e : Unit) : Option (List (Int × Int × Bool × List Int)) := callA P A k 100107 (a, b, c, d, e)
noncomputable def slices_rotateCmpFunc_1_c2 (k : Nat) (s0 : List (Int × Int × Bool × List Int)) (s2 : Int) (s4 : Unit) (s10 : Int) (s11 : Int) : Option (List (Int × Int × Bool × List Int)) := cutA P A k 100107 (todoAt P A 100107 2) [(0, (.own 91 (.pair (.int .i64) (.pair (.int .i64) (.pair .bool (.sl (.int .u32))))))), (2, (.byv (.int .i64))), (4, (.fn 78 [])), (10, (.byv (.int .i64))), (11, (.byv (.int .i64)))] (s0, s2, s4, s10, s11)
theorem slices_rotateCmpFunc_1_eq (k : Nat) (a : List (Int × Int × Bool × List Int)) (b : Int) (c : Int) (d : Int) (e : Unit) : slices_rotateCmpFunc_1 (k + 1) a b c d e =
  slices_rotateCmpFunc_1_c2 k a c () (wi64 (c - b)) (wi64 (d - c)) := by kernel_rfl
theorem slices_rotateCmpFunc_1_c2_eq (k : Nat) (s0 : List (Int × Int × Bool × List Int)) (s2 : Int) (s4 : Unit) (s10 : Int) (s11 : Int) : slices_rotateCmpFunc_1_c2 (k + 1) s0 s2 s4 s10 s11 =
  cond (s10 != s11) (
    cond (decide (s10 > s11)) (
      (slices_swapRangeCmpFunc_1 k s0 (wi64 (s2 - s10)) s2 s11 ()).bind fun y0 =>
      slices_rotateCmpFunc_1_c2 k y0 s2 () (wi64 (s10 - s11)) s11) (
      (slices_swapRangeCmpFunc_1 k s0 (wi64 (s2 - s10)) (wi64 ((wi64 (s2 + s11)) - s10)) s10 ()).bind fun y1 =>
      slices_rotateCmpFunc_1_c2 k y1 s2 () s10 (wi64 (s11 - s10)))) (
    (slices_swapRangeCmpFunc_1 k s0 (wi64 (s2 - s10)) s2 s10 ()).bind fun y2 =>
    some y2) := by kernel_rfl
/-- slices.symMergeCmpFunc[interchange/amount.share] -/
noncomputable def slices_symMergeCmpFunc_1 (k : Nat) (a : List (Int × Int × Bool × List Int)) (b : Int) (c : Int) (d : Int) (e : Unit) : Option (List (Int × Int × Bool × List Int)) := callA P A k 100103 (a, b, c, d, e)
noncomputable def slices_symMergeCmpFunc_1_c3 (k : Nat) (s0 : List (Int × Int × Bool × List Int)) (s1 : Int) (s4 : Unit) (s10 : Int) (s11 : Int) : Option (List (Int × Int × Bool × List Int)) := cutA P A k 100103 (todoAt P A 100103 3) [(0, (.own 91 (.pair (.int .i64) (.pair (.int .i64) (.pair .bool (.sl (.int .u32))))))), (1, (.byv (.int .i64))), (4, (.fn 78 [])), (10, (.byv (.int .i64))), (11, (.byv (.int .i64)))] (s0, s1, s4, s10, s11)
noncomputable def slices_symMergeCmpFunc_1_c9 (k : Nat) (s0 : List (Int × Int × Bool × List Int)) (s10 : Int) (s13 : Int) : Option (List (Int × Int × Bool × List Int)) := cutA P A k 100103 (todoAt P A 100103 9) [(0, (.own 91 (.pair (.int .i64) (.pair (.int .i64) (.pair .bool (.sl (.int .u32))))))), (10, (.byv (.int .i64))), (13, (.byv (.int .i64)))] (s0, s10, s13)
noncomputable def slices_symMergeCmpFunc_1_c15 (k : Nat) (s0 : List (Int × Int × Bool × List Int)) (s2 : Int) (s4 : Unit) (s14 : Int) (s15 : Int) : Option (List (Int × Int × Bool × List Int)) := cutA P A k 100103 (todoAt P A 100103 15) [(0, (.own 91 (.pair (.int .i64) (.pair (.int .i64) (.pair .bool (.sl (.int .u32))))))), (2, (.byv (.int .i64))), (4, (.fn 78 [])), (14, (.byv (.int .i64))), (15, (.byv (.int .i64)))] (s0, s2, s4, s14, s15)
noncomputable def slices_symMergeCmpFunc_1_c21 (k : Nat) (s0 : List (Int × Int × Bool × List Int)) (s14 : Int) (s17 : Int) : Option (List (Int × Int × Bool × List Int)) := cutA P A k 100103 (todoAt P A 100103 21) [(0, (.own 91 (.pair (.int .i64) (.pair (.int .i64) (.pair .bool (.sl (.int .u32))))))), (14, (.byv (.int .i64))), (17, (.byv (.int .i64)))] (s0, s14, s17)
noncomputable def slices_symMergeCmpFunc_1_c32 (k : Nat) (s0 : List (Int × Int × Bool × List Int)) (s1 : Int) (s2 : Int) (s3 : Int) (s4 : Unit) (s18 : Int) (s19 : Int) (s20 : Int) (s21 : Int) : Option (List (Int × Int × Bool × List Int)) := cutA P A k 100103 (todoAt P A 100103 32) [(0, (.own 91 (.pair (.int .i64) (.pair (.int .i64) (.pair .bool (.sl (.int .u32))))))), (1, (.byv (.int .i64))), (2, (.byv (.int .i64))), (3, (.byv (.int .i64))), (4, (.fn 78 [])), (18, (.byv (.int .i64))), (19, (.byv (.int .i64))), (20, (.byv (.int .i64))), (21, (.byv (.int .i64)))] (s0, s1, s2, s3, s4, s18, s19, s20, s21)
noncomputable def slices_symMergeCmpFunc_1_c33 (k : Nat) (s0 : List (Int × Int × Bool × List Int)) (s1 : Int) (s2 : Int) (s3 : Int) (s4 : Unit) (s18 : Int) (s19 : Int) (s20 : Int) (s21 : Int) (s22 : Int) : Option (List (Int × Int × Bool × List Int)) := cutA P A k 100103 (todoAt P A 100103 33) [(0, (.own 91 (.pair (.int .i64) (.pair (.int .i64) (.pair .bool (.sl (.int .u32))))))), (1, (.byv (.int .i64))), (2, (.byv (.int .i64))), (3, (.byv (.int .i64))), (4, (.fn 78 [])), (18, (.byv (.int .i64))), (19, (.byv (.int .i64))), (20, (.byv (.int .i64))), (21, (.byv (.int .i64))), (22, (.byv (.int .i64)))] (s0, s1, s2, s3, s4, s18, s19, s20, s21, s22)
theorem slices_symMergeCmpFunc_1_eq (k : Nat) (a : List (Int × Int × Bool × List Int)) (b : Int) (c : Int) (d : Int) (e : Unit) : slices_symMergeCmpFunc_1 (k + 1) a b c d e =
  cond ((wi64 (c - b)) == 1) (
    slices_symMergeCmpFunc_1_c3 k a b () c d) (
    cond ((wi64 (d - c)) == 1) (
      slices_symMergeCmpFunc_1_c15 k a c () b c) (
      cond (decide (c > (wi64 (shrI .u64 (wu64 (wi64 (b + d))) 1)))) (
        slices_symMergeCmpFunc_1_c32 k a b c d () (wi64 (shrI .u64 (wu64 (wi64 (b + d))) 1)) (wi64 ((wi64 (shrI .u64 (wu64 (wi64 (b + d))) 1)) + c)) (wi64 ((wi64 ((wi64 (shrI .u64 (wu64 (wi64 (b + d))) 1)) + c)) - d)) (wi64 (shrI .u64 (wu64 (wi64 (b + d))) 1))) (
        slices_symMergeCmpFunc_1_c32 k a b c d () (wi64 (shrI .u64 (wu64 (wi64 (b + d))) 1)) (wi64 ((wi64 (shrI .u64 (wu64 (wi64 (b + d))) 1)) + c)) b c))) := by kernel_rfl
theorem slices_symMergeCmpFunc_1_c3_eq (k : Nat) (s0 : List (Int × Int × Bool × List Int)) (s1 : Int) (s4 : Unit) (s10 : Int) (s11 : Int) : slices_symMergeCmpFunc_1_c3 (k + 1) s0 s1 s4 s10 s11 =
  cond (decide (s10 < s11)) (
    cond (decide (0 ≤ (wi64 (shrI .u64 (wu64 (wi64 (s10 + s11))) 1)))) (
    cond (decide ((wi64 (shrI .u64 (wu64 (wi64 (s10 + s11))) 1)) < (s0.length : Int))) (
    cond (decide (0 ≤ s1)) (
    cond (decide (s1 < (s0.length : Int))) (
    (amount_Shares_1 k (((s0.getD (wi64 (shrI .u64 (wu64 (wi64 (s10 + s11))) 1)).toNat (0, (0, (false, [])))).1), ((((s0.getD (wi64 (shrI .u64 (wu64 (wi64 (s10 + s11))) 1)).toNat (0, (0, (false, [])))).2).1), (((((s0.getD (wi64 (shrI .u64 (wu64 (wi64 (s10 + s11))) 1)).toNat (0, (0, (false, [])))).2).2).1), ((((s0.getD (wi64 (shrI .u64 (wu64 (wi64 (s10 + s11))) 1)).toNat (0, (0, (false, [])))).2).2).2)))) (((s0.getD s1.toNat (0, (0, (false, [])))).1), ((((s0.getD s1.toNat (0, (0, (false, [])))).2).1), (((((s0.getD s1.toNat (0, (0, (false, [])))).2).2).1), ((((s0.getD s1.toNat (0, (0, (false, [])))).2).2).2))))).bind fun y0 =>
    cond (decide (y0 < 0)) (
      slices_symMergeCmpFunc_1_c3 k s0 s1 () (wi64 ((wi64 (shrI .u64 (wu64 (wi64 (s10 + s11))) 1)) + 1)) s11) (
      slices_symMergeCmpFunc_1_c3 k s0 s1 () s10 (wi64 (shrI .u64 (wu64 (wi64 (s10 + s11))) 1)))) none) none) none) none) (
    slices_symMergeCmpFunc_1_c9 k s0 s10 s1) := by kernel_rfl
theorem slices_symMergeCmpFunc_1_c9_eq (k : Nat) (s0 : List (Int × Int × Bool × List Int)) (s10 : Int) (s13 : Int) : slices_symMergeCmpFunc_1_c9 (k + 1) s0 s10 s13 =
  cond (decide (s13 < (wi64 (s10 - 1)))) (
    cond (decide (0 ≤ (wi64 (s13 + 1)))) (
    cond (decide ((wi64 (s13 + 1)) < (s0.length : Int))) (
    cond (decide (0 ≤ s13)) (
    cond (decide (s13 < (s0.length : Int))) (
    cond (decide (0 ≤ s13)) (
    cond (decide (s13 < (s0.length : Int))) (
    cond (decide (0 ≤ (wi64 (s13 + 1)))) (
    cond (decide ((wi64 (s13 + 1)) < ((s0.set s13.toNat (((s0.getD (wi64 (s13 + 1)).toNat (0, (0, (false, [])))).1), ((((s0.getD (wi64 (s13 + 1)).toNat (0, (0, (false, [])))).2).1), (((((s0.getD (wi64 (s13 + 1)).toNat (0, (0, (false, [])))).2).2).1), ((((s0.getD (wi64 (s13 + 1)).toNat (0, (0, (false, [])))).2).2).2))))).length : Int))) (
    slices_symMergeCmpFunc_1_c9 k ((s0.set s13.toNat (((s0.getD (wi64 (s13 + 1)).toNat (0, (0, (false, [])))).1), ((((s0.getD (wi64 (s13 + 1)).toNat (0, (0, (false, [])))).2).1), (((((s0.getD (wi64 (s13 + 1)).toNat (0, (0, (false, [])))).2).2).1), ((((s0.getD (wi64 (s13 + 1)).toNat (0, (0, (false, [])))).2).2).2))))).set (wi64 (s13 + 1)).toNat (((s0.getD s13.toNat (0, (0, (false, [])))).1), ((((s0.getD s13.toNat (0, (0, (false, [])))).2).1), (((((s0.getD s13.toNat (0, (0, (false, [])))).2).2).1), ((((s0.getD s13.toNat (0, (0, (false, [])))).2).2).2))))) s10 (wi64 (s13 + 1))) none) none) none) none) none) none) none) none) (
    some s0) := by kernel_rfl
theorem slices_symMergeCmpFunc_1_c15_eq (k : Nat) (s0 : List (Int × Int × Bool × List Int)) (s2 : Int) (s4 : Unit) (s14 : Int) (s15 : Int) : slices_symMergeCmpFunc_1_c15 (k + 1) s0 s2 s4 s14 s15 =
  cond (decide (s14 < s15)) (
    cond (decide (0 ≤ s2)) (
    cond (decide (s2 < (s0.length : Int))) (
    cond (decide (0 ≤ (wi64 (shrI .u64 (wu64 (wi64 (s14 + s15))) 1)))) (
    cond (decide ((wi64 (shrI .u64 (wu64 (wi64 (s14 + s15))) 1)) < (s0.length : Int))) (
    (amount_Shares_1 k (((s0.getD s2.toNat (0, (0, (false, [])))).1), ((((s0.getD s2.toNat (0, (0, (false, [])))).2).1), (((((s0.getD s2.toNat (0, (0, (false, [])))).2).2).1), ((((s0.getD s2.toNat (0, (0, (false, [])))).2).2).2)))) (((s0.getD (wi64 (shrI .u64 (wu64 (wi64 (s14 + s15))) 1)).toNat (0, (0, (false, [])))).1), ((((s0.getD (wi64 (shrI .u64 (wu64 (wi64 (s14 + s15))) 1)).toNat (0, (0, (false, [])))).2).1), (((((s0.getD (wi64 (shrI .u64 (wu64 (wi64 (s14 + s15))) 1)).toNat (0, (0, (false, [])))).2).2).1), ((((s0.getD (wi64 (shrI .u64 (wu64 (wi64 (s14 + s15))) 1)).toNat (0, (0, (false, [])))).2).2).2))))).bind fun y1 =>
    cond (!(decide (y1 < 0))) (
      slices_symMergeCmpFunc_1_c15 k s0 s2 () (wi64 ((wi64 (shrI .u64 (wu64 (wi64 (s14 + s15))) 1)) + 1)) s15) (
      slices_symMergeCmpFunc_1_c15 k s0 s2 () s14 (wi64 (shrI .u64 (wu64 (wi64 (s14 + s15))) 1)))) none) none) none) none) (
    slices_symMergeCmpFunc_1_c21 k s0 s14 s2) := by kernel_rfl
theorem slices_symMergeCmpFunc_1_c21_eq (k : Nat) (s0 : List (Int × Int × Bool × List Int)) (s14 : Int) (s17 : Int) : slices_symMergeCmpFunc_1_c21 (k + 1) s0 s14 s17 =
  cond (decide (s17 > s14)) (
    cond (decide (0 ≤ (wi64 (s17 - 1)))) (
    cond (decide ((wi64 (s17 - 1)) < (s0.length : Int))) (
    cond (decide (0 ≤ s17)) (
    cond (decide (s17 < (s0.length : Int))) (
    cond (decide (0 ≤ s17)) (
    cond (decide (s17 < (s0.length : Int))) (
    cond (decide (0 ≤ (wi64 (s17 - 1)))) (
    cond (decide ((wi64 (s17 - 1)) < ((s0.set s17.toNat (((s0.getD (wi64 (s17 - 1)).toNat (0, (0, (false, [])))).1), ((((s0.getD (wi64 (s17 - 1)).toNat (0, (0, (false, [])))).2).1), (((((s0.getD (wi64 (s17 - 1)).toNat (0, (0, (false, [])))).2).2).1), ((((s0.getD (wi64 (s17 - 1)).toNat (0, (0, (false, [])))).2).2).2))))).length : Int))) (
    slices_symMergeCmpFunc_1_c21 k ((s0.set s17.toNat (((s0.getD (wi64 (s17 - 1)).toNat (0, (0, (false, [])))).1), ((((s0.getD (wi64 (s17 - 1)).toNat (0, (0, (false, [])))).2).1), (((((s0.getD (wi64 (s17 - 1)).toNat (0, (0, (false, [])))).2).2).1), ((((s0.getD (wi64 (s17 - 1)).toNat (0, (0, (false, [])))).2).2).2))))).set (wi64 (s17 - 1)).toNat (((s0.getD s17.toNat (0, (0, (false, [])))).1), ((((s0.getD s17.toNat (0, (0, (false, [])))).2).1), (((((s0.getD s17.toNat (0, (0, (false, [])))).2).2).1), ((((s0.getD s17.toNat (0, (0, (false, [])))).2).2).2))))) s14 (wi64 (s17 - 1))) none) none) none) none) none) none) none) none) (
    some s0) := by kernel_rfl
theorem slices_symMergeCmpFunc_1_c32_eq (k : Nat) (s0 : List (Int × Int × Bool × List Int)) (s1 : Int) (s2 : Int) (s3 : Int) (s4 : Unit) (s18 : Int) (s19 : Int) (s20 : Int) (s21 : Int) : slices_symMergeCmpFunc_1_c32 (k + 1) s0 s1 s2 s3 s4 s18 s19 s20 s21 =
  slices_symMergeCmpFunc_1_c33 k s0 s1 s2 s3 () s18 s19 s20 s21 (wi64 (s19 - 1)) := by kernel_rfl
theorem slices_symMergeCmpFunc_1_c33_eq (k : Nat) (s0 : List (Int × Int × Bool × List Int)) (s1 : Int) (s2 : Int) (s3 : Int) (s4 : Unit) (s18 : Int) (s19 : Int) (s20 : Int) (s21 : Int) (s22 : Int) : slices_symMergeCmpFunc_1_c33 (k + 1) s0 s1 s2 s3 s4 s18 s19 s20 s21 s22 =
  cond (decide (s20 < s21)) (
    cond (decide (0 ≤ (wi64 (s22 - (wi64 (shrI .u64 (wu64 (wi64 (s20 + s21))) 1)))))) (
    cond (decide ((wi64 (s22 - (wi64 (shrI .u64 (wu64 (wi64 (s20 + s21))) 1)))) < (s0.length : Int))) (
    cond (decide (0 ≤ (wi64 (shrI .u64 (wu64 (wi64 (s20 + s21))) 1)))) (
    cond (decide ((wi64 (shrI .u64 (wu64 (wi64 (s20 + s21))) 1)) < (s0.length : Int))) (
    (amount_Shares_1 k (((s0.getD (wi64 (s22 - (wi64 (shrI .u64 (wu64 (wi64 (s20 + s21))) 1)))).toNat (0, (0, (false, [])))).1), ((((s0.getD (wi64 (s22 - (wi64 (shrI .u64 (wu64 (wi64 (s20 + s21))) 1)))).toNat (0, (0, (false, [])))).2).1), (((((s0.getD (wi64 (s22 - (wi64 (shrI .u64 (wu64 (wi64 (s20 + s21))) 1)))).toNat (0, (0, (false, [])))).2).2).1), ((((s0.getD (wi64 (s22 - (wi64 (shrI .u64 (wu64 (wi64 (s20 + s21))) 1)))).toNat (0, (0, (false, [])))).2).2).2)))) (((s0.getD (wi64 (shrI .u64 (wu64 (wi64 (s20 + s21))) 1)).toNat (0, (0, (false, [])))).1), ((((s0.getD (wi64 (shrI .u64 (wu64 (wi64 (s20 + s21))) 1)).toNat (0, (0, (false, [])))).2).1), (((((s0.getD (wi64 (shrI .u64 (wu64 (wi64 (s20 + s21))) 1)).toNat (0, (0, (false, [])))).2).2).1), ((((s0.getD (wi64 (shrI .u64 (wu64 (wi64 (s20 + s21))) 1)).toNat (0, (0, (false, [])))).2).2).2))))).bind fun y2 =>
    cond (!(decide (y2 < 0))) (
      slices_symMergeCmpFunc_1_c33 k s0 s1 s2 s3 () s18 s19 (wi64 ((wi64 (shrI .u64 (wu64 (wi64 (s20 + s21))) 1)) + 1)) s21 s22) (
      slices_symMergeCmpFunc_1_c33 k s0 s1 s2 s3 () s18 s19 s20 (wi64 (shrI .u64 (wu64 (wi64 (s20 + s21))) 1)) s22)) none) none) none) none) (
    cond (cond (decide (s20 < s2)) (decide (s2 < (wi64 (s19 - s20)))) false) (
      (slices_rotateCmpFunc_1 k s0 s20 s2 (wi64 (s19 - s20)) ()).bind fun y3 =>
      cond (cond (decide (s1 < s20)) (decide (s20 < s18)) false) (
        (slices_symMergeCmpFunc_1 k y3 s1 s20 s18 ()).bind fun y4 =>
        cond (cond (decide (s18 < (wi64 (s19 - s20)))) (decide ((wi64 (s19 - s20)) < s3)) false) (
          (slices_symMergeCmpFunc_1 k y4 s18 (wi64 (s19 - s20)) s3 ()).bind fun y5 =>
          some y5) (
          some y4)) (
        cond (cond (decide (s18 < (wi64 (s19 - s20)))) (decide ((wi64 (s19 - s20)) < s3)) false) (
          (slices_symMergeCmpFunc_1 k y3 s18 (wi64 (s19 - s20)) s3 ()).bind fun y6 =>
          some y6) (
          some y3))) (
      cond (cond (decide (s1 < s20)) (decide (s20 < s18)) false) (
        (slices_symMergeCmpFunc_1 k s0 s1 s20 s18 ()).bind fun y7 =>
        cond (cond (decide (s18 < (wi64 (s19 - s20)))) (decide ((wi64 (s19 - s20)) < s3)) false) (
          (slices_symMergeCmpFunc_1 k y7 s18 (wi64 (s19 - s20)) s3 ()).bind fun y8 =>
          some y8) (
          some y7)) (
        cond (cond (decide (s18 < (wi64 (s19 - s20)))) (decide ((wi64 (s19 - s20)) < s3)) false) (
          (slices_symMergeCmpFunc_1 k s0 s18 (wi64 (s19 - s20)) s3 ()).bind fun y9 =>
          some y9) (
          some s0)))) := by kernel_rfl
/-- slices.stableCmpFunc[interchange/amount.share] -/
noncomputable def slices_stableCmpFunc_1 (k : Nat) (a : List (Int × Int × Bool × List Int)) (b : Int) (c : Unit) : Option (List (Int × Int × Bool × List Int)) := callA P A k 100096 (a, b, c)
noncomputable def slices_stableCmpFunc_1_c2 (k : Nat) (s0 : List (Int × Int × Bool × List Int)) (s1 : Int) (s2 : Unit) (s6 : Int) (s7 : Int) (s8 : Int) : Option (List (Int × Int × Bool × List Int)) := cutA P A k 100096 (todoAt P A 100096 2) [(0, (.own 91 (.pair (.int .i64) (.pair (.int .i64) (.pair .bool (.sl (.int .u32))))))), (1, (.byv (.int .i64))), (2, (.fn 78 [])), (6, (.byv (.int .i64))), (7, (.byv (.int .i64))), (8, (.byv (.int .i64)))] (s0, s1, s2, s6, s7, s8)
noncomputable def slices_stableCmpFunc_1_c7 (k : Nat) (s0 : List (Int × Int × Bool × List Int)) (s1 : Int) (s2 : Unit) (s6 : Int) : Option (List (Int × Int × Bool × List Int)) := cutA P A k 100096 (todoAt P A 100096 7) [(0, (.own 91 (.pair (.int .i64) (.pair (.int .i64) (.pair .bool (.sl (.int .u32))))))), (1, (.byv (.int .i64))), (2, (.fn 78 [])), (6, (.byv (.int .i64)))] (s0, s1, s2, s6)
noncomputable def slices_stableCmpFunc_1_c9 (k : Nat) (s0 : List (Int × Int × Bool × List Int)) (s1 : Int) (s2 : Unit) (s6 : Int) (s7 : Int) (s8 : Int) : Option (List (Int × Int × Bool × List Int)) := cutA P A k 100096 (todoAt P A 100096 9) [(0, (.own 91 (.pair (.int .i64) (.pair (.int .i64) (.pair .bool (.sl (.int .u32))))))), (1, (.byv (.int .i64))), (2, (.fn 78 [])), (6, (.byv (.int .i64))), (7, (.byv (.int .i64))), (8, (.byv (.int .i64)))] (s0, s1, s2, s6, s7, s8)
theorem slices_stableCmpFunc_1_eq (k : Nat) (a : List (Int × Int × Bool × List Int)) (b : Int) (c : Unit) : slices_stableCmpFunc_1 (k + 1) a b c =
  slices_stableCmpFunc_1_c2 k a b () 20 0 20 := by kernel_rfl
theorem slices_stableCmpFunc_1_c2_eq (k : Nat) (s0 : List (Int × Int × Bool × List Int)) (s1 : Int) (s2 : Unit) (s6 : Int) (s7 : Int) (s8 : Int) : slices_stableCmpFunc_1_c2 (k + 1) s0 s1 s2 s6 s7 s8 =
  cond (decide (s8 ≤ s1)) (
    (slices_insertionSortCmpFunc_1 k s0 s7 s8 ()).bind fun y0 =>
    slices_stableCmpFunc_1_c2 k y0 s1 () s6 s8 (wi64 (s8 + s6))) (
    (slices_insertionSortCmpFunc_1 k s0 s7 s1 ()).bind fun y1 =>
    slices_stableCmpFunc_1_c7 k y1 s1 () s6) := by kernel_rfl
theorem slices_stableCmpFunc_1_c7_eq (k : Nat) (s0 : List (Int × Int × Bool × List Int)) (s1 : Int) (s2 : Unit) (s6 : Int) : slices_stableCmpFunc_1_c7 (k + 1) s0 s1 s2 s6 =
  cond (decide (s6 < s1)) (
    slices_stableCmpFunc_1_c9 k s0 s1 () s6 0 (wi64 (2 * s6))) (
    some s0) := by kernel_rfl
theorem slices_stableCmpFunc_1_c9_eq (k : Nat) (s0 : List (Int × Int × Bool × List Int)) (s1 : Int) (s2 : Unit) (s6 : Int) (s7 : Int) (s8 : Int) : slices_stableCmpFunc_1_c9 (k + 1) s0 s1 s2 s6 s7 s8 =
  cond (decide (s8 ≤ s1)) (
    (slices_symMergeCmpFunc_1 k s0 s7 (wi64 (s7 + s6)) s8 ()).bind fun y2 =>
    slices_stableCmpFunc_1_c9 k y2 s1 () s6 s8 (wi64 (s8 + (wi64 (2 * s6))))) (
    cond (decide ((wi64 (s7 + s6)) < s1)) (
      (slices_symMergeCmpFunc_1 k s0 s7 (wi64 (s7 + s6)) s1 ()).bind fun y3 =>
      slices_stableCmpFunc_1_c7 k y3 s1 () (wi64 (s6 * 2))) (
      slices_stableCmpFunc_1_c7 k s0 s1 () (wi64 (s6 * 2)))) := by kernel_rfl
/-- slices.SortStableFunc[[]interchange/amount.share,interchange/amount.share] -/
noncomputable def slices_SortStableFunc_1 (k : Nat) (a : List (Int × Int × Bool × List Int)) (b : Unit) : Option (List (Int × Int × Bool × List Int)) := callA P A k 100077 (a, b)
theorem slices_SortStableFunc_1_eq (k : Nat) (a : List (Int × Int × Bool × List Int)) (b : Unit) : slices_SortStableFunc_1 (k + 1) a b =
  (slices_stableCmpFunc_1 k a (a.length : Int) ()).bind fun y0 =>
  some y0 := by kernel_rfl
/-- interchange/amount.Shares -/
noncomputable def amount_Shares (k : Nat) (a : Int × Int) (b : List Int) : Option ((List (Int × Int)) × Int) := callA P A k 38 (a, b)
noncomputable def amount_Shares_c9 (k : Nat) (s1 : List Int) (s2 : Int × Int) (s8 : Int) (s33 : List Int) (s34 : Int) (s35 : Int) : Option ((List (Int × Int)) × Int) := cutA P A k 38 (todoAt P A 38 9) [(1, (.byv (.sl (.int .i64)))), (2, (.box 24 [(.byv (.int .i64)), (.byv (.int .i64))])), (8, (.byv (.int .i64))), (33, (.byv (.sl (.int .i64)))), (34, (.byv (.int .i64))), (35, (.byv (.int .i64)))] (s1, s2, s8, s33, s34, s35)
noncomputable def amount_Shares_c17 (k : Nat) (s2 : Int × Int) (s8 : Int) (s11 : Int) (s12 : Int) (s13 : List (Int × Int × Bool × List Int)) (s50 : List Int) (s51 : Int) (s52 : Int) : Option ((List (Int × Int)) × Int) := cutA P A k 38 (todoAt P A 38 17) [(2, (.box 24 [(.byv (.int .i64)), (.byv (.int .i64))])), (8, (.byv (.int .i64))), (11, (.byv (.int .i64))), (12, (.byv (.int .i64))), (13, (.own 91 (.pair (.int .i64) (.pair (.int .i64) (.pair .bool (.sl (.int .u32))))))), (50, (.byv (.sl (.int .i64)))), (51, (.byv (.int .i64))), (52, (.byv (.int .i64)))] (s2, s8, s11, s12, s13, s50, s51, s52)
noncomputable def amount_Shares_c27 (k : Nat) (s2 : Int × Int) (s12 : Int) (s20 : List (Int × Int)) (s89 : List (Int × Int × Bool × List Int)) (s90 : Int) (s91 : Int) : Option ((List (Int × Int)) × Int) := cutA P A k 38 (todoAt P A 38 27) [(2, (.box 24 [(.byv (.int .i64)), (.byv (.int .i64))])), (12, (.byv (.int .i64))), (20, (.own 24 (.pair (.int .i64) (.int .i64)))), (89, (.own 91 (.pair (.int .i64) (.pair (.int .i64) (.pair .bool (.sl (.int .u32))))))), (90, (.byv (.int .i64))), (91, (.byv (.int .i64)))] (s2, s12, s20, s89, s90, s91)
theorem amount_Shares_eq (k : Nat) (a : Int × Int) (b : List Int) : amount_Shares (k + 1) a b =
  (amount_CheckDecimal k a).bind fun y0 =>
  cond (y0 != 0) (
    some ([], y0)) (
    (amount_weightsFault k b).bind fun y1 =>
    cond (y1 != 0) (
      some ([], y1)) (
      amount_Shares_c9 k b a 0 b (b.length : Int) 0)) := by kernel_rfl
theorem amount_Shares_c9_eq (k : Nat) (s1 : List Int) (s2 : Int × Int) (s8 : Int) (s33 : List Int) (s34 : Int) (s35 : Int) : amount_Shares_c9 (k + 1) s1 s2 s8 s33 s34 s35 =
  cond (decide (s35 < s34)) (
    cond (decide (0 ≤ s35)) (
    cond (decide (s35 < (s33.length : Int))) (
    amount_Shares_c9 k s1 s2 (wi64 (s8 + (s33.getD s35.toNat 0))) s33 s34 (wi64 (s35 + 1))) none) none) (
    amount_Shares_c17 k s2 s8 (maxI s2.1 (wi64 (0 - s2.1))) (maxI s2.1 (wi64 (0 - s2.1))) [] s1 (s1.length : Int) 0) := by kernel_rfl
theorem amount_Shares_c17_eq (k : Nat) (s2 : Int × Int) (s8 : Int) (s11 : Int) (s12 : Int) (s13 : List (Int × Int × Bool × List Int)) (s50 : List Int) (s51 : Int) (s52 : Int) : amount_Shares_c17 (k + 1) s2 s8 s11 s12 s13 s50 s51 s52 =
  cond (decide (s52 < s51)) (
    cond (decide (0 ≤ s52)) (
    cond (decide (s52 < (s50.length : Int))) (
    (whole_Of k s11).bind fun y2 =>
    (whole_Of k (s50.getD s52.toNat 0)).bind fun y3 =>
    (whole_Int_Times k y2 y3).bind fun y4 =>
    (whole_Of k s8).bind fun y5 =>
    (whole_Int_By k y4 y5).bind fun y6 =>
    (whole_Int_Int k y6.1 1000000000000000).bind fun y7 =>
    cond (decide (s13.length + 1 < 2932031007402)) (
    amount_Shares_c17 k s2 s8 s11 (wi64 (s12 - y7.1)) (s13 ++ [(s52, (y7.1, y6.2))]) s50 s51 (wi64 (s52 + 1))) none) none) none) (
    (slices_SortStableFunc_1 k s13 ()).bind fun y8 =>
    cond (decide (0 ≤ (y8.length : Int))) (
    cond (decide ((y8.length : Int).toNat ≤ 8796093022208)) (
    amount_Shares_c27 k s2 s12 (List.replicate (y8.length : Int).toNat (0, 0)) y8 (y8.length : Int) 0) none) none) := by kernel_rfl
theorem amount_Shares_c27_eq (k : Nat) (s2 : Int × Int) (s12 : Int) (s20 : List (Int × Int)) (s89 : List (Int × Int × Bool × List Int)) (s90 : Int) (s91 : Int) : amount_Shares_c27 (k + 1) s2 s12 s20 s89 s90 s91 =
  cond (decide (s91 < s90)) (
    cond (decide (0 ≤ s91)) (
    cond (decide (s91 < (s89.length : Int))) (
    cond (decide (s91 < s12)) (
      cond (decide (s2.1 < 0)) (
        cond (decide (0 ≤ ((s89.getD s91.toNat (0, (0, (false, [])))).1))) (
        cond (decide (((s89.getD s91.toNat (0, (0, (false, [])))).1) < (s20.length : Int))) (
        amount_Shares_c27 k s2 s12 (s20.set ((s89.getD s91.toNat (0, (0, (false, [])))).1).toNat ((wi64 (0 - (wi64 ((((s89.getD s91.toNat (0, (0, (false, [])))).2).1) + 1)))), s2.2)) s89 s90 (wi64 (s91 + 1))) none) none) (
        cond (decide (0 ≤ ((s89.getD s91.toNat (0, (0, (false, [])))).1))) (
        cond (decide (((s89.getD s91.toNat (0, (0, (false, [])))).1) < (s20.length : Int))) (
        amount_Shares_c27 k s2 s12 (s20.set ((s89.getD s91.toNat (0, (0, (false, [])))).1).toNat ((wi64 ((((s89.getD s91.toNat (0, (0, (false, [])))).2).1) + 1)), s2.2)) s89 s90 (wi64 (s91 + 1))) none) none)) (
      cond (decide (s2.1 < 0)) (
        cond (decide (0 ≤ ((s89.getD s91.toNat (0, (0, (false, [])))).1))) (
        cond (decide (((s89.getD s91.toNat (0, (0, (false, [])))).1) < (s20.length : Int))) (
        amount_Shares_c27 k s2 s12 (s20.set ((s89.getD s91.toNat (0, (0, (false, [])))).1).toNat ((wi64 (0 - (((s89.getD s91.toNat (0, (0, (false, [])))).2).1))), s2.2)) s89 s90 (wi64 (s91 + 1))) none) none) (
        cond (decide (0 ≤ ((s89.getD s91.toNat (0, (0, (false, [])))).1))) (
        cond (decide (((s89.getD s91.toNat (0, (0, (false, [])))).1) < (s20.length : Int))) (
        amount_Shares_c27 k s2 s12 (s20.set ((s89.getD s91.toNat (0, (0, (false, [])))).1).toNat ((((s89.getD s91.toNat (0, (0, (false, [])))).2).1), s2.2)) s89 s90 (wi64 (s91 + 1))) none) none))) none) none) (
    some (s20, 0)) := by kernel_rfl
/-- interchange/interchangelaw1.AmountSharesAddUp -/
noncomputable def interchangelaw1_AmountSharesAddUp (k : Nat) (a : Int × Int) (b : List Int) : Option Bool := callA P A k 9 (a, b)
noncomputable def interchangelaw1_AmountSharesAddUp_c8 (k : Nat) (s1 : List Int) (s2 : Int × Int) (s5 : List (Int × Int)) (s7 : Int) (s8 : Int) (s37 : List Int) (s38 : Int) (s39 : Int) : Option Bool := cutA P A k 9 (todoAt P A 9 8) [(1, (.byv (.sl (.int .i64)))), (2, (.box 24 [(.byv (.int .i64)), (.byv (.int .i64))])), (5, (.own 24 (.pair (.int .i64) (.int .i64)))), (7, (.byv (.int .i64))), (8, (.byv (.int .i64))), (37, (.byv (.sl (.int .i64)))), (38, (.byv (.int .i64))), (39, (.byv (.int .i64)))] (s1, s2, s5, s7, s8, s37, s38, s39)
noncomputable def interchangelaw1_AmountSharesAddUp_c15 (k : Nat) (s2 : Int × Int) (s5 : List (Int × Int)) (s7 : Int) (s8 : Int) (s75 : List Int) (s76 : Int) (s77 : Int) : Option Bool := cutA P A k 9 (todoAt P A 9 15) [(2, (.box 24 [(.byv (.int .i64)), (.byv (.int .i64))])), (5, (.own 24 (.pair (.int .i64) (.int .i64)))), (7, (.byv (.int .i64))), (8, (.byv (.int .i64))), (75, (.byv (.sl (.int .i64)))), (76, (.byv (.int .i64))), (77, (.byv (.int .i64)))] (s2, s5, s7, s8, s75, s76, s77)
theorem interchangelaw1_AmountSharesAddUp_eq (k : Nat) (a : Int × Int) (b : List Int) : interchangelaw1_AmountSharesAddUp (k + 1) a b =
  (amount_Shares k a b).bind fun y0 =>
  cond (y0.2 != 0) (
    (cond ((y0.1.length : Int) == 0) (interchangelaw1_awake k) (some false)).bind fun y1 =>
    some (cond ((y0.1.length : Int) == 0) y1 false)) (
    (cond (!((y0.1.length : Int) != (b.length : Int))) (interchangelaw1_awake k) (some false)).bind fun y2 =>
    cond (cond ((y0.1.length : Int) != (b.length : Int)) true (!y2)) (
      some false) (
      interchangelaw1_AmountSharesAddUp_c8 k b a y0.1 0 0 b (b.length : Int) 0)) := by kernel_rfl
theorem interchangelaw1_AmountSharesAddUp_c8_eq (k : Nat) (s1 : List Int) (s2 : Int × Int) (s5 : List (Int × Int)) (s7 : Int) (s8 : Int) (s37 : List Int) (s38 : Int) (s39 : Int) : interchangelaw1_AmountSharesAddUp_c8 (k + 1) s1 s2 s5 s7 s8 s37 s38 s39 =
  cond (decide (s39 < s38)) (
    cond (decide (0 ≤ s39)) (
    cond (decide (s39 < (s37.length : Int))) (
    cond (decide (0 ≤ s39)) (
    cond (decide (s39 < (s5.length : Int))) (
    cond ((!((!(((s5.getD s39.toNat (0, 0)).2) != s2.2)) && ((s37.getD s39.toNat 0) == 0))) || (decide (0 ≤ s39))) (
    cond ((!((!(((s5.getD s39.toNat (0, 0)).2) != s2.2)) && ((s37.getD s39.toNat 0) == 0))) || (decide (s39 < (s5.length : Int)))) (
    cond (cond (((s5.getD s39.toNat (0, 0)).2) != s2.2) true (cond ((s37.getD s39.toNat 0) == 0) (((s5.getD s39.toNat (0, 0)).1) != 0) false)) (
      some false) (
      cond (decide (0 ≤ s39)) (
      cond (decide (s39 < (s5.length : Int))) (
      interchangelaw1_AmountSharesAddUp_c8 k s1 s2 s5 (wi64 (s7 + ((s5.getD s39.toNat (0, 0)).1))) (wi64 (s8 + (s37.getD s39.toNat 0))) s37 s38 (wi64 (s39 + 1))) none) none)) none) none) none) none) none) none) (
    interchangelaw1_AmountSharesAddUp_c15 k s2 s5 s7 s8 s1 (s1.length : Int) 0) := by kernel_rfl
theorem interchangelaw1_AmountSharesAddUp_c15_eq (k : Nat) (s2 : Int × Int) (s5 : List (Int × Int)) (s7 : Int) (s8 : Int) (s75 : List Int) (s76 : Int) (s77 : Int) : interchangelaw1_AmountSharesAddUp_c15 (k + 1) s2 s5 s7 s8 s75 s76 s77 =
  cond (decide (s77 < s76)) (
    cond (decide (0 ≤ s77)) (
    cond (decide (s77 < (s75.length : Int))) (
    cond (decide (0 ≤ s77)) (
    cond (decide (s77 < (s5.length : Int))) (
    (interchangeref1_Of k ((s5.getD s77.toNat (0, 0)).1)).bind fun y3 =>
    (interchangeref1_Of k s8).bind fun y4 =>
    (interchangeref1_TimesOf k y3 y4).bind fun y5 =>
    (interchangeref1_Of k s2.1).bind fun y6 =>
    (interchangeref1_Of k (s75.getD s77.toNat 0)).bind fun y7 =>
    (interchangeref1_TimesOf k y6 y7).bind fun y8 =>
    (interchangeref1_Minus k y8).bind fun y9 =>
    (interchangeref1_Plus k y5 y9).bind fun y10 =>
    (interchangeref1_Of k s8).bind fun y11 =>
    (interchangeref1_Cmp k (false, y10.2) y11).bind fun y12 =>
    cond (decide (y12 ≥ 0)) (
      some false) (
      interchangelaw1_AmountSharesAddUp_c15 k s2 s5 s7 s8 s75 s76 (wi64 (s77 + 1)))) none) none) none) none) (
    some (s7 == s2.1)) := by kernel_rfl
/-- interchange/interchangeref1.Shares -/
noncomputable def interchangeref1_Shares (k : Nat) (a : Int × Int) (b : List Int) : Option ((List (Int × Int)) × Int) := callA P A k 41 (a, b)
noncomputable def interchangeref1_Shares_c9 (k : Nat) (s1 : List Int) (s2 : Int × Int) (s6 : Int) (s32 : List Int) (s33 : Int) (s34 : Int) : Option ((List (Int × Int)) × Int) := cutA P A k 41 (todoAt P A 41 9) [(1, (.byv (.sl (.int .i64)))), (2, (.box 24 [(.byv (.int .i64)), (.byv (.int .i64))])), (6, (.byv (.int .i64))), (32, (.byv (.sl (.int .i64)))), (33, (.byv (.int .i64))), (34, (.byv (.int .i64)))] (s1, s2, s6, s32, s33, s34)
noncomputable def interchangeref1_Shares_c22 (k : Nat) (s2 : Int × Int) (s6 : Int) (s9 : Int) (s10 : List (Int × Int)) (s11 : List Int) (s12 : Int) (s60 : List Int) (s61 : Int) (s62 : Int) : Option ((List (Int × Int)) × Int) := cutA P A k 41 (todoAt P A 41 22) [(2, (.box 24 [(.byv (.int .i64)), (.byv (.int .i64))])), (6, (.byv (.int .i64))), (9, (.byv (.int .i64))), (10, (.own 24 (.pair (.int .i64) (.int .i64)))), (11, (.own 3 (.int .i64))), (12, (.byv (.int .i64))), (60, (.byv (.sl (.int .i64)))), (61, (.byv (.int .i64))), (62, (.byv (.int .i64)))] (s2, s6, s9, s10, s11, s12, s60, s61, s62)
noncomputable def interchangeref1_Shares_c30 (k : Nat) (s2 : Int × Int) (s10 : List (Int × Int)) (s11 : List Int) (s12 : Int) : Option ((List (Int × Int)) × Int) := cutA P A k 41 (todoAt P A 41 30) [(2, (.box 24 [(.byv (.int .i64)), (.byv (.int .i64))])), (10, (.own 24 (.pair (.int .i64) (.int .i64)))), (11, (.own 3 (.int .i64))), (12, (.byv (.int .i64)))] (s2, s10, s11, s12)
noncomputable def interchangeref1_Shares_c34 (k : Nat) (s2 : Int × Int) (s10 : List (Int × Int)) (s11 : List Int) (s12 : Int) (s19 : Int) (s107 : Int) (s108 : Int) : Option ((List (Int × Int)) × Int) := cutA P A k 41 (todoAt P A 41 34) [(2, (.box 24 [(.byv (.int .i64)), (.byv (.int .i64))])), (10, (.own 24 (.pair (.int .i64) (.int .i64)))), (11, (.own 3 (.int .i64))), (12, (.byv (.int .i64))), (19, (.byv (.int .i64))), (107, (.byv (.int .i64))), (108, (.byv (.int .i64)))] (s2, s10, s11, s12, s19, s107, s108)
noncomputable def interchangeref1_Shares_c38 (k : Nat) (s2 : Int × Int) (s10 : List (Int × Int)) (s11 : List Int) (s12 : Int) (s19 : Int) (s107 : Int) (s108 : Int) : Option ((List (Int × Int)) × Int) := cutA P A k 41 (todoAt P A 41 38) [(2, (.box 24 [(.byv (.int .i64)), (.byv (.int .i64))])), (10, (.own 24 (.pair (.int .i64) (.int .i64)))), (11, (.own 3 (.int .i64))), (12, (.byv (.int .i64))), (19, (.byv (.int .i64))), (107, (.byv (.int .i64))), (108, (.byv (.int .i64)))] (s2, s10, s11, s12, s19, s107, s108)
noncomputable def interchangeref1_Shares_c42 (k : Nat) (s2 : Int × Int) (s10 : List (Int × Int)) (s133 : Int) (s134 : Int) : Option ((List (Int × Int)) × Int) := cutA P A k 41 (todoAt P A 41 42) [(2, (.box 24 [(.byv (.int .i64)), (.byv (.int .i64))])), (10, (.own 24 (.pair (.int .i64) (.int .i64)))), (133, (.byv (.int .i64))), (134, (.byv (.int .i64)))] (s2, s10, s133, s134)
theorem interchangeref1_Shares_eq (k : Nat) (a : Int × Int) (b : List Int) : interchangeref1_Shares (k + 1) a b =
  (interchangeref1_CheckDecimal k a).bind fun y0 =>
  cond (y0 != 0) (
    some ([], 1)) (
    cond ((b.length : Int) == 0) (
      some ([], 9)) (
      cond (decide ((b.length : Int) > 1000)) (
        some ([], 2)) (
        interchangeref1_Shares_c9 k b a 0 b (b.length : Int) 0))) := by kernel_rfl
theorem interchangeref1_Shares_c9_eq (k : Nat) (s1 : List Int) (s2 : Int × Int) (s6 : Int) (s32 : List Int) (s33 : Int) (s34 : Int) : interchangeref1_Shares_c9 (k + 1) s1 s2 s6 s32 s33 s34 =
  cond (decide (s34 < s33)) (
    cond (decide (0 ≤ s34)) (
    cond (decide (s34 < (s32.length : Int))) (
    (interchangeref1_within k (s32.getD s34.toNat 0) 0 1000000000).bind fun y1 =>
    cond (!y1) (
      some ([], 1)) (
      interchangeref1_Shares_c9 k s1 s2 (wi64 (s6 + (s32.getD s34.toNat 0))) s32 s33 (wi64 (s34 + 1)))) none) none) (
    cond (s6 == 0) (
      some ([], 13)) (
      cond (decide (0 ≤ (s1.length : Int))) (
      cond (decide ((s1.length : Int).toNat ≤ 8796093022208)) (
      cond (decide (0 ≤ (s1.length : Int))) (
      cond (decide ((s1.length : Int).toNat ≤ 17592186044416)) (
      interchangeref1_Shares_c22 k s2 s6 (maxI s2.1 (wi64 (0 - s2.1))) (List.replicate (s1.length : Int).toNat (0, 0)) (List.replicate (s1.length : Int).toNat 0) (maxI s2.1 (wi64 (0 - s2.1))) s1 (s1.length : Int) 0) none) none) none) none)) := by kernel_rfl
theorem interchangeref1_Shares_c22_eq (k : Nat) (s2 : Int × Int) (s6 : Int) (s9 : Int) (s10 : List (Int × Int)) (s11 : List Int) (s12 : Int) (s60 : List Int) (s61 : Int) (s62 : Int) : interchangeref1_Shares_c22 (k + 1) s2 s6 s9 s10 s11 s12 s60 s61 s62 =
  cond (decide (s62 < s61)) (
    cond (decide (0 ≤ s62)) (
    cond (decide (s62 < (s60.length : Int))) (
    (interchangeref1_Of k s9).bind fun y2 =>
    (interchangeref1_Of k (s60.getD s62.toNat 0)).bind fun y3 =>
    (interchangeref1_TimesOf k y2 y3).bind fun y4 =>
    (interchangeref1_Of k s6).bind fun y5 =>
    (interchangeref1_DivMod k y4 y5).bind fun y6 =>
    (interchangeref1_Small k y6.1 1000000000000000).bind fun y7 =>
    (interchangeref1_Small k y6.2 1000000000000000).bind fun y8 =>
    cond (decide (0 ≤ s62)) (
    cond (decide (s62 < (s11.length : Int))) (
    cond (decide (0 ≤ s62)) (
    cond (decide (s62 < (s10.length : Int))) (
    interchangeref1_Shares_c22 k s2 s6 s9 (s10.set s62.toNat (y7.1, s2.2)) (s11.set s62.toNat y8.1) (wi64 (s12 - y7.1)) s60 s61 (wi64 (s62 + 1))) none) none) none) none) none) none) (
    interchangeref1_Shares_c30 k s2 s10 s11 s12) := by kernel_rfl
theorem interchangeref1_Shares_c30_eq (k : Nat) (s2 : Int × Int) (s10 : List (Int × Int)) (s11 : List Int) (s12 : Int) : interchangeref1_Shares_c30 (k + 1) s2 s10 s11 s12 =
  cond (decide (s12 > 0)) (
    interchangeref1_Shares_c34 k s2 s10 s11 s12 0 (s11.length : Int) 0) (
    interchangeref1_Shares_c42 k s2 s10 (s10.length : Int) 0) := by kernel_rfl
theorem interchangeref1_Shares_c34_eq (k : Nat) (s2 : Int × Int) (s10 : List (Int × Int)) (s11 : List Int) (s12 : Int) (s19 : Int) (s107 : Int) (s108 : Int) : interchangeref1_Shares_c34 (k + 1) s2 s10 s11 s12 s19 s107 s108 =
  cond (decide (s108 < s107)) (
    cond (decide (0 ≤ s108)) (
    cond (decide (s108 < (s11.length : Int))) (
    cond (decide (0 ≤ s19)) (
    cond (decide (s19 < (s11.length : Int))) (
    cond (decide ((s11.getD s108.toNat 0) > (s11.getD s19.toNat 0))) (
      interchangeref1_Shares_c38 k s2 s10 s11 s12 s108 s107 s108) (
      interchangeref1_Shares_c38 k s2 s10 s11 s12 s19 s107 s108)) none) none) none) none) (
    cond (decide (0 ≤ s19)) (
    cond (decide (s19 < (s10.length : Int))) (
    cond (decide (0 ≤ s19)) (
    cond (decide (s19 < (s10.length : Int))) (
    cond (decide (0 ≤ s19)) (
    cond (decide (s19 < (s11.length : Int))) (
    interchangeref1_Shares_c30 k s2 (s10.set s19.toNat ((wi64 (((s10.getD s19.toNat (0, 0)).1) + 1)), ((s10.getD s19.toNat (0, 0)).2))) (s11.set s19.toNat (-1)) (wi64 (s12 - 1))) none) none) none) none) none) none) := by kernel_rfl
theorem interchangeref1_Shares_c38_eq (k : Nat) (s2 : Int × Int) (s10 : List (Int × Int)) (s11 : List Int) (s12 : Int) (s19 : Int) (s107 : Int) (s108 : Int) : interchangeref1_Shares_c38 (k + 1) s2 s10 s11 s12 s19 s107 s108 =
  interchangeref1_Shares_c34 k s2 s10 s11 s12 s19 s107 (wi64 (s108 + 1)) := by kernel_rfl
theorem interchangeref1_Shares_c42_eq (k : Nat) (s2 : Int × Int) (s10 : List (Int × Int)) (s133 : Int) (s134 : Int) : interchangeref1_Shares_c42 (k + 1) s2 s10 s133 s134 =
  cond (decide (s134 < s133)) (
    cond (decide (s2.1 < 0)) (
      cond (decide (0 ≤ s134)) (
      cond (decide (s134 < (s10.length : Int))) (
      cond (decide (0 ≤ s134)) (
      cond (decide (s134 < (s10.length : Int))) (
      interchangeref1_Shares_c42 k s2 (s10.set s134.toNat ((wi64 (0 - ((s10.getD s134.toNat (0, 0)).1))), ((s10.getD s134.toNat (0, 0)).2))) s133 (wi64 (s134 + 1))) none) none) none) none) (
      interchangeref1_Shares_c42 k s2 s10 s133 (wi64 (s134 + 1)))) (
    some (s10, 0)) := by kernel_rfl
/-- slices.Equal[[]interchange/api.Decimal,interchange/api.Decimal] -/
noncomputable def slices_Equal (k : Nat) (a : List (Int × Int)) (b : List (Int × Int)) : Option Bool := callA P A k 42 (a, b)
noncomputable def slices_Equal_c4 (k : Nat) (s0 : List (Int × Int)) (s1 : List (Int × Int)) (s12 : Int) (s13 : Int) : Option Bool := cutA P A k 42 (todoAt P A 42 4) [(0, (.byv (.sl (.pair (.int .i64) (.int .i64))))), (1, (.byv (.sl (.pair (.int .i64) (.int .i64))))), (12, (.byv (.int .i64))), (13, (.byv (.int .i64)))] (s0, s1, s12, s13)
theorem slices_Equal_eq (k : Nat) (a : List (Int × Int)) (b : List (Int × Int)) : slices_Equal (k + 1) a b =
  cond ((a.length : Int) != (b.length : Int)) (
    some false) (
    slices_Equal_c4 k a b (a.length : Int) 0) := by kernel_rfl
theorem slices_Equal_c4_eq (k : Nat) (s0 : List (Int × Int)) (s1 : List (Int × Int)) (s12 : Int) (s13 : Int) : slices_Equal_c4 (k + 1) s0 s1 s12 s13 =
  cond (decide (s13 < s12)) (
    cond (decide (0 ≤ s13)) (
    cond (decide (s13 < (s0.length : Int))) (
    cond (decide (0 ≤ s13)) (
    cond (decide (s13 < (s1.length : Int))) (
    cond (!((((s0.getD s13.toNat (0, 0)).1) == ((s1.getD s13.toNat (0, 0)).1)) && ((((s0.getD s13.toNat (0, 0)).2) == ((s1.getD s13.toNat (0, 0)).2)) && true))) (
      some false) (
      slices_Equal_c4 k s0 s1 s12 (wi64 (s13 + 1)))) none) none) none) none) (
    some true) := by kernel_rfl
/-- interchange/interchangelaw1.AmountSharesMatchSpec -/
noncomputable def interchangelaw1_AmountSharesMatchSpec (k : Nat) (a : Int × Int) (b : List Int) : Option Bool := callA P A k 10 (a, b)
theorem interchangelaw1_AmountSharesMatchSpec_eq (k : Nat) (a : Int × Int) (b : List Int) : interchangelaw1_AmountSharesMatchSpec (k + 1) a b =
  (interchangeref1_Shares k a b).bind fun y0 =>
  (amount_Shares k a b).bind fun y1 =>
  (cond (y1.2 == y0.2) (slices_Equal k y1.1 y0.1) (some false)).bind fun y2 =>
  (cond (cond (y1.2 == y0.2) y2 false) (interchangelaw1_awake k) (some false)).bind fun y3 =>
  some (cond (cond (y1.2 == y0.2) y2 false) y3 false) := by kernel_rfl
end Go.Proofs.Ytoiahmmockgcbaa.Eq
