/- The functions that these laws reach: how their calls are read, and the equations that they obey. Printed by a program of this session's own; Lean checks each equation. -/
import Derived.Test.YtebdajjgicfcaaaGreatDoorK1
import Derived.Test.YtebdajjgicfcaaaGreatDoorProg
import Derived.KernelRfl
import Derived.Lib.Bytealg
import Derived.Lib.SlTrimSet
import Derived.Lib.ItoaNum
import Derived.Lib.Split
import Derived.Lib.Repeat
import Derived.Lib.Replace
import Derived.Lib.Atoi
namespace Go.Proofs.YtebdajjgicfcaaaGreatDoor.Eq
open Go Go.Ra
set_option linter.unusedVariables false
abbrev QC : Type := ByteArray × Int × Int × Int × Int × Bool × Int × Bool
abbrev QK : Type := ByteArray × List QC × Int × ByteArray
abbrev QF : Type := Int × Int × List QK × ByteArray × ByteArray × ByteArray × ByteArray
abbrev QR : Type := ByteArray × List ByteArray
abbrev eF : EK := (.pair (.int .u8) (.pair (.int .u8) (.pair (.sl (.pair .str (.pair (.sl (.pair .str (.pair (.int .i64) (.pair (.int .i64) (.pair (.int .i64) (.pair (.int .i64) (.pair .bool (.pair (.int .u8) .bool)))))))) (.pair (.int .i64) .str)))) (.pair .str (.pair .str (.pair .str .str))))))
abbrev eK : EK := (.pair .str (.pair (.sl (.pair .str (.pair (.int .i64) (.pair (.int .i64) (.pair (.int .i64) (.pair (.int .i64) (.pair .bool (.pair (.int .u8) .bool)))))))) (.pair (.int .i64) .str)))
abbrev eC : EK := (.pair .str (.pair (.int .i64) (.pair (.int .i64) (.pair (.int .i64) (.pair (.int .i64) (.pair .bool (.pair (.int .u8) .bool)))))))
abbrev eR : EK := (.pair .str (.sl .str))
def var5 : Var := ⟨5, [(.byv eF), (.byv (.sl eR))], [(.byv .bool)], fun _ => none, fun _ _ => false, fun _ _ => none, fun _ => [], 0⟩
def var9 : Var := ⟨9, [(.byv (.sl eR)), (.byv (.sl eR))], [(.byv .bool)], fun r => if r = 4 then some [(0, (.byv (.sl eR))), (1, (.byv (.sl eR))), (12, (.byv (.int .i64))), (13, (.byv (.int .i64)))] else none, fun _ _ => false, fun _ _ => none, fun _ => [], 0⟩
def var10 : Var := ⟨10, [], [(.byv .bool)], fun _ => none, fun _ _ => false, fun _ _ => none, fun _ => [], 0⟩
def var12 : Var := ⟨12, [(.byv eF), (.byv (.sl eR))], [(.own 27 eR), (.byv (.int .i64))], fun r => if r = 19 then some [(1, (.byv (.sl eR))), (2, (.box 24 [(.byv (.int .u8)), (.byv (.int .u8)), (.byv (.sl eK)), (.byv .str), (.byv .str), (.byv .str), (.byv .str)])), (9, (.box 57 [(.byv .str), (.byv (.sl eC)), (.byv (.int .i64)), (.byv .str)])), (11, (.box 27 [(.byv .str), (.own 9 .str)])), (12, (.byv (.sl eR)))] else if r = 24 then some [(1, (.byv (.sl eR))), (2, (.box 24 [(.byv (.int .u8)), (.byv (.int .u8)), (.byv (.sl eK)), (.byv .str), (.byv .str), (.byv .str), (.byv .str)])), (9, (.box 57 [(.byv .str), (.byv (.sl eC)), (.byv (.int .i64)), (.byv .str)])), (11, (.box 27 [(.byv .str), (.own 9 .str)])), (12, (.byv (.sl eR)))] else none, fun _ _ => false, fun _ _ => none, fun _ => [], 0⟩
def var13 : Var := ⟨13, [(.byv eF), (.byv (.sl eR))], [(.byv (.int .i64)), (.byv (.int .i64))], fun _ => none, fun _ _ => false, fun _ _ => none, fun _ => [], 0⟩
def var14 : Var := ⟨14, [(.byv eF), (.byv (.sl eR))], [(.byv (.int .i64)), (.byv (.int .i64))], fun _ => none, fun _ _ => false, fun r i => if r = 8 ∧ i = 14 then some 100030 else none, fun _ => [], 0⟩
def var22 : Var := ⟨22, [(.byv eF)], [(.byv (.int .i64))], fun r => if r = 9 then some [(1, (.box 24 [(.byv (.int .u8)), (.byv (.int .u8)), (.byv (.sl eK)), (.byv .str), (.byv .str), (.byv .str), (.byv .str)])), (21, (.byv (.int .i64))), (22, (.byv (.int .i64)))] else none, fun _ _ => false, fun _ _ => none, fun _ => [], 0⟩
def var24 : Var := ⟨24, [(.byv (.sl .str)), (.byv (.sl .str))], [(.byv .bool)], fun r => if r = 4 then some [(0, (.byv (.sl .str))), (1, (.byv (.sl .str))), (12, (.byv (.int .i64))), (13, (.byv (.int .i64)))] else none, fun _ _ => false, fun _ _ => none, fun _ => [], 0⟩
def var25 : Var := ⟨25, [(.byv .str)], [(.byv eF), (.byv (.int .i64)), (.byv (.int .i64))], fun r => if r = 6 then some [(2, (.box 24 [(.byv (.int .u8)), (.byv (.int .u8)), (.own 57 eK), (.byv .str), (.byv .str), (.byv .str), (.byv .str)])), (5, (.own 9 .str)), (6, (.byv .bool)), (21, (.box 98 [(.byv (.int .u8)), (.byv (.int .u8)), (.own 57 eK), (.byv .str), (.byv .str), (.byv .str), (.byv .str), (.byv .bool), (.byv .bool)])), (23, (.byv (.int .i64))), (24, (.byv (.int .i64)))] else none, fun _ _ => false, fun r i => if r = 8 ∧ i = 2 then some 100058 else none, fun r => if r = 6 then [(7, 100021), (22, 5)] else [], 0⟩
def var28 : Var := ⟨28, [(.byv eF), (.byv (.sl eR))], [(.byv (.int .i64)), (.byv (.int .i64))], fun r => if r = 2 then some [(2, (.box 24 [(.byv (.int .u8)), (.byv (.int .u8)), (.byv (.sl eK)), (.byv .str), (.byv .str), (.byv .str), (.byv .str)])), (10, (.byv (.sl eR))), (11, (.byv (.int .i64))), (12, (.byv (.int .i64)))] else none, fun _ _ => false, fun _ _ => none, fun _ => [], 0⟩
def var29 : Var := ⟨29, [(.byv eF), (.byv (.sl eR))], [(.byv .bool)], fun _ => none, fun _ _ => false, fun r i => if r = 1 ∧ i = 6 then some 100061 else none, fun _ => [], 0⟩
def var30 : Var := ⟨30, [(.byv eF), (.byv (.sl eR))], [(.own 27 eR)], fun r => if r = 3 then some [(2, (.box 24 [(.byv (.int .u8)), (.byv (.int .u8)), (.byv (.sl eK)), (.byv .str), (.byv .str), (.byv .str), (.byv .str)])), (5, (.own 27 eR)), (8, (.byv (.sl eR))), (9, (.byv (.int .i64))), (10, (.byv (.int .i64)))] else none, fun _ _ => false, fun _ _ => none, fun _ => [], 0⟩
def var31 : Var := ⟨31, [(.byv eF), (.byv .str)], [(.byv eK), (.byv .bool)], fun _ => none, fun _ _ => false, fun r i => if r = 1 ∧ i = 3 then some 300063 else none, fun _ => [], 0⟩
def var32 : Var := ⟨32, [(.byv (.sl .str))], [(.own 9 .str)], fun _ => none, fun _ _ => false, fun _ _ => none, fun _ => [], 0⟩
def var33 : Var := ⟨33, [(.byv eF), (.byv (.sl eR)), (.byv .str), (.byv .str)], [(.byv (.pair (.int .i64) (.int .i64))), (.byv (.int .i64))], fun r => if r = 3 then some [(2, (.byv .str)), (3, (.byv .str)), (4, (.box 24 [(.byv (.int .u8)), (.byv (.int .u8)), (.byv (.sl eK)), (.byv .str), (.byv .str), (.byv .str), (.byv .str)])), (8, (.box 62 [(.byv (.int .i64)), (.byv (.int .i64))])), (10, (.box 107 [(.byv .bool), (.byv (.sl (.int .u32)))])), (19, (.byv (.sl eR))), (20, (.byv (.int .i64))), (21, (.byv (.int .i64)))] else none, fun _ _ => false, fun _ _ => none, fun _ => [], 0⟩
def var34 : Var := ⟨34, [(.byv (.pair (.int .i64) (.int .i64)))], [(.byv .str)], fun _ => none, fun _ _ => false, fun _ _ => none, fun _ => [], 0⟩
def var35 : Var := ⟨35, [(.byv eK), (.byv .str)], [(.byv (.int .i64))], fun _ => none, fun _ _ => false, fun r i => if r = 1 ∧ i = 3 then some 200071 else none, fun _ => [], 0⟩
def var36 : Var := ⟨36, [(.byv (.int .i64))], [(.byv .str)], fun _ => none, fun _ _ => false, fun _ _ => none, fun _ => [], 0⟩
def var37 : Var := ⟨37, [(.byv eF), (.byv eR)], [(.byv (.int .i64)), (.byv (.int .i64))], fun r => if r = 7 then some [(2, (.box 24 [(.byv (.int .u8)), (.byv (.int .u8)), (.byv (.sl eK)), (.byv .str), (.byv .str), (.byv .str), (.byv .str)])), (3, (.box 27 [(.byv .str), (.byv (.sl .str))])), (28, (.byv (.sl eC))), (29, (.byv (.int .i64))), (30, (.byv (.int .i64)))] else none, fun _ _ => false, fun _ _ => none, fun _ => [], 0⟩
def var38 : Var := ⟨38, [(.byv (.sl eR))], [(.own 27 eR)], fun r => if r = 3 then some [(0, (.own 27 eR)), (8, (.byv (.int .i64))), (9, (.byv (.int .i64)))] else none, fun _ _ => false, fun _ _ => none, fun r => if r = 3 then [(7, 0)] else [], 0⟩
def var39 : Var := ⟨39, [(.byv eF), (.byv (.sl eR))], [(.byv (.int .i64)), (.byv (.int .i64))], fun r => if r = 5 then some [(1, (.byv (.sl eR))), (2, (.box 24 [(.byv (.int .u8)), (.byv (.int .u8)), (.byv (.sl eK)), (.byv .str), (.byv .str), (.byv .str), (.byv .str)])), (21, (.byv (.int .i64))), (22, (.byv (.int .i64)))] else none, fun _ _ => false, fun _ _ => none, fun _ => [], 0⟩
def var40 : Var := ⟨40, [(.byv eF), (.byv eR)], [(.byv (.int .i64)), (.byv (.int .i64))], fun r => if r = 7 then some [(2, (.box 24 [(.byv (.int .u8)), (.byv (.int .u8)), (.byv (.sl eK)), (.byv .str), (.byv .str), (.byv .str), (.byv .str)])), (6, (.byv (.int .i64))), (28, (.byv (.sl .str))), (29, (.byv (.int .i64))), (30, (.byv (.int .i64)))] else none, fun _ _ => false, fun _ _ => none, fun _ => [], 0⟩
def var45 : Var := ⟨45, [(.byv .str), (.byv .str)], [(.byv .str), (.byv .str), (.byv .bool)], fun _ => none, fun _ _ => false, fun _ _ => none, fun _ => [], 0⟩
def var48 : Var := ⟨48, [(.byv eF), (.byv .str)], [(.byv (.int .i64))], fun r => if r = 2 then some [(1, (.byv .str)), (8, (.byv (.sl eK))), (9, (.byv (.int .i64))), (10, (.byv (.int .i64)))] else none, fun _ _ => false, fun _ _ => none, fun _ => [], 0⟩
def var51 : Var := ⟨51, [(.byv eF)], [(.byv (.int .i64))], fun _ => none, fun _ _ => false, fun _ _ => none, fun _ => [], 0⟩
def var52 : Var := ⟨52, [(.byv eF), (.byv (.int .i64))], [(.byv (.int .i64))], fun r => if r = 12 then some [(1, (.byv (.int .i64))), (2, (.box 24 [(.byv (.int .u8)), (.byv (.int .u8)), (.byv (.sl eK)), (.byv .str), (.byv .str), (.byv .str), (.byv .str)])), (5, (.box 57 [(.byv .str), (.byv (.sl eC)), (.byv (.int .i64)), (.byv .str)])), (62, (.byv (.sl eC))), (63, (.byv (.int .i64))), (64, (.byv (.int .i64)))] else none, fun _ _ => false, fun r i => if r = 5 ∧ i = 5 then some 100094 else if r = 20 ∧ i = 9 then some 200094 else none, fun _ => [], 0⟩
def var53 : Var := ⟨53, [(.byv eF)], [(.byv (.int .i64))], fun r => if r = 2 then some [(1, (.box 24 [(.byv (.int .u8)), (.byv (.int .u8)), (.byv (.sl eK)), (.byv .str), (.byv .str), (.byv .str), (.byv .str)])), (16, (.own 9 .str)), (17, (.byv (.int .i64))), (18, (.byv (.int .i64)))] else if r = 14 then some [(1, (.box 24 [(.byv (.int .u8)), (.byv (.int .u8)), (.byv (.sl eK)), (.byv .str), (.byv .str), (.byv .str), (.byv .str)])), (7, (.box 57 [(.byv .str), (.byv (.sl eC)), (.byv (.int .i64)), (.byv .str)])), (69, (.own 9 .str)), (70, (.byv (.int .i64))), (71, (.byv (.int .i64)))] else none, fun _ _ => false, fun _ _ => none, fun _ => [], 0⟩
def var57 : Var := ⟨57, [(.byv .str)], [(.own 9 .str), (.byv .bool)], fun _ => none, fun _ _ => false, fun _ _ => none, fun _ => [], 0⟩
def var65 : Var := ⟨65, [(.byv (.int .i64))], [(.byv (.pair .bool (.sl (.int .u32))))], fun _ => none, fun _ _ => false, fun _ _ => none, fun _ => [], 0⟩
def var66 : Var := ⟨66, [(.byv .str)], [(.byv (.pair (.int .i64) (.int .i64))), (.byv (.int .i64))], fun _ => none, fun _ _ => false, fun _ _ => none, fun _ => [], 0⟩
def var67 : Var := ⟨67, [(.byv (.pair .bool (.sl (.int .u32)))), (.byv (.pair .bool (.sl (.int .u32))))], [(.byv (.pair .bool (.sl (.int .u32))))], fun _ => none, fun _ _ => false, fun _ _ => none, fun _ => [], 0⟩
def var68 : Var := ⟨68, [(.byv (.pair (.int .i64) (.int .i64)))], [(.byv (.pair .bool (.sl (.int .u32))))], fun _ => none, fun _ _ => false, fun _ _ => none, fun _ => [], 0⟩
def var69 : Var := ⟨69, [(.byv (.pair .bool (.sl (.int .u32)))), (.byv (.int .i64))], [(.byv (.pair (.int .i64) (.int .i64))), (.byv (.int .i64))], fun r => if r = 2 then some [(1, (.byv (.int .i64))), (2, (.box 107 [(.byv .bool), (.byv (.sl (.int .u32)))])), (4, (.box 62 [(.byv (.int .i64)), (.byv (.int .i64))])), (6, (.box 107 [(.byv .bool), (.byv (.sl (.int .u32)))]))] else none, fun _ _ => false, fun _ _ => none, fun _ => [], 0⟩
def var70 : Var := ⟨70, [(.byv (.pair (.int .i64) (.int .i64)))], [(.byv .str), (.byv (.int .i64))], fun _ => none, fun _ _ => false, fun _ _ => none, fun _ => [], 0⟩
def var74 : Var := ⟨74, [(.byv eF), (.byv eC), (.byv .str)], [(.byv (.int .i64))], fun _ => none, fun _ _ => false, fun _ _ => none, fun _ => [], 0⟩
def var75 : Var := ⟨75, [(.byv (.sl eR))], [(.own 27 eR)], fun _ => none, fun _ _ => false, fun _ _ => none, fun _ => [], 0⟩
def var76 : Var := ⟨76, [(.byv eF), (.byv (.sl eR)), (.byv (.int .i64))], [(.byv (.int .i64))], fun r => if r = 16 then some [(7, (.byv .str)), (8, (.box 57 [(.byv .str), (.byv (.sl eC)), (.byv (.int .i64)), (.byv .str)])), (11, (.byv (.int .i64))), (73, (.byv (.sl eR))), (74, (.byv (.int .i64))), (75, (.byv (.int .i64)))] else none, fun _ _ => false, fun _ _ => none, fun _ => [], 0⟩
def var77 : Var := ⟨77, [(.byv eC), (.byv .str)], [(.byv .bool)], fun _ => none, fun _ _ => false, fun _ _ => none, fun _ => [], 0⟩
def var78 : Var := ⟨78, [(.byv eF), (.byv eC), (.byv .str)], [(.byv .str)], fun _ => none, fun _ _ => false, fun _ _ => none, fun _ => [], 0⟩
def var79 : Var := ⟨79, [(.byv .str), (.byv (.int .u8))], [(.byv (.int .i64))], fun _ => none, fun _ _ => false, fun _ _ => none, fun _ => [], 0⟩
def var83 : Var := ⟨83, [(.byv .str), (.byv .str)], [(.byv .str), (.byv .str), (.byv .bool)], fun _ => none, fun _ _ => false, fun _ _ => none, fun _ => [], 0⟩
def var91 : Var := ⟨91, [(.byv (.int .u8))], [(.byv .bool)], fun _ => none, fun _ _ => false, fun _ _ => none, fun _ => [], 0⟩
def var93 : Var := ⟨93, [(.byv .str)], [(.byv .bool)], fun _ => none, fun _ _ => false, fun _ _ => none, fun _ => [], 0⟩
def var95 : Var := ⟨95, [(.byv eF), (.byv eC), (.byv (.sl eC))], [(.byv (.int .i64))], fun _ => none, fun _ _ => false, fun r i => if r = 4 ∧ i = 2 then some 100153 else none, fun _ => [], 0⟩
def var96 : Var := ⟨96, [(.byv (.int .i64)), (.byv (.int .i64)), (.byv (.int .i64))], [(.byv .bool)], fun _ => none, fun _ _ => false, fun _ _ => none, fun _ => [], 0⟩
def var101 : Var := ⟨101, [(.byv .str), (.byv .str)], [(.byv .str), (.byv .bool)], fun _ => none, fun _ _ => false, fun _ _ => none, fun _ => [], 0⟩
def var102 : Var := ⟨102, [(.byv .str), (.byv .str)], [(.own 9 .str)], fun _ => none, fun _ _ => false, fun _ _ => none, fun _ => [], 0⟩
def var103 : Var := ⟨103, [(.byv .str)], [(.own 9 .str), (.byv .bool)], fun r => if r = 3 then some [(4, (.own 9 .str)), (10, (.byv (.int .i64))), (11, (.byv (.int .i64)))] else none, fun _ _ => false, fun _ _ => none, fun r => if r = 3 then [(9, 4)] else [], 0⟩
def var105 : Var := ⟨105, [(.bx 135 (.pair (.sl .str) .bool))], [(.byv .str)], fun _ => none, fun _ _ => false, fun _ _ => none, fun _ => [], 0⟩
def var106 : Var := ⟨106, [(.bx 135 (.pair (.sl .str) .bool))], [(.byv (.int .i64))], fun _ => none, fun _ _ => false, fun _ _ => none, fun _ => [], 0⟩
def var107 : Var := ⟨107, [(.byv .str)], [(.byv .str)], fun _ => none, fun _ _ => false, fun _ _ => none, fun _ => [], 0⟩
def var108 : Var := ⟨108, [(.byv (.sl .str)), (.byv .str)], [(.byv (.int .i64))], fun r => if r = 2 then some [(0, (.byv (.sl .str))), (1, (.byv .str)), (7, (.byv (.int .i64))), (8, (.byv (.int .i64)))] else none, fun _ _ => false, fun _ _ => none, fun _ => [], 0⟩
def var109 : Var := ⟨109, [], [(.own 9 .str)], fun _ => none, fun _ _ => false, fun _ _ => none, fun _ => [], 0⟩
def var111 : Var := ⟨111, [(.byv eF), (.byv eC), (.byv .str)], [(.byv .str)], fun _ => none, fun _ _ => false, fun _ _ => none, fun _ => [], 0⟩
def var112 : Var := ⟨112, [(.byv .str), (.byv (.int .i64))], [(.byv .str)], fun _ => none, fun _ _ => false, fun _ _ => none, fun _ => [], 0⟩
def var114 : Var := ⟨114, [(.byv .str), (.byv .str), (.byv .str)], [(.byv .str)], fun _ => none, fun _ _ => false, fun _ _ => none, fun _ => [], 0⟩
def var116 : Var := ⟨116, [(.byv .bool), (.byv (.sl (.int .u32)))], [(.byv (.pair .bool (.sl (.int .u32))))], fun _ => none, fun _ _ => false, fun _ _ => none, fun _ => [], 0⟩
def var117 : Var := ⟨117, [(.byv .str), (.byv .str)], [(.byv .str), (.byv .bool)], fun _ => none, fun _ _ => false, fun _ _ => none, fun _ => [], 0⟩
def var118 : Var := ⟨118, [(.byv .str)], [(.byv .bool)], fun _ => none, fun _ _ => false, fun _ _ => none, fun _ => [], 0⟩
def var119 : Var := ⟨119, [(.byv .str)], [(.byv .bool)], fun _ => none, fun _ _ => false, fun _ _ => none, fun _ => [], 0⟩
def var120 : Var := ⟨120, [(.byv .bool), (.byv .str), (.byv .str)], [(.byv (.pair (.int .i64) (.int .i64))), (.byv (.int .i64))], fun r => if r = 3 then some [(0, (.byv .bool)), (1, (.byv .str)), (2, (.byv .str)), (6, (.box 62 [(.byv (.int .i64)), (.byv (.int .i64))])), (8, (.box 107 [(.byv .bool), (.byv (.sl (.int .u32)))])), (14, (.byv (.int .i64))), (15, (.byv (.int .i64)))] else none, fun _ _ => false, fun _ _ => none, fun _ => [], 0⟩
def var121 : Var := ⟨121, [(.byv (.sl (.int .u32))), (.byv (.sl (.int .u32)))], [(.own 147 (.int .u32))], fun r => if r = 3 then some [(0, (.byv (.sl (.int .u32)))), (1, (.byv (.sl (.int .u32))))] else if r = 6 then some [(1, (.byv (.sl (.int .u32)))), (5, (.own 147 (.int .u32))), (6, (.byv (.int .u64))), (20, (.byv (.sl (.int .u32)))), (21, (.byv (.int .i64))), (22, (.byv (.int .i64)))] else none, fun _ _ => false, fun _ _ => none, fun _ => [], 0⟩
def var122 : Var := ⟨122, [(.byv (.sl (.int .u32))), (.byv (.sl (.int .u32)))], [(.byv (.int .i64))], fun r => if r = 4 then some [(0, (.byv (.sl (.int .u32)))), (1, (.byv (.sl (.int .u32)))), (5, (.byv (.int .i64)))] else none, fun _ _ => false, fun _ _ => none, fun _ => [], 0⟩
def var123 : Var := ⟨123, [(.byv (.sl (.int .u32))), (.byv (.sl (.int .u32)))], [(.byv (.sl (.int .u32)))], fun r => if r = 4 then some [(1, (.byv (.sl (.int .u32)))), (5, (.own 147 (.int .u32))), (6, (.byv (.int .u64))), (13, (.byv (.sl (.int .u32)))), (14, (.byv (.int .i64))), (15, (.byv (.int .i64)))] else none, fun _ _ => false, fun _ _ => none, fun _ => [], 0⟩
def var124 : Var := ⟨124, [(.byv (.pair (.int .i64) (.int .i64))), (.byv (.int .i64))], [(.byv (.pair .bool (.sl (.int .u32))))], fun _ => none, fun _ _ => false, fun _ _ => none, fun _ => [], 0⟩
def var125 : Var := ⟨125, [(.byv (.pair .bool (.sl (.int .u32)))), (.byv (.pair .bool (.sl (.int .u32))))], [(.byv (.pair .bool (.sl (.int .u32)))), (.byv (.pair .bool (.sl (.int .u32))))], fun r => if r = 4 then some [(2, (.box 107 [(.byv .bool), (.byv (.sl (.int .u32)))])), (3, (.box 107 [(.byv .bool), (.byv (.sl (.int .u32)))])), (4, (.box 107 [(.byv .bool), (.own 147 (.int .u32))])), (5, (.box 107 [(.byv .bool), (.own 147 (.int .u32))])), (6, (.own 147 (.int .u32))), (7, (.byv (.sl (.int .u32)))), (8, (.byv (.int .i64)))] else none, fun _ _ => false, fun _ _ => none, fun _ => [], 0⟩
def var126 : Var := ⟨126, [(.byv (.pair .bool (.sl (.int .u32))))], [(.byv (.int .i64))], fun _ => none, fun _ _ => false, fun _ _ => none, fun _ => [], 0⟩
def var127 : Var := ⟨127, [(.byv (.pair .bool (.sl (.int .u32))))], [(.byv (.pair .bool (.sl (.int .u32))))], fun _ => none, fun _ _ => false, fun _ _ => none, fun _ => [], 0⟩
def var128 : Var := ⟨128, [(.byv (.pair .bool (.sl (.int .u32)))), (.byv (.int .i64))], [(.byv (.pair (.int .i64) (.int .i64))), (.byv (.int .i64))], fun _ => none, fun _ _ => false, fun _ _ => none, fun _ => [], 0⟩
def var129 : Var := ⟨129, [(.byv (.pair (.int .i64) (.int .i64)))], [(.byv (.int .i64))], fun _ => none, fun _ _ => false, fun _ _ => none, fun _ => [], 0⟩
def var130 : Var := ⟨130, [(.byv .str), (.byv (.int .i64))], [(.byv .str), (.byv .str)], fun _ => none, fun _ _ => false, fun _ _ => none, fun _ => [], 0⟩
def var131 : Var := ⟨131, [(.byv (.pair .bool (.sl (.int .u32))))], [(.byv (.pair .bool (.sl (.int .u32))))], fun _ => none, fun _ _ => false, fun _ _ => none, fun _ => [], 0⟩
def var132 : Var := ⟨132, [(.byv (.pair .bool (.sl (.int .u32))))], [(.byv .str)], fun r => if r = 5 then some [(1, (.box 107 [(.byv .bool), (.byv (.sl (.int .u32)))])), (3, (.own 5 (.int .u8))), (4, (.own 147 (.int .u32)))] else if r = 8 then some [(1, (.box 107 [(.byv .bool), (.byv (.sl (.int .u32)))])), (3, (.own 5 (.int .u8))), (4, (.own 147 (.int .u32))), (5, (.byv (.int .u32))), (6, (.byv (.int .i64)))] else none, fun _ _ => false, fun r i => if r = 12 ∧ i = 1 then some 100169 else none, fun _ => [], 0⟩
def var133 : Var := ⟨133, [(.byv (.pair (.int .i64) (.int .i64)))], [(.byv .str)], fun _ => none, fun _ _ => false, fun _ _ => none, fun _ => [], 0⟩
def var135 : Var := ⟨135, [(.byv eC), (.byv .str)], [(.byv .bool)], fun _ => none, fun _ _ => false, fun _ _ => none, fun _ => [], 0⟩
def var136 : Var := ⟨136, [(.byv eF), (.byv (.sl eR)), (.byv (.int .i64)), (.byv .str)], [(.byv (.int .i64))], fun r => if r = 2 then some [(1, (.byv (.sl eR))), (3, (.byv .str)), (4, (.box 24 [(.byv (.int .u8)), (.byv (.int .u8)), (.byv (.sl eK)), (.byv .str), (.byv .str), (.byv .str), (.byv .str)])), (9, (.byv (.int .i64)))] else none, fun _ _ => false, fun _ _ => none, fun _ => [], 0⟩
def var137 : Var := ⟨137, [(.byv .str)], [(.byv (.pair (.int .i64) (.int .i64))), (.byv (.int .i64))], fun _ => none, fun _ _ => false, fun _ _ => none, fun _ => [], 0⟩
def var138 : Var := ⟨138, [(.byv (.pair (.int .i64) (.int .i64)))], [(.byv (.pair (.int .i64) (.int .i64)))], fun r => if r = 1 then some [(1, (.box 62 [(.byv (.int .i64)), (.byv (.int .i64))])), (2, (.box 62 [(.byv (.int .i64)), (.byv (.int .i64))]))] else none, fun _ _ => false, fun _ _ => none, fun _ => [], 0⟩
def var139 : Var := ⟨139, [(.byv .str), (.byv (.int .i64)), (.byv (.int .i64))], [(.byv (.int .i64)), (.byv (.int .i64))], fun _ => none, fun _ _ => false, fun _ _ => none, fun _ => [], 0⟩
def var140 : Var := ⟨140, [(.byv .str)], [(.byv .bool)], fun r => if r = 2 then some [(0, (.byv .str)), (5, (.byv (.int .i64))), (6, (.byv (.int .i64)))] else none, fun _ _ => false, fun _ _ => none, fun _ => [], 0⟩
def var141 : Var := ⟨141, [(.byv (.int .i64)), (.byv (.int .i64))], [(.byv .str), (.byv (.int .i64))], fun _ => none, fun _ _ => false, fun _ _ => none, fun _ => [], 0⟩
def var142 : Var := ⟨142, [(.byv .str), (.byv .str)], [(.byv .str)], fun _ => none, fun _ _ => false, fun _ _ => none, fun _ => [], 0⟩
def var143 : Var := ⟨143, [(.byv .str), (.byv (.int .u8))], [(.byv (.int .i64))], fun _ => none, fun _ _ => false, fun _ _ => none, fun _ => [], 0⟩
def var145 : Var := ⟨145, [(.byv .str), (.byv .str)], [(.byv (.int .i64))], fun _ => none, fun _ _ => false, fun _ _ => none, fun _ => [], 0⟩
def var148 : Var := ⟨148, [(.byv .str), (.byv .str)], [(.byv .str)], fun _ => none, fun _ _ => false, fun _ _ => none, fun _ => [], 0⟩
def var151 : Var := ⟨151, [(.byv .str), (.byv (.int .u8)), (.byv (.int .u8))], [(.byv .bool)], fun r => if r = 2 then some [(0, (.byv .str)), (1, (.byv (.int .u8))), (2, (.byv (.int .u8))), (9, (.byv (.int .i64))), (10, (.byv (.int .i64)))] else none, fun _ _ => false, fun _ _ => none, fun _ => [], 0⟩
def var152 : Var := ⟨152, [(.byv .str)], [(.byv .bool)], fun _ => none, fun _ _ => false, fun _ _ => none, fun _ => [], 0⟩
def var155 : Var := ⟨155, [(.byv (.int .i64))], [(.byv (.int .i64))], fun _ => none, fun _ _ => false, fun _ _ => none, fun _ => [], 0⟩
def var156 : Var := ⟨156, [(.byv eF), (.byv eC)], [(.byv .bool)], fun _ => none, fun _ _ => false, fun _ _ => none, fun _ => [], 0⟩
def var158 : Var := ⟨158, [(.byv (.pair (.int .i64) (.int .i64)))], [(.byv (.pair (.int .i64) (.int .i64)))], fun r => if r = 1 then some [(1, (.box 62 [(.byv (.int .i64)), (.byv (.int .i64))])), (2, (.box 62 [(.byv (.int .i64)), (.byv (.int .i64))]))] else none, fun _ _ => false, fun _ _ => none, fun _ => [], 0⟩
def var159 : Var := ⟨159, [(.byv .str), (.byv (.int .i64)), (.byv (.int .i64))], [(.byv (.int .i64)), (.byv (.int .i64))], fun _ => none, fun _ _ => false, fun _ _ => none, fun _ => [], 0⟩
def var160 : Var := ⟨160, [(.byv (.int .i64)), (.byv (.int .i64))], [(.byv .str), (.byv (.int .i64))], fun _ => none, fun _ _ => false, fun _ _ => none, fun _ => [], 0⟩
def var161 : Var := ⟨161, [(.byv .str), (.byv .str)], [(.byv .str), (.byv .bool)], fun _ => none, fun _ _ => false, fun _ _ => none, fun _ => [], 0⟩
def var163 : Var := ⟨163, [(.bx 135 (.pair (.sl .str) .bool))], [(.byv (.int .u8))], fun _ => none, fun _ _ => false, fun _ _ => none, fun _ => [], 0⟩
def var164 : Var := ⟨164, [(.byv .str), (.byv (.int .i64))], [(.byv (.int .i64)), (.byv .bool)], fun _ => none, fun _ _ => false, fun _ _ => none, fun _ => [], 0⟩
def var167 : Var := ⟨167, [(.byv .str), (.byv .str)], [(.byv .bool)], fun _ => none, fun _ _ => false, fun _ _ => none, fun _ => [], 0⟩
def var169 : Var := ⟨169, [(.byv (.sl (.int .u32)))], [(.byv (.sl (.int .u32)))], fun r => if r = 1 then some [(0, (.byv (.sl (.int .u32))))] else none, fun _ _ => false, fun _ _ => none, fun _ => [], 0⟩
def var170 : Var := ⟨170, [(.byv .str), (.byv .str)], [(.byv .str), (.byv .bool)], fun _ => none, fun _ _ => false, fun _ _ => none, fun _ => [], 0⟩
def var171 : Var := ⟨171, [(.byv (.pair .bool (.sl (.int .u32)))), (.byv (.pair .bool (.sl (.int .u32))))], [(.byv (.pair .bool (.sl (.int .u32))))], fun r => if r = 3 then some [(2, (.box 107 [(.byv .bool), (.byv (.sl (.int .u32)))])), (3, (.box 107 [(.byv .bool), (.byv (.sl (.int .u32)))])), (4, (.box 107 [(.byv .bool), (.own 147 (.int .u32))])), (5, (.own 147 (.int .u32))), (20, (.byv (.sl (.int .u32)))), (21, (.byv (.int .i64))), (22, (.byv (.int .i64)))] else if r = 7 then some [(2, (.box 107 [(.byv .bool), (.byv (.sl (.int .u32)))])), (3, (.box 107 [(.byv .bool), (.byv (.sl (.int .u32)))])), (4, (.box 107 [(.byv .bool), (.own 147 (.int .u32))])), (5, (.own 147 (.int .u32))), (6, (.byv (.int .i64))), (7, (.byv (.int .u32))), (8, (.byv (.int .u64))), (20, (.byv (.sl (.int .u32)))), (21, (.byv (.int .i64))), (22, (.byv (.int .i64))), (28, (.byv (.sl (.int .u32)))), (29, (.byv (.int .i64))), (30, (.byv (.int .i64)))] else none, fun _ _ => false, fun _ _ => none, fun _ => [], 0⟩
def var172 : Var := ⟨172, [(.byv (.int .i64))], [(.byv (.pair .bool (.sl (.int .u32))))], fun r => if r = 3 then some [(2, (.box 107 [(.byv .bool), (.own 147 (.int .u32))])), (3, (.box 107 [(.byv .bool), (.byv (.sl (.int .u32)))])), (5, (.byv (.int .i64))), (6, (.byv (.int .i64)))] else none, fun _ _ => false, fun _ _ => none, fun _ => [], 0⟩
def var173 : Var := ⟨173, [(.byv (.pair .bool (.sl (.int .u32)))), (.byv (.int .i64))], [(.byv (.int .i64)), (.byv .bool)], fun r => if r = 5 then some [(1, (.byv (.int .i64))), (2, (.box 107 [(.byv .bool), (.byv (.sl (.int .u32)))])), (6, (.byv (.int .u64))), (14, (.byv (.sl (.int .u32)))), (15, (.byv (.int .i64))), (16, (.byv (.int .i64)))] else none, fun _ _ => false, fun _ _ => none, fun _ => [], 0⟩
def var174 : Var := ⟨174, [(.byv (.sl (.int .u32)))], [(.own 147 (.int .u32))], fun _ => none, fun _ _ => false, fun _ _ => none, fun _ => [], 0⟩
def var175 : Var := ⟨175, [(.byv (.int .u32)), (.byv (.int .u32)), (.byv (.int .u32))], [(.byv (.int .u32)), (.byv (.int .u32))], fun _ => none, fun _ _ => false, fun _ _ => none, fun _ => [], 0⟩
def var176 : Var := ⟨176, [(.mv 5 (.int .u8) true)], [], fun r => if r = 1 then some [(0, (.own 5 (.int .u8))), (2, (.byv (.int .i64))), (3, (.byv (.int .i64)))] else none, fun _ _ => false, fun _ _ => none, fun _ => [], 0⟩
def var181 : Var := ⟨181, [(.byv eF), (.byv .str), (.byv .str)], [(.byv .bool)], fun r => if r = 2 then some [(2, (.byv .str)), (3, (.box 24 [(.byv (.int .u8)), (.byv (.int .u8)), (.byv (.sl eK)), (.byv .str), (.byv .str), (.byv .str), (.byv .str)])), (7, (.box 57 [(.byv .str), (.byv (.sl eC)), (.byv (.int .i64)), (.byv .str)])), (8, (.byv .bool))] else if r = 7 then some [(2, (.byv .str)), (3, (.box 24 [(.byv (.int .u8)), (.byv (.int .u8)), (.byv (.sl eK)), (.byv .str), (.byv .str), (.byv .str), (.byv .str)])), (32, (.byv eK))] else none, fun _ _ => false, fun _ _ => none, fun _ => [], 0⟩
def var182 : Var := ⟨182, [(.byv .str)], [(.byv .bool)], fun r => if r = 4 then some [(0, (.byv .str)), (7, (.byv (.int .i64))), (8, (.byv (.int .i64)))] else none, fun _ _ => false, fun _ _ => none, fun _ => [], 0⟩
def var183 : Var := ⟨183, [(.byv .str)], [(.byv (.int .i64)), (.byv .bool)], fun r => if r = 3 then some [(0, (.byv .str)), (4, (.byv (.int .i64))), (7, (.byv (.int .i64))), (8, (.byv (.int .i64)))] else none, fun _ _ => false, fun _ _ => none, fun _ => [], 0⟩
def var184 : Var := ⟨184, [(.byv (.int .i64)), (.byv (.int .i64)), (.byv (.int .i64))], [(.byv .bool)], fun _ => none, fun _ _ => false, fun _ _ => none, fun _ => [], 0⟩
def var185 : Var := ⟨185, [(.byv .str)], [(.byv (.int .i64))], fun _ => none, fun _ _ => false, fun _ _ => none, fun _ => [], 0⟩
def var186 : Var := ⟨186, [(.byv .str)], [(.byv (.int .i64)), (.byv (.int .i64))], fun r => if r = 8 then some [(4, (.byv (.int .i64))), (5, (.byv (.int .i64))), (6, (.byv (.int .i64))), (7, (.byv (.int .i64))), (8, (.byv (.int .i64)))] else none, fun _ _ => false, fun _ _ => none, fun _ => [], 0⟩
def var187 : Var := ⟨187, [(.byv (.int .i64)), (.byv (.int .i64)), (.byv (.int .i64))], [(.byv (.int .i64)), (.byv (.int .i64))], fun _ => none, fun _ _ => false, fun _ _ => none, fun _ => [], 0⟩
def var188 : Var := ⟨188, [(.byv (.int .i64))], [(.byv .bool)], fun _ => none, fun _ _ => false, fun _ _ => none, fun _ => [], 0⟩
def var189 : Var := ⟨189, [(.byv (.int .i64)), (.byv (.int .i64))], [(.byv .str)], fun _ => none, fun _ _ => false, fun _ _ => none, fun _ => [], 0⟩
def var190 : Var := ⟨190, [(.byv .str), (.byv .str)], [(.byv .str)], fun _ => none, fun _ _ => false, fun _ _ => none, fun _ => [], 0⟩
def var204 : Var := ⟨204, [(.byv (.int .i64))], [(.byv .bool)], fun _ => none, fun _ _ => false, fun _ _ => none, fun _ => [], 0⟩
def var205 : Var := ⟨205, [(.byv .str), (.byv (.int .i64)), (.byv (.int .i64))], [(.byv (.int .i64)), (.byv .bool)], fun _ => none, fun _ _ => false, fun _ _ => none, fun _ => [], 0⟩
def var206 : Var := ⟨206, [(.byv (.int .i64))], [(.byv .bool)], fun _ => none, fun _ _ => false, fun _ _ => none, fun _ => [], 0⟩
def var207 : Var := ⟨207, [(.byv (.int .i64))], [(.byv (.int .i64)), (.byv (.int .i64)), (.byv (.int .i64))], fun r => if r = 2 then some [(0, (.byv (.int .i64))), (2, (.byv (.int .i64)))] else if r = 5 then some [(2, (.byv (.int .i64))), (3, (.byv (.int .i64))), (4, (.byv (.int .i64)))] else none, fun _ _ => false, fun _ _ => none, fun _ => [], 0⟩
def var208 : Var := ⟨208, [(.byv (.int .i64)), (.byv (.int .i64))], [(.byv .str)], fun _ => none, fun _ _ => false, fun _ _ => none, fun _ => [], 0⟩
def var209 : Var := ⟨209, [(.byv (.int .i64))], [(.byv (.int .i64)), (.byv (.int .i64))], fun _ => none, fun _ _ => false, fun _ _ => none, fun _ => [], 0⟩
def var210 : Var := ⟨210, [(.byv (.int .i64))], [(.byv (.int .i64))], fun _ => none, fun _ _ => false, fun _ _ => none, fun _ => [], 0⟩
def var211 : Var := ⟨211, [(.byv .str), (.byv .str)], [(.byv .bool)], fun _ => none, fun _ _ => false, fun _ _ => none, fun _ => [], 0⟩
def var215 : Var := ⟨215, [(.byv .str)], [(.byv (.int .i64)), (.byv .err)], fun _ => none, fun _ _ => false, fun _ _ => none, fun _ => [], 0⟩
def var225 : Var := ⟨225, [(.byv (.int .i64))], [(.byv (.int .i64))], fun _ => none, fun _ _ => false, fun _ _ => none, fun _ => [], 0⟩
def var226 : Var := ⟨226, [(.byv (.int .i64))], [(.byv (.int .i64)), (.byv (.int .i64)), (.byv (.int .i64))], fun _ => none, fun _ _ => false, fun _ _ => none, fun _ => [], 0⟩
def var227 : Var := ⟨227, [(.byv (.int .i64)), (.byv (.int .i64))], [(.byv (.int .i64))], fun _ => none, fun _ _ => false, fun _ _ => none, fun _ => [], 0⟩
def var228 : Var := ⟨228, [(.byv (.int .i64)), (.byv (.int .i64)), (.byv (.int .i64))], [(.byv (.int .i64))], fun r => if r = 3 then some [(0, (.byv (.int .i64))), (1, (.byv (.int .i64))), (7, (.byv (.int .i64))), (8, (.byv (.int .i64)))] else none, fun _ _ => false, fun _ _ => none, fun _ => [], 0⟩
def var229 : Var := ⟨229, [(.byv (.int .i64))], [(.byv (.int .i64)), (.byv (.int .i64)), (.byv (.int .i64))], fun r => if r = 2 then some [(0, (.byv (.int .i64))), (2, (.byv (.int .i64)))] else if r = 6 then some [(2, (.byv (.int .i64))), (3, (.byv (.int .i64))), (4, (.byv (.int .i64)))] else none, fun _ _ => false, fun _ _ => none, fun _ => [], 0⟩
def var230 : Var := ⟨230, [(.byv (.int .i64)), (.byv (.int .i64))], [(.byv .str)], fun _ => none, fun _ _ => false, fun _ _ => none, fun _ => [], 0⟩
def var235 : Var := ⟨235, [(.byv .str), (.byv (.sl (.int .i64)))], [(.own 3 (.int .i64)), (.byv .bool)], fun r => if r = 3 then some [(0, (.byv .str)), (6, (.own 3 (.int .i64))), (11, (.byv (.sl (.int .i64)))), (12, (.byv (.int .i64))), (13, (.byv (.int .i64)))] else none, fun _ _ => false, fun _ _ => none, fun _ => [], 0⟩
def var236 : Var := ⟨236, [(.byv (.int .i64)), (.byv (.int .i64)), (.byv (.int .i64))], [(.byv (.int .i64)), (.byv .bool)], fun r => if r = 5 then some [(0, (.byv (.int .i64))), (1, (.byv (.int .i64))), (8, (.byv (.int .i64))), (9, (.byv (.int .i64)))] else none, fun _ _ => false, fun _ _ => none, fun _ => [], 0⟩
def var237 : Var := ⟨237, [(.byv (.int .i64)), (.byv (.int .i64)), (.byv (.int .i64))], [(.byv (.int .i64)), (.byv .bool)], fun _ => none, fun _ _ => false, fun _ _ => none, fun _ => [], 0⟩
def var238 : Var := ⟨238, [(.byv (.int .i64))], [(.byv (.int .i64))], fun _ => none, fun _ _ => false, fun _ _ => none, fun _ => [], 0⟩
def var239 : Var := ⟨239, [(.byv (.int .i64)), (.byv (.int .i64))], [(.byv (.int .i64))], fun _ => none, fun _ _ => false, fun _ _ => none, fun _ => [], 0⟩
def var248 : Var := ⟨248, [(.byv (.int .i64))], [(.byv .bool)], fun _ => none, fun _ _ => false, fun _ _ => none, fun _ => [], 0⟩
def var251 : Var := ⟨251, [(.byv (.int .i64))], [(.byv .bool)], fun _ => none, fun _ _ => false, fun _ _ => none, fun _ => [], 0⟩
def var100030 : Var := ⟨30, [(.byv eF), (.byv (.sl eR))], [(.byv (.sl eR))], fun r => if r = 3 then some [(2, (.box 24 [(.byv (.int .u8)), (.byv (.int .u8)), (.byv (.sl eK)), (.byv .str), (.byv .str), (.byv .str), (.byv .str)])), (5, (.own 27 eR)), (8, (.byv (.sl eR))), (9, (.byv (.int .i64))), (10, (.byv (.int .i64)))] else none, fun _ _ => false, fun _ _ => none, fun _ => [], 0⟩
def var100061 : Var := ⟨61, [(.byv (.sl eR)), (.fn 62 [eF])], [(.byv .bool)], fun _ => none, fun _ _ => false, fun r i => if r = 1 ∧ i = 2 then some 100115 else none, fun _ => [], 0⟩
def var100062 : Var := ⟨62, [(.byv eR), (.rp eF)], [(.byv .bool)], fun _ => none, fun _ _ => false, fun _ _ => none, fun _ => [], 0⟩
def var100063 : Var := ⟨63, [(.byv (.sl eK)), (.fn 92 [eK])], [(.byv (.int .i64))], fun r => if r = 2 then some [(0, (.byv (.sl eK))), (1, (.fn 92 [eK])), (7, (.byv (.int .i64))), (8, (.byv (.int .i64)))] else none, fun _ _ => false, fun r i => if r = 4 ∧ i = 5 then some 100092 else none, fun _ => [], 0⟩
def var100064 : Var := ⟨64, [(.byv eK), (.rp .str)], [(.byv .bool)], fun _ => none, fun _ _ => false, fun _ _ => none, fun _ => [], 0⟩
def var100071 : Var := ⟨71, [(.byv (.sl eC)), (.fn 154 [eC])], [(.byv (.int .i64))], fun r => if r = 2 then some [(0, (.byv (.sl eC))), (1, (.fn 154 [eC])), (7, (.byv (.int .i64))), (8, (.byv (.int .i64)))] else none, fun _ _ => false, fun r i => if r = 4 ∧ i = 5 then some 100154 else none, fun _ => [], 0⟩
def var100072 : Var := ⟨72, [(.byv eC), (.rp .str)], [(.byv .bool)], fun _ => none, fun _ _ => false, fun _ _ => none, fun _ => [], 0⟩
def var100092 : Var := ⟨92, [(.byv eK), (.rp eK)], [(.byv .bool)], fun _ => none, fun _ _ => false, fun _ _ => none, fun _ => [], 0⟩
def var100094 : Var := ⟨94, [(.byv (.sl eK)), (.fn 92 [eK])], [(.byv .bool)], fun _ => none, fun _ _ => false, fun r i => if r = 1 ∧ i = 2 then some 100063 else none, fun _ => [], 0⟩
def var100097 : Var := ⟨97, [(.byv eK), (.rp eK)], [(.byv .bool)], fun _ => none, fun _ _ => false, fun _ _ => none, fun _ => [], 0⟩
def var100115 : Var := ⟨115, [(.byv (.sl eR)), (.fn 62 [eF])], [(.byv (.int .i64))], fun r => if r = 2 then some [(0, (.byv (.sl eR))), (1, (.fn 62 [eF])), (7, (.byv (.int .i64))), (8, (.byv (.int .i64)))] else none, fun _ _ => false, fun r i => if r = 4 ∧ i = 5 then some 100062 else none, fun _ => [], 0⟩
def var100153 : Var := ⟨153, [(.byv (.sl eC)), (.fn 154 [eC])], [(.byv .bool)], fun _ => none, fun _ _ => false, fun r i => if r = 1 ∧ i = 2 then some 100071 else none, fun _ => [], 0⟩
def var100154 : Var := ⟨154, [(.byv eC), (.rp eC)], [(.byv .bool)], fun _ => none, fun _ _ => false, fun _ _ => none, fun _ => [], 0⟩
def var100169 : Var := ⟨169, [(.mv 147 (.int .u32) false)], [(.own 147 (.int .u32))], fun r => if r = 1 then some [(0, (.own 147 (.int .u32)))] else none, fun r i => (Nat.beq r 2 && Nat.beq i 4), fun _ _ => none, fun _ => [], 0⟩
def var200063 : Var := ⟨63, [(.byv (.sl eK)), (.fn 97 [eK])], [(.byv (.int .i64))], fun r => if r = 2 then some [(0, (.byv (.sl eK))), (1, (.fn 97 [eK])), (7, (.byv (.int .i64))), (8, (.byv (.int .i64)))] else none, fun _ _ => false, fun r i => if r = 4 ∧ i = 5 then some 100097 else none, fun _ => [], 0⟩
def var200071 : Var := ⟨71, [(.byv (.sl eC)), (.fn 72 [.str])], [(.byv (.int .i64))], fun r => if r = 2 then some [(0, (.byv (.sl eC))), (1, (.fn 72 [.str])), (7, (.byv (.int .i64))), (8, (.byv (.int .i64)))] else none, fun _ _ => false, fun r i => if r = 4 ∧ i = 5 then some 100072 else none, fun _ => [], 0⟩
def var200094 : Var := ⟨94, [(.byv (.sl eK)), (.fn 97 [eK])], [(.byv .bool)], fun _ => none, fun _ _ => false, fun r i => if r = 1 ∧ i = 2 then some 200063 else none, fun _ => [], 0⟩
def var300063 : Var := ⟨63, [(.byv (.sl eK)), (.fn 64 [.str])], [(.byv (.int .i64))], fun r => if r = 2 then some [(0, (.byv (.sl eK))), (1, (.fn 64 [.str])), (7, (.byv (.int .i64))), (8, (.byv (.int .i64)))] else none, fun _ _ => false, fun r i => if r = 4 ∧ i = 5 then some 100064 else none, fun _ => [], 0⟩
def var100058 : Var := ⟨58, [], [], fun _ => none, fun _ _ => false, fun r i => if r = 8 ∧ i = 5 then some 100104 else none, fun _ => [], 1000000000⟩
def var100104 : Var := ⟨104, [], [], fun _ => none, fun _ _ => false, fun _ _ => none, fun _ => [], 2000000000⟩
def varT (u : Nat) : Var := cond (Nat.blt u 139) (cond (Nat.blt u 79) (cond (Nat.blt u 38) (cond (Nat.blt u 28) (cond (Nat.blt u 13) (cond (Nat.blt u 10) (cond (Nat.blt u 9) (var5) (var9)) (cond (Nat.blt u 12) (var10) (var12))) (cond (Nat.blt u 22) (cond (Nat.blt u 14) (var13) (var14)) (cond (Nat.blt u 24) (var22) (cond (Nat.blt u 25) (var24) (var25))))) (cond (Nat.blt u 33) (cond (Nat.blt u 30) (cond (Nat.blt u 29) (var28) (var29)) (cond (Nat.blt u 31) (var30) (cond (Nat.blt u 32) (var31) (var32)))) (cond (Nat.blt u 35) (cond (Nat.blt u 34) (var33) (var34)) (cond (Nat.blt u 36) (var35) (cond (Nat.blt u 37) (var36) (var37)))))) (cond (Nat.blt u 66) (cond (Nat.blt u 51) (cond (Nat.blt u 40) (cond (Nat.blt u 39) (var38) (var39)) (cond (Nat.blt u 45) (var40) (cond (Nat.blt u 48) (var45) (var48)))) (cond (Nat.blt u 53) (cond (Nat.blt u 52) (var51) (var52)) (cond (Nat.blt u 57) (var53) (cond (Nat.blt u 65) (var57) (var65))))) (cond (Nat.blt u 74) (cond (Nat.blt u 68) (cond (Nat.blt u 67) (var66) (var67)) (cond (Nat.blt u 69) (var68) (cond (Nat.blt u 70) (var69) (var70)))) (cond (Nat.blt u 76) (cond (Nat.blt u 75) (var74) (var75)) (cond (Nat.blt u 77) (var76) (cond (Nat.blt u 78) (var77) (var78))))))) (cond (Nat.blt u 118) (cond (Nat.blt u 105) (cond (Nat.blt u 95) (cond (Nat.blt u 91) (cond (Nat.blt u 83) (var79) (var83)) (cond (Nat.blt u 93) (var91) (var93))) (cond (Nat.blt u 101) (cond (Nat.blt u 96) (var95) (var96)) (cond (Nat.blt u 102) (var101) (cond (Nat.blt u 103) (var102) (var103))))) (cond (Nat.blt u 111) (cond (Nat.blt u 107) (cond (Nat.blt u 106) (var105) (var106)) (cond (Nat.blt u 108) (var107) (cond (Nat.blt u 109) (var108) (var109)))) (cond (Nat.blt u 114) (cond (Nat.blt u 112) (var111) (var112)) (cond (Nat.blt u 116) (var114) (cond (Nat.blt u 117) (var116) (var117)))))) (cond (Nat.blt u 128) (cond (Nat.blt u 123) (cond (Nat.blt u 120) (cond (Nat.blt u 119) (var118) (var119)) (cond (Nat.blt u 121) (var120) (cond (Nat.blt u 122) (var121) (var122)))) (cond (Nat.blt u 125) (cond (Nat.blt u 124) (var123) (var124)) (cond (Nat.blt u 126) (var125) (cond (Nat.blt u 127) (var126) (var127))))) (cond (Nat.blt u 133) (cond (Nat.blt u 130) (cond (Nat.blt u 129) (var128) (var129)) (cond (Nat.blt u 131) (var130) (cond (Nat.blt u 132) (var131) (var132)))) (cond (Nat.blt u 136) (cond (Nat.blt u 135) (var133) (var135)) (cond (Nat.blt u 137) (var136) (cond (Nat.blt u 138) (var137) (var138)))))))) (cond (Nat.blt u 207) (cond (Nat.blt u 170) (cond (Nat.blt u 155) (cond (Nat.blt u 143) (cond (Nat.blt u 141) (cond (Nat.blt u 140) (var139) (var140)) (cond (Nat.blt u 142) (var141) (var142))) (cond (Nat.blt u 148) (cond (Nat.blt u 145) (var143) (var145)) (cond (Nat.blt u 151) (var148) (cond (Nat.blt u 152) (var151) (var152))))) (cond (Nat.blt u 161) (cond (Nat.blt u 158) (cond (Nat.blt u 156) (var155) (var156)) (cond (Nat.blt u 159) (var158) (cond (Nat.blt u 160) (var159) (var160)))) (cond (Nat.blt u 164) (cond (Nat.blt u 163) (var161) (var163)) (cond (Nat.blt u 167) (var164) (cond (Nat.blt u 169) (var167) (var169)))))) (cond (Nat.blt u 184) (cond (Nat.blt u 175) (cond (Nat.blt u 172) (cond (Nat.blt u 171) (var170) (var171)) (cond (Nat.blt u 173) (var172) (cond (Nat.blt u 174) (var173) (var174)))) (cond (Nat.blt u 181) (cond (Nat.blt u 176) (var175) (var176)) (cond (Nat.blt u 182) (var181) (cond (Nat.blt u 183) (var182) (var183))))) (cond (Nat.blt u 189) (cond (Nat.blt u 186) (cond (Nat.blt u 185) (var184) (var185)) (cond (Nat.blt u 187) (var186) (cond (Nat.blt u 188) (var187) (var188)))) (cond (Nat.blt u 204) (cond (Nat.blt u 190) (var189) (var190)) (cond (Nat.blt u 205) (var204) (cond (Nat.blt u 206) (var205) (var206))))))) (cond (Nat.blt u 100030) (cond (Nat.blt u 228) (cond (Nat.blt u 211) (cond (Nat.blt u 209) (cond (Nat.blt u 208) (var207) (var208)) (cond (Nat.blt u 210) (var209) (var210))) (cond (Nat.blt u 225) (cond (Nat.blt u 215) (var211) (var215)) (cond (Nat.blt u 226) (var225) (cond (Nat.blt u 227) (var226) (var227))))) (cond (Nat.blt u 237) (cond (Nat.blt u 230) (cond (Nat.blt u 229) (var228) (var229)) (cond (Nat.blt u 235) (var230) (cond (Nat.blt u 236) (var235) (var236)))) (cond (Nat.blt u 239) (cond (Nat.blt u 238) (var237) (var238)) (cond (Nat.blt u 248) (var239) (cond (Nat.blt u 251) (var248) (var251)))))) (cond (Nat.blt u 100097) (cond (Nat.blt u 100064) (cond (Nat.blt u 100061) (cond (Nat.blt u 100058) (var100030) (var100058)) (cond (Nat.blt u 100062) (var100061) (cond (Nat.blt u 100063) (var100062) (var100063)))) (cond (Nat.blt u 100072) (cond (Nat.blt u 100071) (var100064) (var100071)) (cond (Nat.blt u 100092) (var100072) (cond (Nat.blt u 100094) (var100092) (var100094))))) (cond (Nat.blt u 100169) (cond (Nat.blt u 100115) (cond (Nat.blt u 100104) (var100097) (var100104)) (cond (Nat.blt u 100153) (var100115) (cond (Nat.blt u 100154) (var100153) (var100154)))) (cond (Nat.blt u 200071) (cond (Nat.blt u 200063) (var100169) (var200063)) (cond (Nat.blt u 200094) (var200071) (cond (Nat.blt u 300063) (var200094) (var300063))))))))
def gf36 : Int → Option ByteArray := fun (a) => cond (decide (-9223372036854775808 ≤ a) && decide (a ≤ 9223372036854775807)) (some ⟨(Lib.itoa a).toArray⟩) none
def g36 : var36.PT → Option var36.RT := gf36
def gf102 : (ByteArray × ByteArray) → Option (List ByteArray) := fun (a, b) => cond (decide (a.size < 4294967281) && decide (1 ≤ b.size)) (some (Lib.splitB b 0 (Lib.countB a b) a)) none
def g102 : var102.PT → Option var102.RT := gf102
def gf112 : (ByteArray × Int) → Option ByteArray := fun (a, b) => cond (decide (0 ≤ b) && decide (b ≤ 9223372036854775807) && decide (a.size * b.toNat ≤ 140737488355328)) (some ⟨(Lib.repeatL a.data.toList b.toNat).toArray⟩) none
def g112 : var112.PT → Option var112.RT := gf112
def gf114 : (ByteArray × ByteArray × ByteArray) → Option ByteArray := fun (a, b, c) => cond (decide (a.size < 4294967281) && decide (1 ≤ b.size) && decide (a.size + Lib.countB a b * c.size ≤ 140737488355328)) (some ⟨(Lib.replaceAll a.data.toList b.data.toList c.data.toList).toArray⟩) none
def g114 : var114.PT → Option var114.RT := gf114
def gf143 : (ByteArray × Int) → Option Int := fun (a, b) => some (Lib.indexByte a.data.toList b.toNat.toUInt8)
def g143 : var143.PT → Option var143.RT := gf143
def gf148 : (ByteArray × ByteArray) → Option ByteArray := fun (a, b) => cond (decide (a.size ≤ 9223372036854775807) && decide (b.size < 4294967281) && b.data.toList.all fun x => decide (x.toNat < 128)) (some ⟨(Lib.trimS a.data.toList b.data.toList).toArray⟩) none
def g148 : var148.PT → Option var148.RT := gf148
def gf215 : ByteArray → Option (Int × Bool) := fun (a) => (Lib.atoi a.data.toList).bind fun n => cond (decide (a.size ≤ 18)) (some (n, true)) none
def g215 : var215.PT → Option var215.RT := gf215
def gvT (u : Nat) : Option ((varT u).PT → Option (varT u).RT) := if h : u = 215 then some (h ▸ g215) else if h : u = 148 then some (h ▸ g148) else if h : u = 143 then some (h ▸ g143) else if h : u = 114 then some (h ▸ g114) else if h : u = 112 then some (h ▸ g112) else if h : u = 102 then some (h ▸ g102) else if h : u = 36 then some (h ▸ g36) else none
def prT (f : FuncId) : Option Prim := none
def A : An := ⟨varT, fun f => f, gvT, prT⟩
noncomputable abbrev P : Program := Tryz.prog
/-- strings.Trim -/
noncomputable def strings_Trim (k : Nat) (a : ByteArray) (b : ByteArray) : Option ByteArray := callA P A k 148 (a, b)
theorem strings_Trim_eq (k : Nat) (a : ByteArray) (b : ByteArray) : strings_Trim k a b = cond (decide (a.size ≤ 9223372036854775807) && decide (b.size < 4294967281) && b.data.toList.all fun x => decide (x.toNat < 128)) (some ⟨(Lib.trimS a.data.toList b.data.toList).toArray⟩) none := by kernel_rfl
/-- interchange/kit.IsTagPart -/
noncomputable def kit_IsTagPart (k : Nat) (a : ByteArray) : Option Bool := callA P A k 93 a
theorem kit_IsTagPart_eq (k : Nat) (a : ByteArray) : kit_IsTagPart (k + 1) a =
  (strings_Trim k a (bs [65, 66, 67, 68, 69, 70, 71, 72, 73, 74, 75, 76, 77, 78, 79, 80, 81, 82, 83, 84, 85, 86, 87, 88, 89, 90, 48, 49, 50, 51, 52, 53, 54, 55, 56, 57])).bind fun y0 =>
  some (eqS y0 (bs [])) := by kernel_rfl
/-- interchange/kit.InBytes -/
noncomputable def kit_InBytes (k : Nat) (a : ByteArray) (b : Int) (c : Int) : Option Bool := callA P A k 151 (a, b, c)
noncomputable def kit_InBytes_c2 (k : Nat) (s0 : ByteArray) (s1 : Int) (s2 : Int) (s9 : Int) (s10 : Int) : Option Bool := cutA P A k 151 (todoAt P A 151 2) [(0, (.byv .str)), (1, (.byv (.int .u8))), (2, (.byv (.int .u8))), (9, (.byv (.int .i64))), (10, (.byv (.int .i64)))] (s0, s1, s2, s9, s10)
theorem kit_InBytes_eq (k : Nat) (a : ByteArray) (b : Int) (c : Int) : kit_InBytes (k + 1) a b c =
  kit_InBytes_c2 k a b c (a.size : Int) 0 := by kernel_rfl
theorem kit_InBytes_c2_eq (k : Nat) (s0 : ByteArray) (s1 : Int) (s2 : Int) (s9 : Int) (s10 : Int) : kit_InBytes_c2 (k + 1) s0 s1 s2 s9 s10 =
  cond (decide (s10 < s9)) (
    cond (decide (0 ≤ s10)) (
    cond (decide (s10 < (s0.size : Int))) (
    cond ((!(!(decide ((bt s0 s10) < s1)))) || (decide (0 ≤ s10))) (
    cond ((!(!(decide ((bt s0 s10) < s1)))) || (decide (s10 < (s0.size : Int)))) (
    cond (cond (decide ((bt s0 s10) < s1)) true (decide ((bt s0 s10) > s2))) (
      some false) (
      kit_InBytes_c2 k s0 s1 s2 s9 (wi64 (s10 + 1)))) none) none) none) none) (
    some true) := by kernel_rfl
/-- interchange/flat.markFault -/
noncomputable def flat_markFault (k : Nat) (a : Int) : Option Bool := callA P A k 91 a
theorem flat_markFault_eq (k : Nat) (a : Int) : flat_markFault (k + 1) a =
  (cond (!(cond (decide (a < 32)) true (decide (a > 126)))) (kit_IsTagPart k (Utf8.encode a)) (some false)).bind fun y0 =>
  (cond (!(cond (cond (decide (a < 32)) true (decide (a > 126))) true y0)) (kit_InBytes k (Utf8.encode a) 97 122) (some false)).bind fun y1 =>
  some (cond (cond (cond (cond (cond (decide (a < 32)) true (decide (a > 126))) true y0) true y1) true (a == 45)) true (a == 46)) := by kernel_rfl
/-- interchange/flat.marksFault -/
noncomputable def flat_marksFault (k : Nat) (a : QF) : Option Int := callA P A k 51 a
theorem flat_marksFault_eq (k : Nat) (a : QF) : flat_marksFault (k + 1) a =
  (cond (a.1 != 0) (flat_markFault k a.1) (some false)).bind fun y0 =>
  (cond (((a.1 != 0) && (!y0)) && (a.2.1 != 0)) (flat_markFault k a.2.1) (some false)).bind fun y1 =>
  cond (cond (a.1 != 0) (cond (cond y0 true (cond (a.2.1 != 0) y1 false)) true (a.1 == a.2.1)) false) (
    some 12) (
    cond (cond (a.1 == 0) (a.2.1 != 0) false) (
      some 3) (
      some 0)) := by kernel_rfl
/-- interchange/flat.kindFault$1 -/
noncomputable def flat_kindFault_1_r (k : Nat) (a : QK) (b : QK) : Option Bool := callA P A k 100092 (a, b)
theorem flat_kindFault_1_r_eq (k : Nat) (a : QK) (b : QK) : flat_kindFault_1_r (k + 1) a b =
  some (eqS a.1 b.1) := by kernel_rfl
/-- slices.IndexFunc[[]interchange/api.RowKind,interchange/api.RowKind] -/
noncomputable def slices_IndexFunc_Lapi_RowKind_api_RowKind_of_flat_kindFault_1 (k : Nat) (a : List QK) (b : QK) : Option Int := callA P A k 100063 (a, b)
noncomputable def slices_IndexFunc_Lapi_RowKind_api_RowKind_of_flat_kindFault_1_c2 (k : Nat) (s0 : List QK) (s1 : QK) (s7 : Int) (s8 : Int) : Option Int := cutA P A k 100063 (todoAt P A 100063 2) [(0, (.byv (.sl eK))), (1, (.fn 92 [eK])), (7, (.byv (.int .i64))), (8, (.byv (.int .i64)))] (s0, s1, s7, s8)
theorem slices_IndexFunc_Lapi_RowKind_api_RowKind_of_flat_kindFault_1_eq (k : Nat) (a : List QK) (b : QK) : slices_IndexFunc_Lapi_RowKind_api_RowKind_of_flat_kindFault_1 (k + 1) a b =
  slices_IndexFunc_Lapi_RowKind_api_RowKind_of_flat_kindFault_1_c2 k a b (a.length : Int) 0 := by kernel_rfl
theorem slices_IndexFunc_Lapi_RowKind_api_RowKind_of_flat_kindFault_1_c2_eq (k : Nat) (s0 : List QK) (s1 : QK) (s7 : Int) (s8 : Int) : slices_IndexFunc_Lapi_RowKind_api_RowKind_of_flat_kindFault_1_c2 (k + 1) s0 s1 s7 s8 =
  cond (decide (s8 < s7)) (
    cond (decide (0 ≤ s8)) (
    cond (decide (s8 < (s0.length : Int))) (
    (flat_kindFault_1_r k (((s0.getD s8.toNat ((bs []), ([], (0, (bs []))))).1), ((((s0.getD s8.toNat ((bs []), ([], (0, (bs []))))).2).1), (((((s0.getD s8.toNat ((bs []), ([], (0, (bs []))))).2).2).1), ((((s0.getD s8.toNat ((bs []), ([], (0, (bs []))))).2).2).2)))) s1).bind fun y0 =>
    cond y0 (
      some s8) (
      slices_IndexFunc_Lapi_RowKind_api_RowKind_of_flat_kindFault_1_c2 k s0 s1 s7 (wi64 (s8 + 1)))) none) none) (
    some (-1)) := by kernel_rfl
/-- slices.ContainsFunc[[]interchange/api.RowKind,interchange/api.RowKind] -/
noncomputable def slices_ContainsFunc_Lapi_RowKind_api_RowKind_of_flat_kindFault_1 (k : Nat) (a : List QK) (b : QK) : Option Bool := callA P A k 100094 (a, b)
theorem slices_ContainsFunc_Lapi_RowKind_api_RowKind_of_flat_kindFault_1_eq (k : Nat) (a : List QK) (b : QK) : slices_ContainsFunc_Lapi_RowKind_api_RowKind_of_flat_kindFault_1 (k + 1) a b =
  (slices_IndexFunc_Lapi_RowKind_api_RowKind_of_flat_kindFault_1 k a b).bind fun y0 =>
  some (decide (y0 ≥ 0)) := by kernel_rfl
/-- interchange/kit.IsName -/
noncomputable def kit_IsName (k : Nat) (a : ByteArray) : Option Bool := callA P A k 152 a
theorem kit_IsName_eq (k : Nat) (a : ByteArray) : kit_IsName (k + 1) a =
  cond ((!(!(cond (decide ((a.size : Int) < 1)) true (decide ((a.size : Int) > 40))))) || true) (
  cond ((!(!(cond (decide ((a.size : Int) < 1)) true (decide ((a.size : Int) > 40))))) || (decide (0 < (a.size : Int)))) (
  cond ((!(!(cond (cond (decide ((a.size : Int) < 1)) true (decide ((a.size : Int) > 40))) true (decide ((bt a 0) < 97))))) || true) (
  cond ((!(!(cond (cond (decide ((a.size : Int) < 1)) true (decide ((a.size : Int) > 40))) true (decide ((bt a 0) < 97))))) || (decide (0 < (a.size : Int)))) (
  cond (cond (cond (cond (decide ((a.size : Int) < 1)) true (decide ((a.size : Int) > 40))) true (decide ((bt a 0) < 97))) true (decide ((bt a 0) > 122))) (
    some false) (
    (strings_Trim k a (bs [97, 98, 99, 100, 101, 102, 103, 104, 105, 106, 107, 108, 109, 110, 111, 112, 113, 114, 115, 116, 117, 118, 119, 120, 121, 122, 48, 49, 50, 51, 52, 53, 54, 55, 56, 57, 45])).bind fun y0 =>
    some (eqS y0 (bs [])))) none) none) none) none := by kernel_rfl
/-- interchange/flat.columnFault$1 -/
noncomputable def flat_columnFault_1_r (k : Nat) (a : QC) (b : QC) : Option Bool := callA P A k 100154 (a, b)
theorem flat_columnFault_1_r_eq (k : Nat) (a : QC) (b : QC) : flat_columnFault_1_r (k + 1) a b =
  some (eqS a.1 b.1) := by kernel_rfl
/-- slices.IndexFunc[[]interchange/api.Column,interchange/api.Column] -/
noncomputable def slices_IndexFunc_Lapi_Column_api_Column_of_flat_columnFault_1 (k : Nat) (a : List QC) (b : QC) : Option Int := callA P A k 100071 (a, b)
noncomputable def slices_IndexFunc_Lapi_Column_api_Column_of_flat_columnFault_1_c2 (k : Nat) (s0 : List QC) (s1 : QC) (s7 : Int) (s8 : Int) : Option Int := cutA P A k 100071 (todoAt P A 100071 2) [(0, (.byv (.sl eC))), (1, (.fn 154 [eC])), (7, (.byv (.int .i64))), (8, (.byv (.int .i64)))] (s0, s1, s7, s8)
theorem slices_IndexFunc_Lapi_Column_api_Column_of_flat_columnFault_1_eq (k : Nat) (a : List QC) (b : QC) : slices_IndexFunc_Lapi_Column_api_Column_of_flat_columnFault_1 (k + 1) a b =
  slices_IndexFunc_Lapi_Column_api_Column_of_flat_columnFault_1_c2 k a b (a.length : Int) 0 := by kernel_rfl
theorem slices_IndexFunc_Lapi_Column_api_Column_of_flat_columnFault_1_c2_eq (k : Nat) (s0 : List QC) (s1 : QC) (s7 : Int) (s8 : Int) : slices_IndexFunc_Lapi_Column_api_Column_of_flat_columnFault_1_c2 (k + 1) s0 s1 s7 s8 =
  cond (decide (s8 < s7)) (
    cond (decide (0 ≤ s8)) (
    cond (decide (s8 < (s0.length : Int))) (
    (flat_columnFault_1_r k (((s0.getD s8.toNat ((bs []), (0, (0, (0, (0, (false, (0, false)))))))).1), ((((s0.getD s8.toNat ((bs []), (0, (0, (0, (0, (false, (0, false)))))))).2).1), (((((s0.getD s8.toNat ((bs []), (0, (0, (0, (0, (false, (0, false)))))))).2).2).1), ((((((s0.getD s8.toNat ((bs []), (0, (0, (0, (0, (false, (0, false)))))))).2).2).2).1), (((((((s0.getD s8.toNat ((bs []), (0, (0, (0, (0, (false, (0, false)))))))).2).2).2).2).1), ((((((((s0.getD s8.toNat ((bs []), (0, (0, (0, (0, (false, (0, false)))))))).2).2).2).2).2).1), (((((((((s0.getD s8.toNat ((bs []), (0, (0, (0, (0, (false, (0, false)))))))).2).2).2).2).2).2).1), ((((((((s0.getD s8.toNat ((bs []), (0, (0, (0, (0, (false, (0, false)))))))).2).2).2).2).2).2).2)))))))) s1).bind fun y0 =>
    cond y0 (
      some s8) (
      slices_IndexFunc_Lapi_Column_api_Column_of_flat_columnFault_1_c2 k s0 s1 s7 (wi64 (s8 + 1)))) none) none) (
    some (-1)) := by kernel_rfl
/-- slices.ContainsFunc[[]interchange/api.Column,interchange/api.Column] -/
noncomputable def slices_ContainsFunc_Lapi_Column_api_Column_of_flat_columnFault_1 (k : Nat) (a : List QC) (b : QC) : Option Bool := callA P A k 100153 (a, b)
theorem slices_ContainsFunc_Lapi_Column_api_Column_of_flat_columnFault_1_eq (k : Nat) (a : List QC) (b : QC) : slices_ContainsFunc_Lapi_Column_api_Column_of_flat_columnFault_1 (k + 1) a b =
  (slices_IndexFunc_Lapi_Column_api_Column_of_flat_columnFault_1 k a b).bind fun y0 =>
  some (decide (y0 ≥ 0)) := by kernel_rfl
/-- interchange/kit.Outside -/
noncomputable def kit_Outside (k : Nat) (a : Int) (b : Int) (c : Int) : Option Bool := callA P A k 96 (a, b, c)
theorem kit_Outside_eq (k : Nat) (a : Int) (b : Int) (c : Int) : kit_Outside (k + 1) a b c =
  some (cond (decide (a < b)) true (decide (a > c))) := by kernel_rfl
/-- interchange/flat.formWidth -/
noncomputable def flat_formWidth (k : Nat) (a : Int) : Option Int := callA P A k 155 a
theorem flat_formWidth_eq (k : Nat) (a : Int) : flat_formWidth (k + 1) a =
  cond (a == 1) (
    cond (a == 1) (
      some 8) (
      cond (a == 4) (
        some 10) (
        cond (a == 5) (
          some 7) (
          some 0)))) (
    cond (a == 3) (
      some 8) (
      cond (a == 4) (
        some 10) (
        cond (a == 5) (
          some 7) (
          some 0)))) := by kernel_rfl
/-- interchange/flat.idle -/
noncomputable def flat_idle (k : Nat) (a : QF) (b : QC) : Option Bool := callA P A k 156 (a, b)
theorem flat_idle_eq (k : Nat) (a : QF) (b : QC) : flat_idle (k + 1) a b =
  some (cond (cond (cond (b.2.1 == 2) true (b.2.2.2.1 == 0)) (cond (b.2.1 == 3) true (b.2.2.2.2.1 == 0)) false) (cond (cond (!(b.2.1 == 3)) (a.1 == 0) false) true (cond (!b.2.2.2.2.2.1) (b.2.2.2.2.2.2.1 == 0) false)) false) := by kernel_rfl
/-- interchange/flat.columnFault -/
noncomputable def flat_columnFault (k : Nat) (a : QF) (b : QC) (c : List QC) : Option Int := callA P A k 95 (a, b, c)
theorem flat_columnFault_eq (k : Nat) (a : QF) (b : QC) (c : List QC) : flat_columnFault (k + 1) a b c =
  (kit_IsName k b.1).bind fun y0 =>
  cond (!y0) (
    some 5) (
    (slices_ContainsFunc_Lapi_Column_api_Column_of_flat_columnFault_1 k c b).bind fun y1 =>
    cond y1 (
      some 7) (
      (kit_Outside k b.2.1 1 3).bind fun y2 =>
      cond y2 (
        some 4) (
        (kit_Outside k b.2.2.1 1 100).bind fun y3 =>
        cond y3 (
          some 1) (
          (cond (b.2.1 == 2) (kit_Outside k b.2.2.2.1 0 9) (some false)).bind fun y4 =>
          cond (cond (b.2.1 == 2) y4 false) (
            some 1) (
            (cond (b.2.1 == 3) (flat_formWidth k b.2.2.2.2.1) (some 0)).bind fun y5 =>
            cond (cond (b.2.1 == 3) (y5 == 0) false) (
              some 4) (
              (flat_idle k a b).bind fun y6 =>
              cond (!y6) (
                some 3) (
                cond (a.1 != 0) (
                  some 0) (
                  cond (cond (cond (!(b.2.1 == 3)) (b.2.2.2.2.2.2.1 != 32) false) (!(cond (cond (b.2.1 == 2) (b.2.2.2.2.2.2.1 == 48) false) b.2.2.2.2.2.1 false)) false) (
                    some 3) (
                    (cond (b.2.1 == 3) (flat_formWidth k b.2.2.2.2.1) (some 0)).bind fun y7 =>
                    cond (cond (b.2.1 == 3) (b.2.2.1 != y7) false) (
                      some 12) (
                      some 0)))))))))) := by kernel_rfl
/-- interchange/flat.kindFault$2 -/
noncomputable def flat_kindFault_2_r (k : Nat) (a : QK) (b : QK) : Option Bool := callA P A k 100097 (a, b)
theorem flat_kindFault_2_r_eq (k : Nat) (a : QK) (b : QK) : flat_kindFault_2_r (k + 1) a b =
  some (eqS a.1 b.2.2.2) := by kernel_rfl
/-- slices.IndexFunc[[]interchange/api.RowKind,interchange/api.RowKind] -/
noncomputable def slices_IndexFunc_Lapi_RowKind_api_RowKind_of_flat_kindFault_2 (k : Nat) (a : List QK) (b : QK) : Option Int := callA P A k 200063 (a, b)
noncomputable def slices_IndexFunc_Lapi_RowKind_api_RowKind_of_flat_kindFault_2_c2 (k : Nat) (s0 : List QK) (s1 : QK) (s7 : Int) (s8 : Int) : Option Int := cutA P A k 200063 (todoAt P A 200063 2) [(0, (.byv (.sl eK))), (1, (.fn 97 [eK])), (7, (.byv (.int .i64))), (8, (.byv (.int .i64)))] (s0, s1, s7, s8)
theorem slices_IndexFunc_Lapi_RowKind_api_RowKind_of_flat_kindFault_2_eq (k : Nat) (a : List QK) (b : QK) : slices_IndexFunc_Lapi_RowKind_api_RowKind_of_flat_kindFault_2 (k + 1) a b =
  slices_IndexFunc_Lapi_RowKind_api_RowKind_of_flat_kindFault_2_c2 k a b (a.length : Int) 0 := by kernel_rfl
theorem slices_IndexFunc_Lapi_RowKind_api_RowKind_of_flat_kindFault_2_c2_eq (k : Nat) (s0 : List QK) (s1 : QK) (s7 : Int) (s8 : Int) : slices_IndexFunc_Lapi_RowKind_api_RowKind_of_flat_kindFault_2_c2 (k + 1) s0 s1 s7 s8 =
  cond (decide (s8 < s7)) (
    cond (decide (0 ≤ s8)) (
    cond (decide (s8 < (s0.length : Int))) (
    (flat_kindFault_2_r k (((s0.getD s8.toNat ((bs []), ([], (0, (bs []))))).1), ((((s0.getD s8.toNat ((bs []), ([], (0, (bs []))))).2).1), (((((s0.getD s8.toNat ((bs []), ([], (0, (bs []))))).2).2).1), ((((s0.getD s8.toNat ((bs []), ([], (0, (bs []))))).2).2).2)))) s1).bind fun y0 =>
    cond y0 (
      some s8) (
      slices_IndexFunc_Lapi_RowKind_api_RowKind_of_flat_kindFault_2_c2 k s0 s1 s7 (wi64 (s8 + 1)))) none) none) (
    some (-1)) := by kernel_rfl
/-- slices.ContainsFunc[[]interchange/api.RowKind,interchange/api.RowKind] -/
noncomputable def slices_ContainsFunc_Lapi_RowKind_api_RowKind_of_flat_kindFault_2 (k : Nat) (a : List QK) (b : QK) : Option Bool := callA P A k 200094 (a, b)
theorem slices_ContainsFunc_Lapi_RowKind_api_RowKind_of_flat_kindFault_2_eq (k : Nat) (a : List QK) (b : QK) : slices_ContainsFunc_Lapi_RowKind_api_RowKind_of_flat_kindFault_2 (k + 1) a b =
  (slices_IndexFunc_Lapi_RowKind_api_RowKind_of_flat_kindFault_2 k a b).bind fun y0 =>
  some (decide (y0 ≥ 0)) := by kernel_rfl
/-- interchange/flat.kindFault -/
noncomputable def flat_kindFault (k : Nat) (a : QF) (b : Int) : Option Int := callA P A k 52 (a, b)
noncomputable def flat_kindFault_c12 (k : Nat) (s1 : Int) (s2 : QF) (s5 : QK) (s62 : List QC) (s63 : Int) (s64 : Int) : Option Int := cutA P A k 52 (todoAt P A 52 12) [(1, (.byv (.int .i64))), (2, (.box 24 [(.byv (.int .u8)), (.byv (.int .u8)), (.byv (.sl eK)), (.byv .str), (.byv .str), (.byv .str), (.byv .str)])), (5, (.box 57 [(.byv .str), (.byv (.sl eC)), (.byv (.int .i64)), (.byv .str)])), (62, (.byv (.sl eC))), (63, (.byv (.int .i64))), (64, (.byv (.int .i64)))] (s1, s2, s5, s62, s63, s64)
theorem flat_kindFault_eq (k : Nat) (a : QF) (b : Int) : flat_kindFault (k + 1) a b =
  cond (decide (0 ≤ b)) (
  cond (decide (b < (a.2.2.1.length : Int))) (
  (cond (!(cond (decide ((((a.2.2.1.getD b.toNat ((bs []), ([], (0, (bs []))))).1).size : Int) < 1)) true (decide ((((a.2.2.1.getD b.toNat ((bs []), ([], (0, (bs []))))).1).size : Int) > 6)))) (kit_IsTagPart k ((a.2.2.1.getD b.toNat ((bs []), ([], (0, (bs []))))).1)) (some false)).bind fun y0 =>
  cond (cond (cond (decide ((((a.2.2.1.getD b.toNat ((bs []), ([], (0, (bs []))))).1).size : Int) < 1)) true (decide ((((a.2.2.1.getD b.toNat ((bs []), ([], (0, (bs []))))).1).size : Int) > 6))) true (!y0)) (
    some 3) (
    cond (decide (0 ≤ b)) (
    cond (decide (b ≤ (a.2.2.1.length : Int))) (
    (slices_ContainsFunc_Lapi_RowKind_api_RowKind_of_flat_kindFault_1 k (a.2.2.1.take b.toNat) (((a.2.2.1.getD b.toNat ((bs []), ([], (0, (bs []))))).1), ((((a.2.2.1.getD b.toNat ((bs []), ([], (0, (bs []))))).2).1), (((((a.2.2.1.getD b.toNat ((bs []), ([], (0, (bs []))))).2).2).1), ((((a.2.2.1.getD b.toNat ((bs []), ([], (0, (bs []))))).2).2).2))))).bind fun y1 =>
    cond y1 (
      some 7) (
      cond ((!(a.1 == 0)) || true) (
      cond ((!(a.1 == 0)) || (decide (0 < (a.2.2.1.length : Int)))) (
      cond (cond (a.1 == 0) ((((a.2.2.1.getD b.toNat ((bs []), ([], (0, (bs []))))).1).size : Int) != (((a.2.2.1.getD 0 ((bs []), ([], (0, (bs []))))).1).size : Int)) false) (
        some 3) (
        cond (decide (((((a.2.2.1.getD b.toNat ((bs []), ([], (0, (bs []))))).2).1).length : Int) > 50)) (
          some 2) (
          flat_kindFault_c12 k b a (((a.2.2.1.getD b.toNat ((bs []), ([], (0, (bs []))))).1), ((((a.2.2.1.getD b.toNat ((bs []), ([], (0, (bs []))))).2).1), (((((a.2.2.1.getD b.toNat ((bs []), ([], (0, (bs []))))).2).2).1), ((((a.2.2.1.getD b.toNat ((bs []), ([], (0, (bs []))))).2).2).2)))) (((a.2.2.1.getD b.toNat ((bs []), ([], (0, (bs []))))).2).1) ((((a.2.2.1.getD b.toNat ((bs []), ([], (0, (bs []))))).2).1).length : Int) 0))) none) none)) none) none)) none) none := by kernel_rfl
theorem flat_kindFault_c12_eq (k : Nat) (s1 : Int) (s2 : QF) (s5 : QK) (s62 : List QC) (s63 : Int) (s64 : Int) : flat_kindFault_c12 (k + 1) s1 s2 s5 s62 s63 s64 =
  cond (decide (s64 < s63)) (
    cond (decide (0 ≤ s64)) (
    cond (decide (s64 < (s62.length : Int))) (
    cond (decide (0 ≤ s64)) (
    cond (decide (s64 ≤ (s5.2.1.length : Int))) (
    (flat_columnFault k s2 (((s62.getD s64.toNat ((bs []), (0, (0, (0, (0, (false, (0, false)))))))).1), ((((s62.getD s64.toNat ((bs []), (0, (0, (0, (0, (false, (0, false)))))))).2).1), (((((s62.getD s64.toNat ((bs []), (0, (0, (0, (0, (false, (0, false)))))))).2).2).1), ((((((s62.getD s64.toNat ((bs []), (0, (0, (0, (0, (false, (0, false)))))))).2).2).2).1), (((((((s62.getD s64.toNat ((bs []), (0, (0, (0, (0, (false, (0, false)))))))).2).2).2).2).1), ((((((((s62.getD s64.toNat ((bs []), (0, (0, (0, (0, (false, (0, false)))))))).2).2).2).2).2).1), (((((((((s62.getD s64.toNat ((bs []), (0, (0, (0, (0, (false, (0, false)))))))).2).2).2).2).2).2).1), ((((((((s62.getD s64.toNat ((bs []), (0, (0, (0, (0, (false, (0, false)))))))).2).2).2).2).2).2).2)))))))) (s5.2.1.take s64.toNat)).bind fun y2 =>
    cond (y2 != 0) (
      some y2) (
      flat_kindFault_c12 k s1 s2 s5 s62 s63 (wi64 (s64 + 1)))) none) none) none) none) (
    (kit_Outside k s5.2.2.1 0 2000).bind fun y3 =>
    cond y3 (
      some 1) (
      cond ((!(!(eqS s5.2.2.2 (bs [])))) || (decide (0 ≤ s1))) (
      cond ((!(!(eqS s5.2.2.2 (bs [])))) || (decide (s1 ≤ (s2.2.2.1.length : Int)))) (
      (cond (!(eqS s5.2.2.2 (bs []))) (slices_ContainsFunc_Lapi_RowKind_api_RowKind_of_flat_kindFault_2 k (s2.2.2.1.take s1.toNat) s5) (some false)).bind fun y4 =>
      cond (cond (!(eqS s5.2.2.2 (bs []))) (!y4) false) (
        some 5) (
        some 0)) none) none)) := by kernel_rfl
/-- interchange/flat.kindAt$1 -/
noncomputable def flat_kindAt_1_r (k : Nat) (a : QK) (b : ByteArray) : Option Bool := callA P A k 100064 (a, b)
theorem flat_kindAt_1_r_eq (k : Nat) (a : QK) (b : ByteArray) : flat_kindAt_1_r (k + 1) a b =
  some (eqS a.1 b) := by kernel_rfl
/-- slices.IndexFunc[[]interchange/api.RowKind,interchange/api.RowKind] -/
noncomputable def slices_IndexFunc_Lapi_RowKind_api_RowKind_of_flat_kindAt_1 (k : Nat) (a : List QK) (b : ByteArray) : Option Int := callA P A k 300063 (a, b)
noncomputable def slices_IndexFunc_Lapi_RowKind_api_RowKind_of_flat_kindAt_1_c2 (k : Nat) (s0 : List QK) (s1 : ByteArray) (s7 : Int) (s8 : Int) : Option Int := cutA P A k 300063 (todoAt P A 300063 2) [(0, (.byv (.sl eK))), (1, (.fn 64 [.str])), (7, (.byv (.int .i64))), (8, (.byv (.int .i64)))] (s0, s1, s7, s8)
theorem slices_IndexFunc_Lapi_RowKind_api_RowKind_of_flat_kindAt_1_eq (k : Nat) (a : List QK) (b : ByteArray) : slices_IndexFunc_Lapi_RowKind_api_RowKind_of_flat_kindAt_1 (k + 1) a b =
  slices_IndexFunc_Lapi_RowKind_api_RowKind_of_flat_kindAt_1_c2 k a b (a.length : Int) 0 := by kernel_rfl
theorem slices_IndexFunc_Lapi_RowKind_api_RowKind_of_flat_kindAt_1_c2_eq (k : Nat) (s0 : List QK) (s1 : ByteArray) (s7 : Int) (s8 : Int) : slices_IndexFunc_Lapi_RowKind_api_RowKind_of_flat_kindAt_1_c2 (k + 1) s0 s1 s7 s8 =
  cond (decide (s8 < s7)) (
    cond (decide (0 ≤ s8)) (
    cond (decide (s8 < (s0.length : Int))) (
    (flat_kindAt_1_r k (((s0.getD s8.toNat ((bs []), ([], (0, (bs []))))).1), ((((s0.getD s8.toNat ((bs []), ([], (0, (bs []))))).2).1), (((((s0.getD s8.toNat ((bs []), ([], (0, (bs []))))).2).2).1), ((((s0.getD s8.toNat ((bs []), ([], (0, (bs []))))).2).2).2)))) s1).bind fun y0 =>
    cond y0 (
      some s8) (
      slices_IndexFunc_Lapi_RowKind_api_RowKind_of_flat_kindAt_1_c2 k s0 s1 s7 (wi64 (s8 + 1)))) none) none) (
    some (-1)) := by kernel_rfl
/-- interchange/flat.kindAt -/
noncomputable def flat_kindAt (k : Nat) (a : QF) (b : ByteArray) : Option (QK × Bool) := callA P A k 31 (a, b)
theorem flat_kindAt_eq (k : Nat) (a : QF) (b : ByteArray) : flat_kindAt (k + 1) a b =
  (slices_IndexFunc_Lapi_RowKind_api_RowKind_of_flat_kindAt_1 k a.2.2.1 b).bind fun y0 =>
  cond (decide (y0 < 0)) (
    some (((bs []), ([], (0, (bs [])))), false)) (
    cond (decide (0 ≤ y0)) (
    cond (decide (y0 < (a.2.2.1.length : Int))) (
    some ((((a.2.2.1.getD y0.toNat ((bs []), ([], (0, (bs []))))).1), ((((a.2.2.1.getD y0.toNat ((bs []), ([], (0, (bs []))))).2).1), (((((a.2.2.1.getD y0.toNat ((bs []), ([], (0, (bs []))))).2).2).1), ((((a.2.2.1.getD y0.toNat ((bs []), ([], (0, (bs []))))).2).2).2)))), true)) none) none) := by kernel_rfl
/-- interchange/flat.columnAt$1 -/
noncomputable def flat_columnAt_1_r (k : Nat) (a : QC) (b : ByteArray) : Option Bool := callA P A k 100072 (a, b)
theorem flat_columnAt_1_r_eq (k : Nat) (a : QC) (b : ByteArray) : flat_columnAt_1_r (k + 1) a b =
  some (eqS a.1 b) := by kernel_rfl
/-- slices.IndexFunc[[]interchange/api.Column,interchange/api.Column] -/
noncomputable def slices_IndexFunc_Lapi_Column_api_Column_of_flat_columnAt_1 (k : Nat) (a : List QC) (b : ByteArray) : Option Int := callA P A k 200071 (a, b)
noncomputable def slices_IndexFunc_Lapi_Column_api_Column_of_flat_columnAt_1_c2 (k : Nat) (s0 : List QC) (s1 : ByteArray) (s7 : Int) (s8 : Int) : Option Int := cutA P A k 200071 (todoAt P A 200071 2) [(0, (.byv (.sl eC))), (1, (.fn 72 [.str])), (7, (.byv (.int .i64))), (8, (.byv (.int .i64)))] (s0, s1, s7, s8)
theorem slices_IndexFunc_Lapi_Column_api_Column_of_flat_columnAt_1_eq (k : Nat) (a : List QC) (b : ByteArray) : slices_IndexFunc_Lapi_Column_api_Column_of_flat_columnAt_1 (k + 1) a b =
  slices_IndexFunc_Lapi_Column_api_Column_of_flat_columnAt_1_c2 k a b (a.length : Int) 0 := by kernel_rfl
theorem slices_IndexFunc_Lapi_Column_api_Column_of_flat_columnAt_1_c2_eq (k : Nat) (s0 : List QC) (s1 : ByteArray) (s7 : Int) (s8 : Int) : slices_IndexFunc_Lapi_Column_api_Column_of_flat_columnAt_1_c2 (k + 1) s0 s1 s7 s8 =
  cond (decide (s8 < s7)) (
    cond (decide (0 ≤ s8)) (
    cond (decide (s8 < (s0.length : Int))) (
    (flat_columnAt_1_r k (((s0.getD s8.toNat ((bs []), (0, (0, (0, (0, (false, (0, false)))))))).1), ((((s0.getD s8.toNat ((bs []), (0, (0, (0, (0, (false, (0, false)))))))).2).1), (((((s0.getD s8.toNat ((bs []), (0, (0, (0, (0, (false, (0, false)))))))).2).2).1), ((((((s0.getD s8.toNat ((bs []), (0, (0, (0, (0, (false, (0, false)))))))).2).2).2).1), (((((((s0.getD s8.toNat ((bs []), (0, (0, (0, (0, (false, (0, false)))))))).2).2).2).2).1), ((((((((s0.getD s8.toNat ((bs []), (0, (0, (0, (0, (false, (0, false)))))))).2).2).2).2).2).1), (((((((((s0.getD s8.toNat ((bs []), (0, (0, (0, (0, (false, (0, false)))))))).2).2).2).2).2).2).1), ((((((((s0.getD s8.toNat ((bs []), (0, (0, (0, (0, (false, (0, false)))))))).2).2).2).2).2).2).2)))))))) s1).bind fun y0 =>
    cond y0 (
      some s8) (
      slices_IndexFunc_Lapi_Column_api_Column_of_flat_columnAt_1_c2 k s0 s1 s7 (wi64 (s8 + 1)))) none) none) (
    some (-1)) := by kernel_rfl
/-- interchange/flat.columnAt -/
noncomputable def flat_columnAt (k : Nat) (a : QK) (b : ByteArray) : Option Int := callA P A k 35 (a, b)
theorem flat_columnAt_eq (k : Nat) (a : QK) (b : ByteArray) : flat_columnAt (k + 1) a b =
  (slices_IndexFunc_Lapi_Column_api_Column_of_flat_columnAt_1 k a.2.1 b).bind fun y0 =>
  some y0 := by kernel_rfl
/-- interchange/flat.endsFault -/
noncomputable def flat_endsFault (k : Nat) (a : QF) : Option Int := callA P A k 53 a
noncomputable def flat_endsFault_c2 (k : Nat) (s1 : QF) (s16 : List ByteArray) (s17 : Int) (s18 : Int) : Option Int := cutA P A k 53 (todoAt P A 53 2) [(1, (.box 24 [(.byv (.int .u8)), (.byv (.int .u8)), (.byv (.sl eK)), (.byv .str), (.byv .str), (.byv .str), (.byv .str)])), (16, (.own 9 .str)), (17, (.byv (.int .i64))), (18, (.byv (.int .i64)))] (s1, s16, s17, s18)
noncomputable def flat_endsFault_c14 (k : Nat) (s1 : QF) (s7 : QK) (s69 : List ByteArray) (s70 : Int) (s71 : Int) : Option Int := cutA P A k 53 (todoAt P A 53 14) [(1, (.box 24 [(.byv (.int .u8)), (.byv (.int .u8)), (.byv (.sl eK)), (.byv .str), (.byv .str), (.byv .str), (.byv .str)])), (7, (.box 57 [(.byv .str), (.byv (.sl eC)), (.byv (.int .i64)), (.byv .str)])), (69, (.own 9 .str)), (70, (.byv (.int .i64))), (71, (.byv (.int .i64)))] (s1, s7, s69, s70, s71)
theorem flat_endsFault_eq (k : Nat) (a : QF) : flat_endsFault (k + 1) a =
  flat_endsFault_c2 k a [a.2.2.2.1, a.2.2.2.2.1] 2 0 := by kernel_rfl
theorem flat_endsFault_c2_eq (k : Nat) (s1 : QF) (s16 : List ByteArray) (s17 : Int) (s18 : Int) : flat_endsFault_c2 (k + 1) s1 s16 s17 s18 =
  cond (decide (s18 < s17)) (
    cond (decide (0 ≤ s18)) (
    cond (decide (s18 < (s16.length : Int))) (
    (flat_kindAt k s1 (s16.getD s18.toNat (bs []))).bind fun y0 =>
    cond (cond (!(eqS (s16.getD s18.toNat (bs [])) (bs []))) (!y0.2) false) (
      some 5) (
      flat_endsFault_c2 k s1 s16 s17 (wi64 (s18 + 1)))) none) none) (
    cond (cond (eqS s1.2.2.2.1 s1.2.2.2.2.1) (!(eqS s1.2.2.2.1 (bs []))) false) (
      some 12) (
      cond (cond (eqS s1.2.2.2.2.1 (bs [])) (cond (!(eqS s1.2.2.2.2.2.1 (bs []))) true (!(eqS s1.2.2.2.2.2.2 (bs [])))) false) (
        some 3) (
        (flat_kindAt k s1 s1.2.2.2.2.1).bind fun y1 =>
        flat_endsFault_c14 k s1 y1.1 [s1.2.2.2.2.2.1, s1.2.2.2.2.2.2] 2 0))) := by kernel_rfl
theorem flat_endsFault_c14_eq (k : Nat) (s1 : QF) (s7 : QK) (s69 : List ByteArray) (s70 : Int) (s71 : Int) : flat_endsFault_c14 (k + 1) s1 s7 s69 s70 s71 =
  cond (decide (s71 < s70)) (
    cond (decide (0 ≤ s71)) (
    cond (decide (s71 < (s69.length : Int))) (
    cond (eqS (s69.getD s71.toNat (bs [])) (bs [])) (
      flat_endsFault_c14 k s1 s7 s69 s70 (wi64 (s71 + 1))) (
      (flat_columnAt k s7 (s69.getD s71.toNat (bs []))).bind fun y2 =>
      cond ((!(!(decide (y2 < 0)))) || (decide (0 ≤ y2))) (
      cond ((!(!(decide (y2 < 0)))) || (decide (y2 < (s7.2.1.length : Int)))) (
      cond ((!((!(cond (decide (y2 < 0)) true ((((s7.2.1.getD y2.toNat ((bs []), (0, (0, (0, (0, (false, (0, false)))))))).2).1) != 2))) && (s71 == 0))) || (decide (0 ≤ y2))) (
      cond ((!((!(cond (decide (y2 < 0)) true ((((s7.2.1.getD y2.toNat ((bs []), (0, (0, (0, (0, (false, (0, false)))))))).2).1) != 2))) && (s71 == 0))) || (decide (y2 < (s7.2.1.length : Int)))) (
      cond (cond (cond (decide (y2 < 0)) true ((((s7.2.1.getD y2.toNat ((bs []), (0, (0, (0, (0, (false, (0, false)))))))).2).1) != 2)) true (cond (s71 == 0) ((((((s7.2.1.getD y2.toNat ((bs []), (0, (0, (0, (0, (false, (0, false)))))))).2).2).2).1) != 0) false)) (
        some 5) (
        flat_endsFault_c14 k s1 s7 s69 s70 (wi64 (s71 + 1)))) none) none) none) none)) none) none) (
    cond (cond (eqS s1.2.2.2.2.2.1 s1.2.2.2.2.2.2) (!(eqS s1.2.2.2.2.2.1 (bs []))) false) (
      some 12) (
      some 0)) := by kernel_rfl
/-- interchange/flat.CheckFormat -/
noncomputable def flat_CheckFormat (k : Nat) (a : QF) : Option Int := callA P A k 22 a
noncomputable def flat_CheckFormat_c9 (k : Nat) (s1 : QF) (s21 : Int) (s22 : Int) : Option Int := cutA P A k 22 (todoAt P A 22 9) [(1, (.box 24 [(.byv (.int .u8)), (.byv (.int .u8)), (.byv (.sl eK)), (.byv .str), (.byv .str), (.byv .str), (.byv .str)])), (21, (.byv (.int .i64))), (22, (.byv (.int .i64)))] (s1, s21, s22)
theorem flat_CheckFormat_eq (k : Nat) (a : QF) : flat_CheckFormat (k + 1) a =
  (flat_marksFault k a).bind fun y0 =>
  cond (y0 != 0) (
    some y0) (
    cond ((a.2.2.1.length : Int) == 0) (
      some 9) (
      cond (decide ((a.2.2.1.length : Int) > 30)) (
        some 2) (
        flat_CheckFormat_c9 k a (a.2.2.1.length : Int) 0))) := by kernel_rfl
theorem flat_CheckFormat_c9_eq (k : Nat) (s1 : QF) (s21 : Int) (s22 : Int) : flat_CheckFormat_c9 (k + 1) s1 s21 s22 =
  cond (decide (s22 < s21)) (
    (flat_kindFault k s1 s22).bind fun y1 =>
    cond (y1 != 0) (
      some y1) (
      flat_CheckFormat_c9 k s1 s21 (wi64 (s22 + 1)))) (
    (flat_endsFault k s1).bind fun y2 =>
    some y2) := by kernel_rfl
/-- internal/stringslite.HasPrefix -/
noncomputable def stringslite_HasPrefix (k : Nat) (a : ByteArray) (b : ByteArray) : Option Bool := callA P A k 167 (a, b)
theorem stringslite_HasPrefix_eq (k : Nat) (a : ByteArray) (b : ByteArray) : stringslite_HasPrefix (k + 1) a b =
  cond ((!(decide ((a.size : Int) ≥ (b.size : Int)))) || (decide (0 ≤ (b.size : Int)))) (
  cond ((!(decide ((a.size : Int) ≥ (b.size : Int)))) || (decide ((b.size : Int) ≤ (a.size : Int)))) (
  some (cond (decide ((a.size : Int) ≥ (b.size : Int))) (eqS (a.extract 0 (b.size : Int).toNat) b) false)) none) none := by kernel_rfl
/-- internal/stringslite.CutPrefix -/
noncomputable def stringslite_CutPrefix (k : Nat) (a : ByteArray) (b : ByteArray) : Option (ByteArray × Bool) := callA P A k 170 (a, b)
theorem stringslite_CutPrefix_eq (k : Nat) (a : ByteArray) (b : ByteArray) : stringslite_CutPrefix (k + 1) a b =
  (stringslite_HasPrefix k a b).bind fun y0 =>
  cond (!y0) (
    some (a, false)) (
    cond (decide (0 ≤ (b.size : Int))) (
    cond (decide ((b.size : Int) ≤ (a.size : Int))) (
    some ((a.extract (b.size : Int).toNat a.size), true)) none) none) := by kernel_rfl
/-- strings.CutPrefix -/
noncomputable def strings_CutPrefix (k : Nat) (a : ByteArray) (b : ByteArray) : Option (ByteArray × Bool) := callA P A k 117 (a, b)
theorem strings_CutPrefix_eq (k : Nat) (a : ByteArray) (b : ByteArray) : strings_CutPrefix (k + 1) a b =
  (stringslite_CutPrefix k a b).bind fun y0 =>
  some y0 := by kernel_rfl
/-- internal/stringslite.IndexByte -/
noncomputable def stringslite_IndexByte (k : Nat) (a : ByteArray) (b : Int) : Option Int := callA P A k 143 (a, b)
theorem stringslite_IndexByte_eq (k : Nat) (a : ByteArray) (b : Int) : stringslite_IndexByte k a b = some (Lib.indexByte a.data.toList b.toNat.toUInt8) := by kernel_rfl
/-- internal/stringslite.Index -/
noncomputable def stringslite_Index (k : Nat) (a : ByteArray) (b : ByteArray) : Option Int := callA P A k 145 (a, b)
theorem stringslite_Index_eq (k : Nat) (a : ByteArray) (b : ByteArray) : stringslite_Index (k + 1) a b =
  cond (cond ((b.size : Int) == 0) true (eqS b a)) (
    some 0) (
    cond ((b.size : Int) == 1) (
      cond (decide (0 < (b.size : Int))) (
      (stringslite_IndexByte k a (bt b 0)).bind fun y0 =>
      some y0) none) (
      cond (decide ((b.size : Int) ≥ (a.size : Int))) (
        some (-1)) (
        none))) := by kernel_rfl
/-- internal/stringslite.Cut -/
noncomputable def stringslite_Cut (k : Nat) (a : ByteArray) (b : ByteArray) : Option (ByteArray × ByteArray × Bool) := callA P A k 83 (a, b)
theorem stringslite_Cut_eq (k : Nat) (a : ByteArray) (b : ByteArray) : stringslite_Cut (k + 1) a b =
  (stringslite_Index k a b).bind fun y0 =>
  cond (decide (y0 ≥ 0)) (
    cond (decide (0 ≤ y0)) (
    cond (decide (y0 ≤ (a.size : Int))) (
    cond (decide (0 ≤ (wi64 (y0 + (b.size : Int))))) (
    cond (decide ((wi64 (y0 + (b.size : Int))) ≤ (a.size : Int))) (
    some ((a.extract 0 y0.toNat), ((a.extract (wi64 (y0 + (b.size : Int))).toNat a.size), true))) none) none) none) none) (
    some (a, ((bs []), false))) := by kernel_rfl
/-- strings.Cut -/
noncomputable def strings_Cut (k : Nat) (a : ByteArray) (b : ByteArray) : Option (ByteArray × ByteArray × Bool) := callA P A k 45 (a, b)
theorem strings_Cut_eq (k : Nat) (a : ByteArray) (b : ByteArray) : strings_Cut (k + 1) a b =
  (stringslite_Cut k a b).bind fun y0 =>
  some y0 := by kernel_rfl
/-- interchange/kit.IsDigits -/
noncomputable def kit_IsDigits (k : Nat) (a : ByteArray) : Option Bool := callA P A k 119 a
theorem kit_IsDigits_eq (k : Nat) (a : ByteArray) : kit_IsDigits (k + 1) a =
  (cond (!(eqS a (bs []))) (kit_InBytes k a 48 57) (some false)).bind fun y0 =>
  some (cond (!(eqS a (bs []))) y0 false) := by kernel_rfl
/-- interchange/amount.isWhole -/
noncomputable def amount_isWhole (k : Nat) (a : ByteArray) : Option Bool := callA P A k 118 a
theorem amount_isWhole_eq (k : Nat) (a : ByteArray) : amount_isWhole (k + 1) a =
  (kit_IsDigits k a).bind fun y0 =>
  cond ((!(y0 && (!((a.size : Int) == 1)))) || true) (
  cond ((!(y0 && (!((a.size : Int) == 1)))) || (decide (0 < (a.size : Int)))) (
  some (cond y0 (cond ((a.size : Int) == 1) true ((bt a 0) != 48)) false)) none) none := by kernel_rfl
/-- interchange/whole.trimmed -/
noncomputable def whole_trimmed (k : Nat) (a : List Int) : Option (List Int) := callA P A k 169 a
noncomputable def whole_trimmed_c1 (k : Nat) (s0 : List Int) : Option (List Int) := cutA P A k 169 (todoAt P A 169 1) [(0, (.byv (.sl (.int .u32))))] s0
theorem whole_trimmed_eq (k : Nat) (a : List Int) : whole_trimmed (k + 1) a =
  whole_trimmed_c1 k a := by kernel_rfl
theorem whole_trimmed_c1_eq (k : Nat) (s0 : List Int) : whole_trimmed_c1 (k + 1) s0 =
  cond ((!(decide ((s0.length : Int) > 0))) || (decide (0 ≤ (wi64 ((s0.length : Int) - 1))))) (
  cond ((!(decide ((s0.length : Int) > 0))) || (decide ((wi64 ((s0.length : Int) - 1)) < (s0.length : Int)))) (
  cond (cond (decide ((s0.length : Int) > 0)) ((s0.getD (wi64 ((s0.length : Int) - 1)).toNat 0) == 0) false) (
    cond (decide (0 ≤ (wi64 ((s0.length : Int) - 1)))) (
    cond (decide ((wi64 ((s0.length : Int) - 1)) ≤ (s0.length : Int))) (
    whole_trimmed_c1 k (s0.take (wi64 ((s0.length : Int) - 1)).toNat)) none) none) (
    some s0)) none) none := by kernel_rfl
/-- interchange/whole.made -/
noncomputable def whole_made (k : Nat) (a : Bool) (b : List Int) : Option (Bool × List Int) := callA P A k 116 (a, b)
theorem whole_made_eq (k : Nat) (a : Bool) (b : List Int) : whole_made (k + 1) a b =
  (whole_trimmed k b).bind fun y0 =>
  some ((cond a (decide ((y0.length : Int) > 0)) false), y0) := by kernel_rfl
/-- interchange/whole.Of -/
noncomputable def whole_Of (k : Nat) (a : Int) : Option (Bool × List Int) := callA P A k 65 a
theorem whole_Of_eq (k : Nat) (a : Int) : whole_Of (k + 1) a =
  cond (decide (a < 0)) (
    (whole_made k (decide (a < 0)) [(wu32 (wu64 (0 - (wu64 a)))), (wu32 (shrI .u64 (wu64 (0 - (wu64 a))) 32))]).bind fun y0 =>
    some y0) (
    (whole_made k (decide (a < 0)) [(wu32 (wu64 a)), (wu32 (shrI .u64 (wu64 a) 32))]).bind fun y1 =>
    some y1) := by kernel_rfl
/-- (interchange/whole.Int).Times -/
noncomputable def whole_Int_Times (k : Nat) (a : Bool × List Int) (b : Bool × List Int) : Option (Bool × List Int) := callA P A k 171 (a, b)
noncomputable def whole_Int_Times_c3 (k : Nat) (s2 : Bool × List Int) (s3 : Bool × List Int) (s4 : Bool × List Int) (s5 : List Int) (s20 : List Int) (s21 : Int) (s22 : Int) : Option (Bool × List Int) := cutA P A k 171 (todoAt P A 171 3) [(2, (.box 107 [(.byv .bool), (.byv (.sl (.int .u32)))])), (3, (.box 107 [(.byv .bool), (.byv (.sl (.int .u32)))])), (4, (.box 107 [(.byv .bool), (.own 147 (.int .u32))])), (5, (.own 147 (.int .u32))), (20, (.byv (.sl (.int .u32)))), (21, (.byv (.int .i64))), (22, (.byv (.int .i64)))] (s2, s3, s4, s5, s20, s21, s22)
noncomputable def whole_Int_Times_c7 (k : Nat) (s2 : Bool × List Int) (s3 : Bool × List Int) (s4 : Bool × List Int) (s5 : List Int) (s6 : Int) (s7 : Int) (s8 : Int) (s20 : List Int) (s21 : Int) (s22 : Int) (s28 : List Int) (s29 : Int) (s30 : Int) : Option (Bool × List Int) := cutA P A k 171 (todoAt P A 171 7) [(2, (.box 107 [(.byv .bool), (.byv (.sl (.int .u32)))])), (3, (.box 107 [(.byv .bool), (.byv (.sl (.int .u32)))])), (4, (.box 107 [(.byv .bool), (.own 147 (.int .u32))])), (5, (.own 147 (.int .u32))), (6, (.byv (.int .i64))), (7, (.byv (.int .u32))), (8, (.byv (.int .u64))), (20, (.byv (.sl (.int .u32)))), (21, (.byv (.int .i64))), (22, (.byv (.int .i64))), (28, (.byv (.sl (.int .u32)))), (29, (.byv (.int .i64))), (30, (.byv (.int .i64)))] (s2, s3, s4, s5, s6, s7, s8, s20, s21, s22, s28, s29, s30)
theorem whole_Int_Times_eq (k : Nat) (a : Bool × List Int) (b : Bool × List Int) : whole_Int_Times (k + 1) a b =
  cond (decide (0 ≤ (wi64 ((a.2.length : Int) + (b.2.length : Int))))) (
  cond (decide ((wi64 ((a.2.length : Int) + (b.2.length : Int))).toNat ≤ 35184372088832)) (
  whole_Int_Times_c3 k a b (false, []) (List.replicate (wi64 ((a.2.length : Int) + (b.2.length : Int))).toNat 0) a.2 (a.2.length : Int) 0) none) none := by kernel_rfl
theorem whole_Int_Times_c3_eq (k : Nat) (s2 : Bool × List Int) (s3 : Bool × List Int) (s4 : Bool × List Int) (s5 : List Int) (s20 : List Int) (s21 : Int) (s22 : Int) : whole_Int_Times_c3 (k + 1) s2 s3 s4 s5 s20 s21 s22 =
  cond (decide (s22 < s21)) (
    cond (decide (0 ≤ s22)) (
    cond (decide (s22 < (s20.length : Int))) (
    whole_Int_Times_c7 k s2 s3 s4 s5 s22 (s20.getD s22.toNat 0) 0 s20 s21 s22 s3.2 (s3.2.length : Int) 0) none) none) (
    (whole_made k (!(s2.1 == s3.1)) s5).bind fun y0 =>
    some y0) := by kernel_rfl
theorem whole_Int_Times_c7_eq (k : Nat) (s2 : Bool × List Int) (s3 : Bool × List Int) (s4 : Bool × List Int) (s5 : List Int) (s6 : Int) (s7 : Int) (s8 : Int) (s20 : List Int) (s21 : Int) (s22 : Int) (s28 : List Int) (s29 : Int) (s30 : Int) : whole_Int_Times_c7 (k + 1) s2 s3 s4 s5 s6 s7 s8 s20 s21 s22 s28 s29 s30 =
  cond (decide (s30 < s29)) (
    cond (decide (0 ≤ s30)) (
    cond (decide (s30 < (s28.length : Int))) (
    cond (decide (0 ≤ (wi64 (s6 + s30)))) (
    cond (decide ((wi64 (s6 + s30)) < (s5.length : Int))) (
    cond (decide (0 ≤ (wi64 (s6 + s30)))) (
    cond (decide ((wi64 (s6 + s30)) < (s5.length : Int))) (
    whole_Int_Times_c7 k s2 s3 s4 (s5.set (wi64 (s6 + s30)).toNat (wu32 (wu64 (s8 + (wu64 ((wu64 (s5.getD (wi64 (s6 + s30)).toNat 0)) + (wu64 ((wu64 s7) * (wu64 (s28.getD s30.toNat 0)))))))))) s6 s7 (shrI .u64 (wu64 (s8 + (wu64 ((wu64 (s5.getD (wi64 (s6 + s30)).toNat 0)) + (wu64 ((wu64 s7) * (wu64 (s28.getD s30.toNat 0)))))))) 32) s20 s21 s22 s28 s29 (wi64 (s30 + 1))) none) none) none) none) none) none) (
    cond (decide (0 ≤ (wi64 (s6 + (s3.2.length : Int))))) (
    cond (decide ((wi64 (s6 + (s3.2.length : Int))) < (s5.length : Int))) (
    whole_Int_Times_c3 k s2 s3 s4 (s5.set (wi64 (s6 + (s3.2.length : Int))).toNat (wu32 s8)) s20 s21 (wi64 (s22 + 1))) none) none) := by kernel_rfl
/-- interchange/whole.sum -/
noncomputable def whole_sum (k : Nat) (a : List Int) (b : List Int) : Option (List Int) := callA P A k 121 (a, b)
noncomputable def whole_sum_c3 (k : Nat) (s0 : List Int) (s1 : List Int) : Option (List Int) := cutA P A k 121 (todoAt P A 121 3) [(0, (.byv (.sl (.int .u32)))), (1, (.byv (.sl (.int .u32))))] (s0, s1)
noncomputable def whole_sum_c6 (k : Nat) (s1 : List Int) (s5 : List Int) (s6 : Int) (s20 : List Int) (s21 : Int) (s22 : Int) : Option (List Int) := cutA P A k 121 (todoAt P A 121 6) [(1, (.byv (.sl (.int .u32)))), (5, (.own 147 (.int .u32))), (6, (.byv (.int .u64))), (20, (.byv (.sl (.int .u32)))), (21, (.byv (.int .i64))), (22, (.byv (.int .i64)))] (s1, s5, s6, s20, s21, s22)
theorem whole_sum_eq (k : Nat) (a : List Int) (b : List Int) : whole_sum (k + 1) a b =
  cond (decide ((a.length : Int) < (b.length : Int))) (
    whole_sum_c3 k b a) (
    whole_sum_c3 k a b) := by kernel_rfl
theorem whole_sum_c3_eq (k : Nat) (s0 : List Int) (s1 : List Int) : whole_sum_c3 (k + 1) s0 s1 =
  cond (decide (0 ≤ (wi64 ((s0.length : Int) + 1)))) (
  cond (decide ((wi64 ((s0.length : Int) + 1)).toNat ≤ 35184372088832)) (
  whole_sum_c6 k s1 (List.replicate 0 0) 0 s0 (s0.length : Int) 0) none) none := by kernel_rfl
theorem whole_sum_c6_eq (k : Nat) (s1 : List Int) (s5 : List Int) (s6 : Int) (s20 : List Int) (s21 : Int) (s22 : Int) : whole_sum_c6 (k + 1) s1 s5 s6 s20 s21 s22 =
  cond (decide (s22 < s21)) (
    cond (decide (0 ≤ s22)) (
    cond (decide (s22 < (s20.length : Int))) (
    cond (decide (s22 < (s1.length : Int))) (
      cond (decide (0 ≤ s22)) (
      cond (decide (s22 < (s1.length : Int))) (
      cond (decide (s5.length + 1 < 35184372088832)) (
      whole_sum_c6 k s1 (s5 ++ [(wu32 (wu64 ((wu64 (s6 + (wu64 (s20.getD s22.toNat 0)))) + (wu64 (s1.getD s22.toNat 0)))))]) (shrI .u64 (wu64 ((wu64 (s6 + (wu64 (s20.getD s22.toNat 0)))) + (wu64 (s1.getD s22.toNat 0)))) 32) s20 s21 (wi64 (s22 + 1))) none) none) none) (
      cond (decide (s5.length + 1 < 35184372088832)) (
      whole_sum_c6 k s1 (s5 ++ [(wu32 (wu64 (s6 + (wu64 (s20.getD s22.toNat 0)))))]) (shrI .u64 (wu64 (s6 + (wu64 (s20.getD s22.toNat 0)))) 32) s20 s21 (wi64 (s22 + 1))) none)) none) none) (
    cond (decide (s5.length + 1 < 35184372088832)) (
    some (s5 ++ [(wu32 s6)])) none) := by kernel_rfl
/-- interchange/whole.compare -/
noncomputable def whole_compare (k : Nat) (a : List Int) (b : List Int) : Option Int := callA P A k 122 (a, b)
noncomputable def whole_compare_c4 (k : Nat) (s0 : List Int) (s1 : List Int) (s5 : Int) : Option Int := cutA P A k 122 (todoAt P A 122 4) [(0, (.byv (.sl (.int .u32)))), (1, (.byv (.sl (.int .u32)))), (5, (.byv (.int .i64)))] (s0, s1, s5)
theorem whole_compare_eq (k : Nat) (a : List Int) (b : List Int) : whole_compare (k + 1) a b =
  cond ((a.length : Int) != (b.length : Int)) (
    some (wi64 ((a.length : Int) - (b.length : Int)))) (
    whole_compare_c4 k a b (wi64 ((a.length : Int) - 1))) := by kernel_rfl
theorem whole_compare_c4_eq (k : Nat) (s0 : List Int) (s1 : List Int) (s5 : Int) : whole_compare_c4 (k + 1) s0 s1 s5 =
  cond (decide (s5 ≥ 0)) (
    cond (decide (0 ≤ s5)) (
    cond (decide (s5 < (s0.length : Int))) (
    cond (decide (0 ≤ s5)) (
    cond (decide (s5 < (s1.length : Int))) (
    cond ((s0.getD s5.toNat 0) != (s1.getD s5.toNat 0)) (
      cond (decide (0 ≤ s5)) (
      cond (decide (s5 < (s0.length : Int))) (
      cond (decide (0 ≤ s5)) (
      cond (decide (s5 < (s1.length : Int))) (
      cond (decide ((s0.getD s5.toNat 0) < (s1.getD s5.toNat 0))) (
        some (-1)) (
        some 1)) none) none) none) none) (
      whole_compare_c4 k s0 s1 (wi64 (s5 - 1)))) none) none) none) none) (
    some 0) := by kernel_rfl
/-- interchange/whole.less -/
noncomputable def whole_less (k : Nat) (a : List Int) (b : List Int) : Option (List Int) := callA P A k 123 (a, b)
noncomputable def whole_less_c4 (k : Nat) (s1 : List Int) (s5 : List Int) (s6 : Int) (s13 : List Int) (s14 : Int) (s15 : Int) : Option (List Int) := cutA P A k 123 (todoAt P A 123 4) [(1, (.byv (.sl (.int .u32)))), (5, (.own 147 (.int .u32))), (6, (.byv (.int .u64))), (13, (.byv (.sl (.int .u32)))), (14, (.byv (.int .i64))), (15, (.byv (.int .i64)))] (s1, s5, s6, s13, s14, s15)
theorem whole_less_eq (k : Nat) (a : List Int) (b : List Int) : whole_less (k + 1) a b =
  cond (decide (0 ≤ (a.length : Int))) (
  cond (decide ((a.length : Int).toNat ≤ 35184372088832)) (
  whole_less_c4 k b (List.replicate 0 0) 0 a (a.length : Int) 0) none) none := by kernel_rfl
theorem whole_less_c4_eq (k : Nat) (s1 : List Int) (s5 : List Int) (s6 : Int) (s13 : List Int) (s14 : Int) (s15 : Int) : whole_less_c4 (k + 1) s1 s5 s6 s13 s14 s15 =
  cond (decide (s15 < s14)) (
    cond (decide (0 ≤ s15)) (
    cond (decide (s15 < (s13.length : Int))) (
    cond (decide (s15 < (s1.length : Int))) (
      cond (decide (0 ≤ s15)) (
      cond (decide (s15 < (s1.length : Int))) (
      cond (decide (s5.length + 1 < 35184372088832)) (
      whole_less_c4 k s1 (s5 ++ [(wu32 (wu64 ((wu64 ((wu64 (s13.getD s15.toNat 0)) - s6)) - (wu64 (s1.getD s15.toNat 0)))))]) (bitsI .and .u64 (shrI .u64 (wu64 ((wu64 ((wu64 (s13.getD s15.toNat 0)) - s6)) - (wu64 (s1.getD s15.toNat 0)))) 32) 1) s13 s14 (wi64 (s15 + 1))) none) none) none) (
      cond (decide (s5.length + 1 < 35184372088832)) (
      whole_less_c4 k s1 (s5 ++ [(wu32 (wu64 ((wu64 (s13.getD s15.toNat 0)) - s6)))]) (bitsI .and .u64 (shrI .u64 (wu64 ((wu64 (s13.getD s15.toNat 0)) - s6)) 32) 1) s13 s14 (wi64 (s15 + 1))) none)) none) none) (
    (whole_trimmed k s5).bind fun y0 =>
    some y0) := by kernel_rfl
/-- (interchange/whole.Int).Plus -/
noncomputable def whole_Int_Plus (k : Nat) (a : Bool × List Int) (b : Bool × List Int) : Option (Bool × List Int) := callA P A k 67 (a, b)
theorem whole_Int_Plus_eq (k : Nat) (a : Bool × List Int) (b : Bool × List Int) : whole_Int_Plus (k + 1) a b =
  cond (a.1 == b.1) (
    (whole_sum k a.2 b.2).bind fun y0 =>
    (whole_made k a.1 y0).bind fun y1 =>
    some y1) (
    (whole_compare k a.2 b.2).bind fun y2 =>
    cond (decide (y2 ≥ 0)) (
      (whole_less k a.2 b.2).bind fun y3 =>
      (whole_made k a.1 y3).bind fun y4 =>
      some y4) (
      (whole_less k b.2 a.2).bind fun y5 =>
      (whole_made k b.1 y5).bind fun y6 =>
      some y6)) := by kernel_rfl
/-- (interchange/whole.Int).Sign -/
noncomputable def whole_Int_Sign (k : Nat) (a : Bool × List Int) : Option Int := callA P A k 126 a
theorem whole_Int_Sign_eq (k : Nat) (a : Bool × List Int) : whole_Int_Sign (k + 1) a =
  cond a.1 (
    some (-1)) (
    cond ((a.2.length : Int) == 0) (
      some 0) (
      some 1)) := by kernel_rfl
/-- (interchange/whole.Int).Minus -/
noncomputable def whole_Int_Minus (k : Nat) (a : Bool × List Int) : Option (Bool × List Int) := callA P A k 127 a
theorem whole_Int_Minus_eq (k : Nat) (a : Bool × List Int) : whole_Int_Minus (k + 1) a =
  (whole_made k (!a.1) a.2).bind fun y0 =>
  some y0 := by kernel_rfl
/-- (interchange/whole.Int).Int -/
noncomputable def whole_Int_Int (k : Nat) (a : Bool × List Int) (b : Int) : Option (Int × Bool) := callA P A k 173 (a, b)
noncomputable def whole_Int_Int_c5 (k : Nat) (s1 : Int) (s2 : Bool × List Int) (s6 : Int) (s14 : List Int) (s15 : Int) (s16 : Int) : Option (Int × Bool) := cutA P A k 173 (todoAt P A 173 5) [(1, (.byv (.int .i64))), (2, (.box 107 [(.byv .bool), (.byv (.sl (.int .u32)))])), (6, (.byv (.int .u64))), (14, (.byv (.sl (.int .u32)))), (15, (.byv (.int .i64))), (16, (.byv (.int .i64)))] (s1, s2, s6, s14, s15, s16)
theorem whole_Int_Int_eq (k : Nat) (a : Bool × List Int) (b : Int) : whole_Int_Int (k + 1) a b =
  cond (decide ((a.2.length : Int) > 2)) (
    some (0, false)) (
    whole_Int_Int_c5 k b a 0 a.2 (a.2.length : Int) 0) := by kernel_rfl
theorem whole_Int_Int_c5_eq (k : Nat) (s1 : Int) (s2 : Bool × List Int) (s6 : Int) (s14 : List Int) (s15 : Int) (s16 : Int) : whole_Int_Int_c5 (k + 1) s1 s2 s6 s14 s15 s16 =
  cond (decide (s16 < s15)) (
    cond (decide (0 ≤ s16)) (
    cond (decide (s16 < (s14.length : Int))) (
    cond (decide (0 ≤ (wi64 (32 * s16)))) (
    whole_Int_Int_c5 k s1 s2 (bitsI .or .u64 s6 (shlI .u64 (wu64 (s14.getD s16.toNat 0)) (wi64 (32 * s16)))) s14 s15 (wi64 (s16 + 1))) none) none) none) (
    cond (decide (s6 > (wu64 s1))) (
      some (0, false)) (
      cond s2.1 (
        some ((wi64 (0 - (wi64 s6))), true)) (
        some ((wi64 s6), true)))) := by kernel_rfl
/-- interchange/amount.Made -/
noncomputable def amount_Made (k : Nat) (a : Bool × List Int) (b : Int) : Option ((Int × Int) × Int) := callA P A k 128 (a, b)
theorem amount_Made_eq (k : Nat) (a : Bool × List Int) (b : Int) : amount_Made (k + 1) a b =
  (whole_Int_Int k a 1000000000000000).bind fun y0 =>
  cond (!y0.2) (
    some ((0, 0), 1)) (
    some ((y0.1, b), 0)) := by kernel_rfl
/-- interchange/amount.read -/
noncomputable def amount_read (k : Nat) (a : Bool) (b : ByteArray) (c : ByteArray) : Option ((Int × Int) × Int) := callA P A k 120 (a, b, c)
noncomputable def amount_read_c3 (k : Nat) (s0 : Bool) (s1 : ByteArray) (s2 : ByteArray) (s6 : Int × Int) (s8 : Bool × List Int) (s14 : Int) (s15 : Int) : Option ((Int × Int) × Int) := cutA P A k 120 (todoAt P A 120 3) [(0, (.byv .bool)), (1, (.byv .str)), (2, (.byv .str)), (6, (.box 62 [(.byv (.int .i64)), (.byv (.int .i64))])), (8, (.box 107 [(.byv .bool), (.byv (.sl (.int .u32)))])), (14, (.byv (.int .i64))), (15, (.byv (.int .i64)))] (s0, s1, s2, s6, s8, s14, s15)
theorem amount_read_eq (k : Nat) (a : Bool) (b : ByteArray) (c : ByteArray) : amount_read (k + 1) a b c =
  (whole_Of k 0).bind fun y0 =>
  cond (decide (b.size + c.size ≤ 9223372036854775807)) (
  amount_read_c3 k a b c (0, 0) y0 ((b ++ c).size : Int) 0) none := by kernel_rfl
theorem amount_read_c3_eq (k : Nat) (s0 : Bool) (s1 : ByteArray) (s2 : ByteArray) (s6 : Int × Int) (s8 : Bool × List Int) (s14 : Int) (s15 : Int) : amount_read_c3 (k + 1) s0 s1 s2 s6 s8 s14 s15 =
  cond (decide (s15 < s14)) (
    (whole_Of k 10).bind fun y1 =>
    (whole_Int_Times k s8 y1).bind fun y2 =>
    cond (decide (s1.size + s2.size ≤ 9223372036854775807)) (
    cond (decide (0 ≤ s15)) (
    cond (decide (s15 < ((s1 ++ s2).size : Int))) (
    (whole_Of k (wi64 (wu8 ((bt (s1 ++ s2) s15) - 48)))).bind fun y3 =>
    (whole_Int_Plus k y2 y3).bind fun y4 =>
    amount_read_c3 k s0 s1 s2 s6 y4 s14 (wi64 (s15 + 1))) none) none) none) (
    cond s0 (
      (whole_Int_Sign k s8).bind fun y5 =>
      cond (y5 == 0) (
        some ((0, 0), 10)) (
        (whole_Int_Minus k s8).bind fun y6 =>
        (amount_Made k y6 (s2.size : Int)).bind fun y7 =>
        some y7)) (
      (amount_Made k s8 (s2.size : Int)).bind fun y8 =>
      some y8)) := by kernel_rfl
/-- interchange/amount.ReadText -/
noncomputable def amount_ReadText (k : Nat) (a : ByteArray) : Option ((Int × Int) × Int) := callA P A k 66 a
theorem amount_ReadText_eq (k : Nat) (a : ByteArray) : amount_ReadText (k + 1) a =
  (strings_CutPrefix k a (bs [45])).bind fun y0 =>
  (strings_Cut k y0.1 (bs [46])).bind fun y1 =>
  (cond (!(decide ((a.size : Int) > 40))) (amount_isWhole k y1.1) (some false)).bind fun y2 =>
  (cond ((!(cond (decide ((a.size : Int) > 40)) true (!y2))) && y1.2.2) (kit_IsDigits k y1.2.1) (some false)).bind fun y3 =>
  cond (cond (cond (decide ((a.size : Int) > 40)) true (!y2)) true (cond y1.2.2 (cond (!y3) true (decide ((y1.2.1.size : Int) > 9))) false)) (
    some ((0, 0), 10)) (
    (amount_read k y0.2 y1.1 y1.2.1).bind fun y4 =>
    some y4) := by kernel_rfl
/-- interchange/amount.Least -/
noncomputable def amount_Least (k : Nat) (a : Int × Int) : Option (Int × Int) := callA P A k 158 a
noncomputable def amount_Least_c1 (k : Nat) (s1 : Int × Int) (s2 : Int × Int) : Option (Int × Int) := cutA P A k 158 (todoAt P A 158 1) [(1, (.box 62 [(.byv (.int .i64)), (.byv (.int .i64))])), (2, (.box 62 [(.byv (.int .i64)), (.byv (.int .i64))]))] (s1, s2)
theorem amount_Least_eq (k : Nat) (a : Int × Int) : amount_Least (k + 1) a =
  amount_Least_c1 k a (0, 0) := by kernel_rfl
theorem amount_Least_c1_eq (k : Nat) (s1 : Int × Int) (s2 : Int × Int) : amount_Least_c1 (k + 1) s1 s2 =
  cond ((!(decide (s1.2 > 0))) || true) (
  cond (cond (decide (s1.2 > 0)) ((s1.1.tmod 10) == 0) false) (
    amount_Least_c1 k ((wi64 (s1.1.tdiv 10)), (wi64 (s1.2 - 1))) s2) (
    some s1)) none := by kernel_rfl
/-- interchange/amount.isForm -/
noncomputable def amount_isForm (k : Nat) (a : Int) : Option Bool := callA P A k 204 a
theorem amount_isForm_eq (k : Nat) (a : Int) : amount_isForm (k + 1) a =
  (kit_Outside k a 1 5).bind fun y0 =>
  some (!y0) := by kernel_rfl
/-- strconv.Atoi -/
noncomputable def strconv_Atoi (k : Nat) (a : ByteArray) : Option (Int × Bool) := callA P A k 215 a
theorem strconv_Atoi_eq (k : Nat) (a : ByteArray) : strconv_Atoi k a = (Lib.atoi a.data.toList).bind fun n => cond (decide (a.size ≤ 18)) (some (n, true)) none := by kernel_rfl
/-- interchange/amount.parts -/
noncomputable def amount_parts (k : Nat) (a : ByteArray) (b : List Int) : Option ((List Int) × Bool) := callA P A k 235 (a, b)
noncomputable def amount_parts_c3 (k : Nat) (s0 : ByteArray) (s6 : List Int) (s11 : List Int) (s12 : Int) (s13 : Int) : Option ((List Int) × Bool) := cutA P A k 235 (todoAt P A 235 3) [(0, (.byv .str)), (6, (.own 3 (.int .i64))), (11, (.byv (.sl (.int .i64)))), (12, (.byv (.int .i64))), (13, (.byv (.int .i64)))] (s0, s6, s11, s12, s13)
theorem amount_parts_eq (k : Nat) (a : ByteArray) (b : List Int) : amount_parts (k + 1) a b =
  amount_parts_c3 k a [] b (b.length : Int) 0 := by kernel_rfl
theorem amount_parts_c3_eq (k : Nat) (s0 : ByteArray) (s6 : List Int) (s11 : List Int) (s12 : Int) (s13 : Int) : amount_parts_c3 (k + 1) s0 s6 s11 s12 s13 =
  cond (decide (s13 < s12)) (
    cond (decide (0 ≤ s13)) (
    cond (decide (s13 < (s11.length : Int))) (
    cond ((!(!(decide ((s0.size : Int) < (s11.getD s13.toNat 0))))) || (decide (0 ≤ (s11.getD s13.toNat 0)))) (
    cond ((!(!(decide ((s0.size : Int) < (s11.getD s13.toNat 0))))) || (decide ((s11.getD s13.toNat 0) ≤ (s0.size : Int)))) (
    (cond (!(decide ((s0.size : Int) < (s11.getD s13.toNat 0)))) (kit_IsDigits k (s0.extract 0 (s11.getD s13.toNat 0).toNat)) (some false)).bind fun y0 =>
    cond (cond (decide ((s0.size : Int) < (s11.getD s13.toNat 0))) true (!y0)) (
      some ([], false)) (
      cond (decide (0 ≤ (s11.getD s13.toNat 0))) (
      cond (decide ((s11.getD s13.toNat 0) ≤ (s0.size : Int))) (
      (strconv_Atoi k (s0.extract 0 (s11.getD s13.toNat 0).toNat)).bind fun y1 =>
      cond (decide (s6.length + 1 < 17592186044416)) (
      cond (decide (0 ≤ (s11.getD s13.toNat 0))) (
      cond (decide ((s11.getD s13.toNat 0) ≤ (s0.size : Int))) (
      amount_parts_c3 k (s0.extract (s11.getD s13.toNat 0).toNat s0.size) (s6 ++ [y1.1]) s11 s12 (wi64 (s13 + 1))) none) none) none) none) none)) none) none) none) none) (
    some (s6, (eqS s0 (bs [])))) := by kernel_rfl
/-- interchange/amount.isLeap -/
noncomputable def amount_isLeap (k : Nat) (a : Int) : Option Bool := callA P A k 251 a
theorem amount_isLeap_eq (k : Nat) (a : Int) : amount_isLeap (k + 1) a =
  cond ((!((a.tmod 4) == 0)) || true) (
  cond ((!(((a.tmod 4) == 0) && (!((a.tmod 100) != 0)))) || true) (
  some (cond ((a.tmod 4) == 0) (cond ((a.tmod 100) != 0) true ((a.tmod 400) == 0)) false)) none) none := by kernel_rfl
/-- interchange/amount.daysOf -/
noncomputable def amount_daysOf (k : Nat) (a : Int) (b : Int) : Option Int := callA P A k 239 (a, b)
theorem amount_daysOf_eq (k : Nat) (a : Int) (b : Int) : amount_daysOf (k + 1) a b =
  (cond (b == 2) (amount_isLeap k a) (some false)).bind fun y0 =>
  cond (cond (b == 2) y0 false) (
    some 29) (
    cond (decide (0 ≤ (wi64 (b - 1)))) (
    cond (decide ((wi64 (b - 1)) < 12)) (
    some ([31, 28, 31, 30, 31, 30, 31, 31, 30, 31, 30, 31].getD (wi64 (b - 1)).toNat 0)) none) none) := by kernel_rfl
/-- interchange/amount.before -/
noncomputable def amount_before (k : Nat) (a : Int) : Option Int := callA P A k 238 a
theorem amount_before_eq (k : Nat) (a : Int) : amount_before (k + 1) a =
  some (wi64 ((wi64 ((wi64 ((wi64 (365 * (wi64 (a - 1)))) + (wi64 ((wi64 (a - 1)).tdiv 4)))) - (wi64 ((wi64 (a - 1)).tdiv 100)))) + (wi64 ((wi64 (a - 1)).tdiv 400)))) := by kernel_rfl
/-- interchange/amount.dayOf -/
noncomputable def amount_dayOf (k : Nat) (a : Int) (b : Int) (c : Int) : Option (Int × Bool) := callA P A k 236 (a, b, c)
noncomputable def amount_dayOf_c5 (k : Nat) (s0 : Int) (s1 : Int) (s8 : Int) (s9 : Int) : Option (Int × Bool) := cutA P A k 236 (todoAt P A 236 5) [(0, (.byv (.int .i64))), (1, (.byv (.int .i64))), (8, (.byv (.int .i64))), (9, (.byv (.int .i64)))] (s0, s1, s8, s9)
theorem amount_dayOf_eq (k : Nat) (a : Int) (b : Int) (c : Int) : amount_dayOf (k + 1) a b c =
  (kit_Outside k a 1 9999).bind fun y0 =>
  (cond (!y0) (kit_Outside k b 1 12) (some false)).bind fun y1 =>
  (cond (!(cond y0 true y1)) (amount_daysOf k a b) (some 0)).bind fun y2 =>
  (cond (!(cond y0 true y1)) (kit_Outside k c 1 y2) (some false)).bind fun y3 =>
  cond (cond (cond y0 true y1) true y3) (
    some (0, false)) (
    (amount_before k a).bind fun y4 =>
    amount_dayOf_c5 k a b (wi64 (y4 + c)) 1) := by kernel_rfl
theorem amount_dayOf_c5_eq (k : Nat) (s0 : Int) (s1 : Int) (s8 : Int) (s9 : Int) : amount_dayOf_c5 (k + 1) s0 s1 s8 s9 =
  cond (decide (s9 < s1)) (
    (amount_daysOf k s0 s9).bind fun y5 =>
    amount_dayOf_c5 k s0 s1 (wi64 (s8 + y5)) (wi64 (s9 + 1))) (
    some (s8, true)) := by kernel_rfl
/-- strings.ReplaceAll -/
noncomputable def strings_ReplaceAll (k : Nat) (a : ByteArray) (b : ByteArray) (c : ByteArray) : Option ByteArray := callA P A k 114 (a, b, c)
theorem strings_ReplaceAll_eq (k : Nat) (a : ByteArray) (b : ByteArray) (c : ByteArray) : strings_ReplaceAll k a b c = cond (decide (a.size < 4294967281) && decide (1 ≤ b.size) && decide (a.size + Lib.countB a b * c.size ≤ 140737488355328)) (some ⟨(Lib.replaceAll a.data.toList b.data.toList c.data.toList).toArray⟩) none := by kernel_rfl
/-- interchange/amount.WeekDay -/
noncomputable def amount_WeekDay (k : Nat) (a : Int) : Option Int := callA P A k 210 a
theorem amount_WeekDay_eq (k : Nat) (a : Int) : amount_WeekDay (k + 1) a =
  some ((wi64 (a - 1)).tmod 7) := by kernel_rfl
/-- interchange/kit.IsDay -/
noncomputable def kit_IsDay (k : Nat) (a : Int) : Option Bool := callA P A k 206 a
theorem kit_IsDay_eq (k : Nat) (a : Int) : kit_IsDay (k + 1) a =
  (kit_Outside k a 1 3652059).bind fun y0 =>
  some (!y0) := by kernel_rfl
/-- interchange/amount.dateOf -/
noncomputable def amount_dateOf (k : Nat) (a : Int) : Option (Int × Int × Int) := callA P A k 207 a
noncomputable def amount_dateOf_c2 (k : Nat) (s0 : Int) (s2 : Int) : Option (Int × Int × Int) := cutA P A k 207 (todoAt P A 207 2) [(0, (.byv (.int .i64))), (2, (.byv (.int .i64)))] (s0, s2)
noncomputable def amount_dateOf_c5 (k : Nat) (s2 : Int) (s3 : Int) (s4 : Int) : Option (Int × Int × Int) := cutA P A k 207 (todoAt P A 207 5) [(2, (.byv (.int .i64))), (3, (.byv (.int .i64))), (4, (.byv (.int .i64)))] (s2, s3, s4)
theorem amount_dateOf_eq (k : Nat) (a : Int) : amount_dateOf (k + 1) a =
  amount_dateOf_c2 k a (wi64 ((wi64 (a.tdiv 366)) + 1)) := by kernel_rfl
theorem amount_dateOf_c2_eq (k : Nat) (s0 : Int) (s2 : Int) : amount_dateOf_c2 (k + 1) s0 s2 =
  (cond (decide (s2 < 9999)) (amount_before k (wi64 (s2 + 1))) (some 0)).bind fun y0 =>
  cond (cond (decide (s2 < 9999)) (decide (y0 < s0)) false) (
    amount_dateOf_c2 k s0 (wi64 (s2 + 1))) (
    (amount_before k s2).bind fun y1 =>
    amount_dateOf_c5 k s2 1 (wi64 (s0 - y1))) := by kernel_rfl
theorem amount_dateOf_c5_eq (k : Nat) (s2 : Int) (s3 : Int) (s4 : Int) : amount_dateOf_c5 (k + 1) s2 s3 s4 =
  (amount_daysOf k s2 s3).bind fun y2 =>
  cond (decide (s4 > y2)) (
    (amount_daysOf k s2 s3).bind fun y3 =>
    amount_dateOf_c5 k s2 (wi64 (s3 + 1)) (wi64 (s4 - y3))) (
    some (s2, (s3, s4))) := by kernel_rfl
/-- interchange/amount.weekOf -/
noncomputable def amount_weekOf (k : Nat) (a : Int) : Option (Int × Int) := callA P A k 209 a
theorem amount_weekOf_eq (k : Nat) (a : Int) : amount_weekOf (k + 1) a =
  (amount_WeekDay k a).bind fun y0 =>
  (amount_dateOf k (wi64 ((wi64 (a - y0)) + 3))).bind fun y1 =>
  (amount_before k y1.1).bind fun y2 =>
  some (y1.1, (wi64 ((wi64 ((wi64 ((wi64 ((wi64 ((wi64 (a - y0)) + 3)) - y2)) - 1)).tdiv 7)) + 1))) := by kernel_rfl
/-- interchange/amount.weekDay -/
noncomputable def amount_weekDay (k : Nat) (a : Int) (b : Int) (c : Int) : Option (Int × Bool) := callA P A k 237 (a, b, c)
theorem amount_weekDay_eq (k : Nat) (a : Int) (b : Int) (c : Int) : amount_weekDay (k + 1) a b c =
  (kit_Outside k a 1 9999).bind fun y0 =>
  (cond (!y0) (kit_Outside k c 1 7) (some false)).bind fun y1 =>
  cond (cond y0 true y1) (
    some (0, false)) (
    (amount_before k a).bind fun y2 =>
    (amount_WeekDay k (wi64 (y2 + 4))).bind fun y3 =>
    (kit_IsDay k (wi64 ((wi64 ((wi64 ((wi64 ((wi64 (y2 + 4)) - y3)) + (wi64 ((wi64 (b - 1)) * 7)))) + c)) - 1))).bind fun y4 =>
    cond (!y4) (
      some (0, false)) (
      (amount_weekOf k (wi64 ((wi64 ((wi64 ((wi64 ((wi64 (y2 + 4)) - y3)) + (wi64 ((wi64 (b - 1)) * 7)))) + c)) - 1))).bind fun y5 =>
      some ((wi64 ((wi64 ((wi64 ((wi64 ((wi64 (y2 + 4)) - y3)) + (wi64 ((wi64 (b - 1)) * 7)))) + c)) - 1)), (cond (y5.1 == a) (y5.2 == b) false)))) := by kernel_rfl
/-- interchange/amount.readDay -/
noncomputable def amount_readDay (k : Nat) (a : ByteArray) (b : Int) (c : Int) : Option (Int × Bool) := callA P A k 205 (a, b, c)
theorem amount_readDay_eq (k : Nat) (a : ByteArray) (b : Int) (c : Int) : amount_readDay (k + 1) a b c =
  cond (b == 1) (
    (amount_parts k a [4, 2, 2]).bind fun y0 =>
    cond (!y0.2) (
      some (0, false)) (
      cond (decide (0 < (y0.1.length : Int))) (
      cond (decide (1 < (y0.1.length : Int))) (
      cond (decide (2 < (y0.1.length : Int))) (
      (amount_dayOf k (y0.1.getD 0 0) (y0.1.getD 1 0) (y0.1.getD 2 0)).bind fun y1 =>
      some y1) none) none) none)) (
    cond (b == 2) (
      (amount_parts k a [2, 2, 2]).bind fun y2 =>
      cond (!y2.2) (
        some (0, false)) (
        cond (decide (0 < (y2.1.length : Int))) (
        cond (decide (1 < (y2.1.length : Int))) (
        cond (decide (2 < (y2.1.length : Int))) (
        (amount_dayOf k (wi64 (c + ((wi64 (((wi64 ((y2.1.getD 0 0) - c)).tmod 100) + 100)).tmod 100))) (y2.1.getD 1 0) (y2.1.getD 2 0)).bind fun y3 =>
        some y3) none) none) none)) (
      cond (b == 3) (
        (amount_parts k a [2, 2, 4]).bind fun y4 =>
        cond (!y4.2) (
          some (0, false)) (
          cond (decide (2 < (y4.1.length : Int))) (
          cond (decide (1 < (y4.1.length : Int))) (
          cond (decide (0 < (y4.1.length : Int))) (
          (amount_dayOf k (y4.1.getD 2 0) (y4.1.getD 1 0) (y4.1.getD 0 0)).bind fun y5 =>
          some y5) none) none) none)) (
        cond (b == 4) (
          (strings_ReplaceAll k a (bs [45]) (bs [])).bind fun y6 =>
          (amount_parts k y6 [4, 2, 2]).bind fun y7 =>
          cond ((!(!(!y7.2))) || true) (
          cond ((!(!(!y7.2))) || (decide (4 ≤ (y6.size : Int)))) (
          cond ((!(!(!y7.2))) || (decide ((y6.extract 0 4).size + 1 ≤ 9223372036854775807))) (
          cond ((!(!(!y7.2))) || true) (
          cond ((!(!(!y7.2))) || true) (
          cond ((!(!(!y7.2))) || (decide (6 ≤ (y6.size : Int)))) (
          cond ((!(!(!y7.2))) || (decide (((y6.extract 0 4) ++ (bs [45])).size + (y6.extract 4 6).size ≤ 9223372036854775807))) (
          cond ((!(!(!y7.2))) || (decide ((((y6.extract 0 4) ++ (bs [45])) ++ (y6.extract 4 6)).size + 1 ≤ 9223372036854775807))) (
          cond ((!(!(!y7.2))) || true) (
          cond ((!(!(!y7.2))) || (decide (6 ≤ (y6.size : Int)))) (
          cond ((!(!(!y7.2))) || (decide (((((y6.extract 0 4) ++ (bs [45])) ++ (y6.extract 4 6)) ++ (bs [45])).size + (y6.extract 6 y6.size).size ≤ 9223372036854775807))) (
          cond (cond (!y7.2) true (!(eqS a (((((y6.extract 0 4) ++ (bs [45])) ++ (y6.extract 4 6)) ++ (bs [45])) ++ (y6.extract 6 y6.size))))) (
            some (0, false)) (
            cond (decide (0 < (y7.1.length : Int))) (
            cond (decide (1 < (y7.1.length : Int))) (
            cond (decide (2 < (y7.1.length : Int))) (
            (amount_dayOf k (y7.1.getD 0 0) (y7.1.getD 1 0) (y7.1.getD 2 0)).bind fun y8 =>
            some y8) none) none) none)) none) none) none) none) none) none) none) none) none) none) none) (
          (amount_parts k a [4, 2, 1]).bind fun y9 =>
          cond (!y9.2) (
            some (0, false)) (
            cond (decide (0 < (y9.1.length : Int))) (
            cond (decide (1 < (y9.1.length : Int))) (
            cond (decide (2 < (y9.1.length : Int))) (
            (amount_weekDay k (y9.1.getD 0 0) (y9.1.getD 1 0) (y9.1.getD 2 0)).bind fun y10 =>
            some y10) none) none) none))))) := by kernel_rfl
/-- interchange/amount.ReadDay -/
noncomputable def amount_ReadDay (k : Nat) (a : ByteArray) (b : Int) (c : Int) : Option (Int × Int) := callA P A k 159 (a, b, c)
theorem amount_ReadDay_eq (k : Nat) (a : ByteArray) (b : Int) (c : Int) : amount_ReadDay (k + 1) a b c =
  (amount_isForm k b).bind fun y0 =>
  cond (!y0) (
    some (0, 4)) (
    (kit_Outside k c 1 9900).bind fun y1 =>
    cond y1 (
      some (0, 1)) (
      (amount_readDay k a b c).bind fun y2 =>
      cond (!y2.2) (
        some (0, 10)) (
        some (y2.1, 0)))) := by kernel_rfl
/-- interchange/flat.isValue -/
noncomputable def flat_isValue (k : Nat) (a : QC) (b : ByteArray) : Option Bool := callA P A k 135 (a, b)
theorem flat_isValue_eq (k : Nat) (a : QC) (b : ByteArray) : flat_isValue (k + 1) a b =
  cond (a.2.1 == 2) (
    (amount_ReadText k b).bind fun y0 =>
    (cond (cond (y0.2 == 0) (decide (y0.1.2 ≤ a.2.2.2.1)) false) (amount_Least k y0.1) (some (0, 0))).bind fun y1 =>
    some (cond (cond (y0.2 == 0) (decide (y0.1.2 ≤ a.2.2.2.1)) false) ((y1.1 == y0.1.1) && ((y1.2 == y0.1.2) && true)) false)) (
    cond (a.2.1 == 3) (
      (amount_ReadDay k b 1 1).bind fun y2 =>
      some (y2.2 == 0)) (
      (kit_InBytes k b 32 126).bind fun y3 =>
      (cond y3 (strings_Trim k b (bs [32])) (some (bs []))).bind fun y4 =>
      some (cond y3 (eqS y4 b) false))) := by kernel_rfl
/-- interchange/whole.Power -/
noncomputable def whole_Power (k : Nat) (a : Int) : Option (Bool × List Int) := callA P A k 172 a
noncomputable def whole_Power_c3 (k : Nat) (s2 : Bool × List Int) (s3 : Bool × List Int) (s5 : Int) (s6 : Int) : Option (Bool × List Int) := cutA P A k 172 (todoAt P A 172 3) [(2, (.box 107 [(.byv .bool), (.own 147 (.int .u32))])), (3, (.box 107 [(.byv .bool), (.byv (.sl (.int .u32)))])), (5, (.byv (.int .i64))), (6, (.byv (.int .i64)))] (s2, s3, s5, s6)
theorem whole_Power_eq (k : Nat) (a : Int) : whole_Power (k + 1) a =
  (whole_Of k 1).bind fun y0 =>
  whole_Power_c3 k (false, []) y0 a 0 := by kernel_rfl
theorem whole_Power_c3_eq (k : Nat) (s2 : Bool × List Int) (s3 : Bool × List Int) (s5 : Int) (s6 : Int) : whole_Power_c3 (k + 1) s2 s3 s5 s6 =
  cond (decide (s6 < s5)) (
    (whole_Of k 10).bind fun y1 =>
    (whole_Int_Times k s3 y1).bind fun y2 =>
    whole_Power_c3 k s2 y2 s5 (wi64 (s6 + 1))) (
    some s3) := by kernel_rfl
/-- interchange/amount.Scaled -/
noncomputable def amount_Scaled (k : Nat) (a : Int × Int) (b : Int) : Option (Bool × List Int) := callA P A k 124 (a, b)
theorem amount_Scaled_eq (k : Nat) (a : Int × Int) (b : Int) : amount_Scaled (k + 1) a b =
  (whole_Of k a.1).bind fun y0 =>
  (whole_Power k (wi64 (b - a.2))).bind fun y1 =>
  (whole_Int_Times k y0 y1).bind fun y2 =>
  some y2 := by kernel_rfl
/-- slices.Clone[[]uint32,uint32] -/
noncomputable def slices_Clone_Luint32_uint32 (k : Nat) (a : List Int) : Option (List Int) := callA P A k 174 a
theorem slices_Clone_Luint32_uint32_eq (k : Nat) (a : List Int) : slices_Clone_Luint32_uint32 (k + 1) a =
  cond a.isEmpty (
    bothA (.sl (.int .u32)) (
      some ([])) (
      cond (decide (0 + a.length < 35184372088832)) (
      some ([] ++ a)) none)) (
    cond (decide (0 + a.length < 35184372088832)) (
    some ([] ++ a)) none) := by kernel_rfl
/-- slices.Reverse[[]byte,byte] -/
noncomputable def slices_Reverse_Lbyte_byte (k : Nat) (a : List Int) : Option (List Int) := callA P A k 176 a
noncomputable def slices_Reverse_Lbyte_byte_c1 (k : Nat) (s0 : List Int) (s2 : Int) (s3 : Int) : Option (List Int) := cutA P A k 176 (todoAt P A 176 1) [(0, (.own 5 (.int .u8))), (2, (.byv (.int .i64))), (3, (.byv (.int .i64)))] (s0, s2, s3)
theorem slices_Reverse_Lbyte_byte_eq (k : Nat) (a : List Int) : slices_Reverse_Lbyte_byte (k + 1) a =
  slices_Reverse_Lbyte_byte_c1 k a 0 (wi64 ((a.length : Int) - 1)) := by kernel_rfl
theorem slices_Reverse_Lbyte_byte_c1_eq (k : Nat) (s0 : List Int) (s2 : Int) (s3 : Int) : slices_Reverse_Lbyte_byte_c1 (k + 1) s0 s2 s3 =
  cond (decide (s2 < s3)) (
    cond (decide (0 ≤ s3)) (
    cond (decide (s3 < (s0.length : Int))) (
    cond (decide (0 ≤ s2)) (
    cond (decide (s2 < (s0.length : Int))) (
    cond (decide (0 ≤ s2)) (
    cond (decide (s2 < (s0.length : Int))) (
    cond (decide (0 ≤ s3)) (
    cond (decide (s3 < ((s0.set s2.toNat (s0.getD s3.toNat 0)).length : Int))) (
    slices_Reverse_Lbyte_byte_c1 k ((s0.set s2.toNat (s0.getD s3.toNat 0)).set s3.toNat (s0.getD s2.toNat 0)) (wi64 (s2 + 1)) (wi64 (s3 - 1))) none) none) none) none) none) none) none) none) (
    some s0) := by kernel_rfl
/-- math/bits.Div32 -/
noncomputable def bits_Div32 (k : Nat) (a : Int) (b : Int) (c : Int) : Option (Int × Int) := callA P A k 175 (a, b, c)
theorem bits_Div32_eq (k : Nat) (a : Int) (b : Int) (c : Int) : bits_Div32 (k + 1) a b c =
  cond (cond (c != 0) (decide (c ≤ a)) false) (
    none) (
    cond (!(decide ((wu64 c) = 0))) (
    cond (!(decide ((wu64 c) = 0))) (
    some ((wu32 (wu64 ((bitsI .or .u64 (shlI .u64 (wu64 a) 32) (wu64 b)).tdiv (wu64 c)))), (wu32 ((bitsI .or .u64 (shlI .u64 (wu64 a) 32) (wu64 b)).tmod (wu64 c))))) none) none) := by kernel_rfl
/-- interchange/whole.trimmed -/
noncomputable def whole_trimmed_1 (k : Nat) (a : List Int) : Option (List Int) := callA P A k 100169 a
noncomputable def whole_trimmed_1_c1 (k : Nat) (s0 : List Int) : Option (List Int) := cutA P A k 100169 (todoAt P A 100169 1) [(0, (.own 147 (.int .u32)))] s0
theorem whole_trimmed_1_eq (k : Nat) (a : List Int) : whole_trimmed_1 (k + 1) a =
  whole_trimmed_1_c1 k a := by kernel_rfl
theorem whole_trimmed_1_c1_eq (k : Nat) (s0 : List Int) : whole_trimmed_1_c1 (k + 1) s0 =
  cond ((!(decide ((s0.length : Int) > 0))) || (decide (0 ≤ (wi64 ((s0.length : Int) - 1))))) (
  cond ((!(decide ((s0.length : Int) > 0))) || (decide ((wi64 ((s0.length : Int) - 1)) < (s0.length : Int)))) (
  cond (cond (decide ((s0.length : Int) > 0)) ((s0.getD (wi64 ((s0.length : Int) - 1)).toNat 0) == 0) false) (
    cond (decide (0 ≤ (wi64 ((s0.length : Int) - 1)))) (
    cond (decide ((wi64 ((s0.length : Int) - 1)) ≤ (s0.length : Int))) (
    whole_trimmed_1_c1 k (s0.take (wi64 ((s0.length : Int) - 1)).toNat)) none) none) (
    some s0)) none) none := by kernel_rfl
/-- (interchange/whole.Int).Text -/
noncomputable def whole_Int_Text (k : Nat) (a : Bool × List Int) : Option ByteArray := callA P A k 132 a
noncomputable def whole_Int_Text_c5 (k : Nat) (s1 : Bool × List Int) (s3 : List Int) (s4 : List Int) : Option ByteArray := cutA P A k 132 (todoAt P A 132 5) [(1, (.box 107 [(.byv .bool), (.byv (.sl (.int .u32)))])), (3, (.own 5 (.int .u8))), (4, (.own 147 (.int .u32)))] (s1, s3, s4)
noncomputable def whole_Int_Text_c8 (k : Nat) (s1 : Bool × List Int) (s3 : List Int) (s4 : List Int) (s5 : Int) (s6 : Int) : Option ByteArray := cutA P A k 132 (todoAt P A 132 8) [(1, (.box 107 [(.byv .bool), (.byv (.sl (.int .u32)))])), (3, (.own 5 (.int .u8))), (4, (.own 147 (.int .u32))), (5, (.byv (.int .u32))), (6, (.byv (.int .i64)))] (s1, s3, s4, s5, s6)
theorem whole_Int_Text_eq (k : Nat) (a : Bool × List Int) : whole_Int_Text (k + 1) a =
  cond ((a.2.length : Int) == 0) (
    some (bs [48])) (
    (slices_Clone_Luint32_uint32 k a.2).bind fun y0 =>
    whole_Int_Text_c5 k a [] y0) := by kernel_rfl
theorem whole_Int_Text_c5_eq (k : Nat) (s1 : Bool × List Int) (s3 : List Int) (s4 : List Int) : whole_Int_Text_c5 (k + 1) s1 s3 s4 =
  cond (decide ((s4.length : Int) > 0)) (
    whole_Int_Text_c8 k s1 s3 s4 0 (wi64 ((s4.length : Int) - 1))) (
    cond s1.1 (
      cond (decide (s3.length + 1 < 140737488355328)) (
      (slices_Reverse_Lbyte_byte k (s3 ++ [45])).bind fun y1 =>
      some (strOf y1)) none) (
      (slices_Reverse_Lbyte_byte k s3).bind fun y2 =>
      some (strOf y2))) := by kernel_rfl
theorem whole_Int_Text_c8_eq (k : Nat) (s1 : Bool × List Int) (s3 : List Int) (s4 : List Int) (s5 : Int) (s6 : Int) : whole_Int_Text_c8 (k + 1) s1 s3 s4 s5 s6 =
  cond (decide (s6 ≥ 0)) (
    cond (decide (0 ≤ s6)) (
    cond (decide (s6 < (s4.length : Int))) (
    (bits_Div32 k s5 (s4.getD s6.toNat 0) 10).bind fun y3 =>
    cond (decide (0 ≤ s6)) (
    cond (decide (s6 < (s4.length : Int))) (
    whole_Int_Text_c8 k s1 s3 (s4.set s6.toNat y3.1) y3.2 (wi64 (s6 - 1))) none) none) none) none) (
    cond (decide (s3.length + 1 < 140737488355328)) (
    (whole_trimmed_1 k s4).bind fun y4 =>
    whole_Int_Text_c5 k s1 (s3 ++ [(wu8 (48 + (wu8 s5)))]) y4) none) := by kernel_rfl
/-- strconv.Itoa -/
noncomputable def strconv_Itoa (k : Nat) (a : Int) : Option ByteArray := callA P A k 36 a
theorem strconv_Itoa_eq (k : Nat) (a : Int) : strconv_Itoa k a = cond (decide (-9223372036854775808 ≤ a) && decide (a ≤ 9223372036854775807)) (some ⟨(Lib.itoa a).toArray⟩) none := by kernel_rfl
/-- strings.Repeat -/
noncomputable def strings_Repeat (k : Nat) (a : ByteArray) (b : Int) : Option ByteArray := callA P A k 112 (a, b)
theorem strings_Repeat_eq (k : Nat) (a : ByteArray) (b : Int) : strings_Repeat k a b = cond (decide (0 ≤ b) && decide (b ≤ 9223372036854775807) && decide (a.size * b.toNat ≤ 140737488355328)) (some ⟨(Lib.repeatL a.data.toList b.toNat).toArray⟩) none := by kernel_rfl
/-- interchange/amount.padded -/
noncomputable def amount_padded (k : Nat) (a : Int) (b : Int) : Option ByteArray := callA P A k 208 (a, b)
theorem amount_padded_eq (k : Nat) (a : Int) (b : Int) : amount_padded (k + 1) a b =
  (strconv_Itoa k a).bind fun y0 =>
  (strings_Repeat k (bs [48]) (wi64 (b - (y0.size : Int)))).bind fun y1 =>
  cond (decide (y1.size + y0.size ≤ 9223372036854775807)) (
  some (y1 ++ y0)) none := by kernel_rfl
/-- interchange/amount.DayText -/
noncomputable def amount_DayText (k : Nat) (a : Int) (b : Int) : Option (ByteArray × Int) := callA P A k 160 (a, b)
theorem amount_DayText_eq (k : Nat) (a : Int) (b : Int) : amount_DayText (k + 1) a b =
  (amount_isForm k b).bind fun y0 =>
  cond (!y0) (
    some ((bs []), 4)) (
    (kit_IsDay k a).bind fun y1 =>
    cond (!y1) (
      some ((bs []), 1)) (
      (amount_dateOf k a).bind fun y2 =>
      cond (b == 1) (
        (amount_padded k y2.1 4).bind fun y3 =>
        (amount_padded k y2.2.1 2).bind fun y4 =>
        cond (decide (y3.size + y4.size ≤ 9223372036854775807)) (
        (amount_padded k y2.2.2 2).bind fun y5 =>
        cond (decide ((y3 ++ y4).size + y5.size ≤ 9223372036854775807)) (
        some (((y3 ++ y4) ++ y5), 0)) none) none) (
        cond (b == 2) (
          (amount_padded k (y2.1.tmod 100) 2).bind fun y6 =>
          (amount_padded k y2.2.1 2).bind fun y7 =>
          cond (decide (y6.size + y7.size ≤ 9223372036854775807)) (
          (amount_padded k y2.2.2 2).bind fun y8 =>
          cond (decide ((y6 ++ y7).size + y8.size ≤ 9223372036854775807)) (
          some (((y6 ++ y7) ++ y8), 0)) none) none) (
          cond (b == 3) (
            (amount_padded k y2.2.2 2).bind fun y9 =>
            (amount_padded k y2.2.1 2).bind fun y10 =>
            cond (decide (y9.size + y10.size ≤ 9223372036854775807)) (
            (amount_padded k y2.1 4).bind fun y11 =>
            cond (decide ((y9 ++ y10).size + y11.size ≤ 9223372036854775807)) (
            some (((y9 ++ y10) ++ y11), 0)) none) none) (
            cond (b == 4) (
              (amount_padded k y2.1 4).bind fun y12 =>
              cond (decide (y12.size + 1 ≤ 9223372036854775807)) (
              (amount_padded k y2.2.1 2).bind fun y13 =>
              cond (decide ((y12 ++ (bs [45])).size + y13.size ≤ 9223372036854775807)) (
              cond (decide (((y12 ++ (bs [45])) ++ y13).size + 1 ≤ 9223372036854775807)) (
              (amount_padded k y2.2.2 2).bind fun y14 =>
              cond (decide ((((y12 ++ (bs [45])) ++ y13) ++ (bs [45])).size + y14.size ≤ 9223372036854775807)) (
              some (((((y12 ++ (bs [45])) ++ y13) ++ (bs [45])) ++ y14), 0)) none) none) none) none) (
              (amount_weekOf k a).bind fun y15 =>
              (amount_padded k y15.1 4).bind fun y16 =>
              (amount_padded k y15.2 2).bind fun y17 =>
              cond (decide (y16.size + y17.size ≤ 9223372036854775807)) (
              (amount_WeekDay k a).bind fun y18 =>
              (strconv_Itoa k (wi64 (y18 + 1))).bind fun y19 =>
              cond (decide ((y16 ++ y17).size + y19.size ≤ 9223372036854775807)) (
              some (((y16 ++ y17) ++ y19), 0)) none) none)))))) := by kernel_rfl
/-- interchange/flat.written -/
noncomputable def flat_written (k : Nat) (a : QF) (b : QC) (c : ByteArray) : Option ByteArray := callA P A k 111 (a, b, c)
theorem flat_written_eq (k : Nat) (a : QF) (b : QC) (c : ByteArray) : flat_written (k + 1) a b c =
  cond (eqS c (bs [])) (
    some (bs [])) (
    cond (cond (b.2.1 == 2) (a.1 == 0) false) (
      (amount_ReadText k c).bind fun y0 =>
      (amount_Scaled k y0.1 b.2.2.2.1).bind fun y1 =>
      (whole_Int_Text k y1).bind fun y2 =>
      some y2) (
      cond (b.2.1 == 3) (
        (amount_ReadDay k c 1 1).bind fun y3 =>
        (amount_DayText k y3.1 b.2.2.2.2.1).bind fun y4 =>
        some y4.1) (
        some c))) := by kernel_rfl
/-- strings.IndexByte -/
noncomputable def strings_IndexByte (k : Nat) (a : ByteArray) (b : Int) : Option Int := callA P A k 79 (a, b)
theorem strings_IndexByte_eq (k : Nat) (a : ByteArray) (b : Int) : strings_IndexByte (k + 1) a b =
  (stringslite_IndexByte k a b).bind fun y0 =>
  some y0 := by kernel_rfl
/-- interchange/flat.valueFault -/
noncomputable def flat_valueFault (k : Nat) (a : QF) (b : QC) (c : ByteArray) : Option Int := callA P A k 74 (a, b, c)
theorem flat_valueFault_eq (k : Nat) (a : QF) (b : QC) (c : ByteArray) : flat_valueFault (k + 1) a b c =
  cond (cond (eqS c (bs [])) b.2.2.2.2.2.2.2 false) (
    some 13) (
    cond (eqS c (bs [])) (
      some 0) (
      (flat_isValue k b c).bind fun y0 =>
      cond (!y0) (
        some 6) (
        (flat_written k a b c).bind fun y1 =>
        cond (decide ((y1.size : Int) > b.2.2.1)) (
          some 16) (
          (cond (cond (a.1 != 0) (a.2.1 == 0) false) (strings_IndexByte k c a.1) (some 0)).bind fun y2 =>
          cond (cond (cond (a.1 != 0) (a.2.1 == 0) false) (decide (y2 ≥ 0)) false) (
            some 12) (
            some 0))))) := by kernel_rfl
/-- interchange/flat.checkRow -/
noncomputable def flat_checkRow (k : Nat) (a : QF) (b : QR) : Option (Int × Int) := callA P A k 37 (a, b)
noncomputable def flat_checkRow_c7 (k : Nat) (s2 : QF) (s3 : QR) (s28 : List QC) (s29 : Int) (s30 : Int) : Option (Int × Int) := cutA P A k 37 (todoAt P A 37 7) [(2, (.box 24 [(.byv (.int .u8)), (.byv (.int .u8)), (.byv (.sl eK)), (.byv .str), (.byv .str), (.byv .str), (.byv .str)])), (3, (.box 27 [(.byv .str), (.byv (.sl .str))])), (28, (.byv (.sl eC))), (29, (.byv (.int .i64))), (30, (.byv (.int .i64)))] (s2, s3, s28, s29, s30)
theorem flat_checkRow_eq (k : Nat) (a : QF) (b : QR) : flat_checkRow (k + 1) a b =
  (flat_kindAt k a b.1).bind fun y0 =>
  cond (!y0.2) (
    some (0, 9)) (
    cond ((b.2.length : Int) != (y0.1.2.1.length : Int)) (
      some (0, 3)) (
      flat_checkRow_c7 k a b y0.1.2.1 (y0.1.2.1.length : Int) 0)) := by kernel_rfl
theorem flat_checkRow_c7_eq (k : Nat) (s2 : QF) (s3 : QR) (s28 : List QC) (s29 : Int) (s30 : Int) : flat_checkRow_c7 (k + 1) s2 s3 s28 s29 s30 =
  cond (decide (s30 < s29)) (
    cond (decide (0 ≤ s30)) (
    cond (decide (s30 < (s28.length : Int))) (
    cond (decide (0 ≤ s30)) (
    cond (decide (s30 < (s3.2.length : Int))) (
    (flat_valueFault k s2 (((s28.getD s30.toNat ((bs []), (0, (0, (0, (0, (false, (0, false)))))))).1), ((((s28.getD s30.toNat ((bs []), (0, (0, (0, (0, (false, (0, false)))))))).2).1), (((((s28.getD s30.toNat ((bs []), (0, (0, (0, (0, (false, (0, false)))))))).2).2).1), ((((((s28.getD s30.toNat ((bs []), (0, (0, (0, (0, (false, (0, false)))))))).2).2).2).1), (((((((s28.getD s30.toNat ((bs []), (0, (0, (0, (0, (false, (0, false)))))))).2).2).2).2).1), ((((((((s28.getD s30.toNat ((bs []), (0, (0, (0, (0, (false, (0, false)))))))).2).2).2).2).2).1), (((((((((s28.getD s30.toNat ((bs []), (0, (0, (0, (0, (false, (0, false)))))))).2).2).2).2).2).2).1), ((((((((s28.getD s30.toNat ((bs []), (0, (0, (0, (0, (false, (0, false)))))))).2).2).2).2).2).2).2)))))))) (s3.2.getD s30.toNat (bs []))).bind fun y1 =>
    cond (y1 != 0) (
      some (s30, y1)) (
      flat_checkRow_c7 k s2 s3 s28 s29 (wi64 (s30 + 1)))) none) none) none) none) (
    some (0, 0)) := by kernel_rfl
/-- interchange/flat.checkRows -/
noncomputable def flat_checkRows (k : Nat) (a : QF) (b : List QR) : Option (Int × Int) := callA P A k 28 (a, b)
noncomputable def flat_checkRows_c2 (k : Nat) (s2 : QF) (s10 : List QR) (s11 : Int) (s12 : Int) : Option (Int × Int) := cutA P A k 28 (todoAt P A 28 2) [(2, (.box 24 [(.byv (.int .u8)), (.byv (.int .u8)), (.byv (.sl eK)), (.byv .str), (.byv .str), (.byv .str), (.byv .str)])), (10, (.byv (.sl eR))), (11, (.byv (.int .i64))), (12, (.byv (.int .i64)))] (s2, s10, s11, s12)
theorem flat_checkRows_eq (k : Nat) (a : QF) (b : List QR) : flat_checkRows (k + 1) a b =
  flat_checkRows_c2 k a b (b.length : Int) 0 := by kernel_rfl
theorem flat_checkRows_c2_eq (k : Nat) (s2 : QF) (s10 : List QR) (s11 : Int) (s12 : Int) : flat_checkRows_c2 (k + 1) s2 s10 s11 s12 =
  cond (decide (s12 < s11)) (
    cond (decide (0 ≤ s12)) (
    cond (decide (s12 < (s10.length : Int))) (
    (flat_checkRow k s2 (((s10.getD s12.toNat ((bs []), [])).1), ((s10.getD s12.toNat ((bs []), [])).2))).bind fun y0 =>
    cond (y0.2 != 0) (
      some (s12, y0.2)) (
      flat_checkRows_c2 k s2 s10 s11 (wi64 (s12 + 1)))) none) none) (
    some (0, 0)) := by kernel_rfl
/-- interchange/flat.inner -/
noncomputable def flat_inner (k : Nat) (a : QF) (b : List QR) : Option (List QR) := callA P A k 30 (a, b)
noncomputable def flat_inner_c3 (k : Nat) (s2 : QF) (s5 : List QR) (s8 : List QR) (s9 : Int) (s10 : Int) : Option (List QR) := cutA P A k 30 (todoAt P A 30 3) [(2, (.box 24 [(.byv (.int .u8)), (.byv (.int .u8)), (.byv (.sl eK)), (.byv .str), (.byv .str), (.byv .str), (.byv .str)])), (5, (.own 27 eR)), (8, (.byv (.sl eR))), (9, (.byv (.int .i64))), (10, (.byv (.int .i64)))] (s2, s5, s8, s9, s10)
theorem flat_inner_eq (k : Nat) (a : QF) (b : List QR) : flat_inner (k + 1) a b =
  flat_inner_c3 k a [] b (b.length : Int) 0 := by kernel_rfl
theorem flat_inner_c3_eq (k : Nat) (s2 : QF) (s5 : List QR) (s8 : List QR) (s9 : Int) (s10 : Int) : flat_inner_c3 (k + 1) s2 s5 s8 s9 s10 =
  cond (decide (s10 < s9)) (
    cond (decide (0 ≤ s10)) (
    cond (decide (s10 < (s8.length : Int))) (
    cond (cond (cond (eqS s2.2.2.2.1 (bs [])) true (!(eqS ((s8.getD s10.toNat ((bs []), [])).1) s2.2.2.2.1))) (cond (eqS s2.2.2.2.2.1 (bs [])) true (!(eqS ((s8.getD s10.toNat ((bs []), [])).1) s2.2.2.2.2.1))) false) (
      cond (decide (s5.length + 1 < 3518437208883)) (
      flat_inner_c3 k s2 (s5 ++ [(((s8.getD s10.toNat ((bs []), [])).1), ((s8.getD s10.toNat ((bs []), [])).2))]) s8 s9 (wi64 (s10 + 1))) none) (
      flat_inner_c3 k s2 s5 s8 s9 (wi64 (s10 + 1)))) none) none) (
    some s5) := by kernel_rfl
/-- interchange/flat.sumFault$1 -/
noncomputable def flat_sumFault_1_r (k : Nat) (a : QR) (b : QF) : Option Bool := callA P A k 100062 (a, b)
theorem flat_sumFault_1_r_eq (k : Nat) (a : QR) (b : QF) : flat_sumFault_1_r (k + 1) a b =
  (flat_kindAt k b a.1).bind fun y0 =>
  (flat_columnAt k y0.1 b.2.2.2.2.2.2).bind fun y1 =>
  cond ((!(decide (y1 ≥ 0))) || (decide (0 ≤ y1))) (
  cond ((!(decide (y1 ≥ 0))) || (decide (y1 < (y0.1.2.1.length : Int)))) (
  some (cond (decide (y1 ≥ 0)) ((((y0.1.2.1.getD y1.toNat ((bs []), (0, (0, (0, (0, (false, (0, false)))))))).2).1) != 2) false)) none) none := by kernel_rfl
/-- slices.IndexFunc[[]interchange/api.Row,interchange/api.Row] -/
noncomputable def slices_IndexFunc_Lapi_Row_api_Row_of_flat_sumFault_1 (k : Nat) (a : List QR) (b : QF) : Option Int := callA P A k 100115 (a, b)
noncomputable def slices_IndexFunc_Lapi_Row_api_Row_of_flat_sumFault_1_c2 (k : Nat) (s0 : List QR) (s1 : QF) (s7 : Int) (s8 : Int) : Option Int := cutA P A k 100115 (todoAt P A 100115 2) [(0, (.byv (.sl eR))), (1, (.fn 62 [eF])), (7, (.byv (.int .i64))), (8, (.byv (.int .i64)))] (s0, s1, s7, s8)
theorem slices_IndexFunc_Lapi_Row_api_Row_of_flat_sumFault_1_eq (k : Nat) (a : List QR) (b : QF) : slices_IndexFunc_Lapi_Row_api_Row_of_flat_sumFault_1 (k + 1) a b =
  slices_IndexFunc_Lapi_Row_api_Row_of_flat_sumFault_1_c2 k a b (a.length : Int) 0 := by kernel_rfl
theorem slices_IndexFunc_Lapi_Row_api_Row_of_flat_sumFault_1_c2_eq (k : Nat) (s0 : List QR) (s1 : QF) (s7 : Int) (s8 : Int) : slices_IndexFunc_Lapi_Row_api_Row_of_flat_sumFault_1_c2 (k + 1) s0 s1 s7 s8 =
  cond (decide (s8 < s7)) (
    cond (decide (0 ≤ s8)) (
    cond (decide (s8 < (s0.length : Int))) (
    (flat_sumFault_1_r k (((s0.getD s8.toNat ((bs []), [])).1), ((s0.getD s8.toNat ((bs []), [])).2)) s1).bind fun y0 =>
    cond y0 (
      some s8) (
      slices_IndexFunc_Lapi_Row_api_Row_of_flat_sumFault_1_c2 k s0 s1 s7 (wi64 (s8 + 1)))) none) none) (
    some (-1)) := by kernel_rfl
/-- slices.ContainsFunc[[]interchange/api.Row,interchange/api.Row] -/
noncomputable def slices_ContainsFunc_Lapi_Row_api_Row_of_flat_sumFault_1 (k : Nat) (a : List QR) (b : QF) : Option Bool := callA P A k 100061 (a, b)
theorem slices_ContainsFunc_Lapi_Row_api_Row_of_flat_sumFault_1_eq (k : Nat) (a : List QR) (b : QF) : slices_ContainsFunc_Lapi_Row_api_Row_of_flat_sumFault_1 (k + 1) a b =
  (slices_IndexFunc_Lapi_Row_api_Row_of_flat_sumFault_1 k a b).bind fun y0 =>
  some (decide (y0 ≥ 0)) := by kernel_rfl
/-- interchange/flat.sumFault -/
noncomputable def flat_sumFault (k : Nat) (a : QF) (b : List QR) : Option Bool := callA P A k 29 (a, b)
theorem flat_sumFault_eq (k : Nat) (a : QF) (b : List QR) : flat_sumFault (k + 1) a b =
  (cond (!(eqS a.2.2.2.2.2.2 (bs []))) (slices_ContainsFunc_Lapi_Row_api_Row_of_flat_sumFault_1 k b a) (some false)).bind fun y0 =>
  some (cond (!(eqS a.2.2.2.2.2.2 (bs []))) y0 false) := by kernel_rfl
/-- slices.Clone[[]string,string] -/
noncomputable def slices_Clone_Lstring_string (k : Nat) (a : List ByteArray) : Option (List ByteArray) := callA P A k 32 a
theorem slices_Clone_Lstring_string_eq (k : Nat) (a : List ByteArray) : slices_Clone_Lstring_string (k + 1) a =
  cond a.isEmpty (
    bothA (.sl .str) (
      some ([])) (
      cond (decide (0 + a.length < 8796093022208)) (
      some ([] ++ a)) none)) (
    cond (decide (0 + a.length < 8796093022208)) (
    some ([] ++ a)) none) := by kernel_rfl
/-- interchange/amount.Value -/
noncomputable def amount_Value (k : Nat) (a : Int × Int) : Option (Bool × List Int) := callA P A k 68 a
theorem amount_Value_eq (k : Nat) (a : Int × Int) : amount_Value (k + 1) a =
  (amount_Scaled k a 9).bind fun y0 =>
  some y0 := by kernel_rfl
/-- (interchange/whole.Int).By -/
noncomputable def whole_Int_By (k : Nat) (a : Bool × List Int) (b : Bool × List Int) : Option ((Bool × List Int) × Bool × List Int) := callA P A k 125 (a, b)
noncomputable def whole_Int_By_c4 (k : Nat) (s2 : Bool × List Int) (s3 : Bool × List Int) (s4 : Bool × List Int) (s5 : Bool × List Int) (s6 : List Int) (s7 : List Int) (s8 : Int) : Option ((Bool × List Int) × Bool × List Int) := cutA P A k 125 (todoAt P A 125 4) [(2, (.box 107 [(.byv .bool), (.byv (.sl (.int .u32)))])), (3, (.box 107 [(.byv .bool), (.byv (.sl (.int .u32)))])), (4, (.box 107 [(.byv .bool), (.own 147 (.int .u32))])), (5, (.box 107 [(.byv .bool), (.own 147 (.int .u32))])), (6, (.own 147 (.int .u32))), (7, (.byv (.sl (.int .u32)))), (8, (.byv (.int .i64)))] (s2, s3, s4, s5, s6, s7, s8)
theorem whole_Int_By_eq (k : Nat) (a : Bool × List Int) (b : Bool × List Int) : whole_Int_By (k + 1) a b =
  cond (decide (0 ≤ (a.2.length : Int))) (
  cond (decide ((a.2.length : Int).toNat ≤ 35184372088832)) (
  whole_Int_By_c4 k a b (false, []) (false, []) (List.replicate (a.2.length : Int).toNat 0) [] (wi64 ((wi64 ((a.2.length : Int) * 32)) - 1))) none) none := by kernel_rfl
theorem whole_Int_By_c4_eq (k : Nat) (s2 : Bool × List Int) (s3 : Bool × List Int) (s4 : Bool × List Int) (s5 : Bool × List Int) (s6 : List Int) (s7 : List Int) (s8 : Int) : whole_Int_By_c4 (k + 1) s2 s3 s4 s5 s6 s7 s8 =
  cond (decide (s8 ≥ 0)) (
    (whole_sum k s7 s7).bind fun y0 =>
    cond (decide (0 < (y0.length : Int))) (
    cond (decide (0 ≤ (wi64 (s8.tdiv 32)))) (
    cond (decide ((wi64 (s8.tdiv 32)) < (s2.2.length : Int))) (
    cond (decide (0 ≤ (s8.tmod 32))) (
    cond (decide (0 < (y0.length : Int))) (
    (whole_trimmed k (y0.set 0 (bitsI .or .u32 (y0.getD 0 0) (bitsI .and .u32 (shrI .u32 (s2.2.getD (wi64 (s8.tdiv 32)).toNat 0) (s8.tmod 32)) 1)))).bind fun y1 =>
    (whole_compare k y1 s3.2).bind fun y2 =>
    cond (decide (y2 ≥ 0)) (
      (whole_less k y1 s3.2).bind fun y3 =>
      cond (decide (0 ≤ (wi64 (s8.tdiv 32)))) (
      cond (decide ((wi64 (s8.tdiv 32)) < (s6.length : Int))) (
      cond (decide (0 ≤ (s8.tmod 32))) (
      cond (decide (0 ≤ (wi64 (s8.tdiv 32)))) (
      cond (decide ((wi64 (s8.tdiv 32)) < (s6.length : Int))) (
      whole_Int_By_c4 k s2 s3 s4 s5 (s6.set (wi64 (s8.tdiv 32)).toNat (bitsI .or .u32 (s6.getD (wi64 (s8.tdiv 32)).toNat 0) (shlI .u32 1 (s8.tmod 32)))) y3 (wi64 (s8 - 1))) none) none) none) none) none) (
      whole_Int_By_c4 k s2 s3 s4 s5 s6 y1 (wi64 (s8 - 1)))) none) none) none) none) none) (
    (whole_made k false s6).bind fun y4 =>
    (whole_made k false s7).bind fun y5 =>
    some (y4, y5)) := by kernel_rfl
/-- interchange/amount.Fewest -/
noncomputable def amount_Fewest (k : Nat) (a : Bool × List Int) (b : Int) : Option ((Int × Int) × Int) := callA P A k 69 (a, b)
noncomputable def amount_Fewest_c2 (k : Nat) (s1 : Int) (s2 : Bool × List Int) (s4 : Int × Int) (s6 : Bool × List Int) : Option ((Int × Int) × Int) := cutA P A k 69 (todoAt P A 69 2) [(1, (.byv (.int .i64))), (2, (.box 107 [(.byv .bool), (.byv (.sl (.int .u32)))])), (4, (.box 62 [(.byv (.int .i64)), (.byv (.int .i64))])), (6, (.box 107 [(.byv .bool), (.byv (.sl (.int .u32)))]))] (s1, s2, s4, s6)
theorem amount_Fewest_eq (k : Nat) (a : Bool × List Int) (b : Int) : amount_Fewest (k + 1) a b =
  (whole_Of k 10).bind fun y0 =>
  amount_Fewest_c2 k b a (0, 0) y0 := by kernel_rfl
theorem amount_Fewest_c2_eq (k : Nat) (s1 : Int) (s2 : Bool × List Int) (s4 : Int × Int) (s6 : Bool × List Int) : amount_Fewest_c2 (k + 1) s1 s2 s4 s6 =
  cond (decide (s1 > 0)) (
    (whole_Int_By k s2 s6).bind fun y1 =>
    (whole_Int_Sign k y1.2).bind fun y2 =>
    cond (y2 != 0) (
      (amount_Made k s2 s1).bind fun y3 =>
      some y3) (
      (whole_Int_Sign k s2).bind fun y4 =>
      cond (decide (y4 < 0)) (
        (whole_Int_Minus k y1.1).bind fun y5 =>
        amount_Fewest_c2 k (wi64 (s1 - 1)) y5 s4 s6) (
        amount_Fewest_c2 k (wi64 (s1 - 1)) y1.1 s4 s6))) (
    (amount_Made k s2 s1).bind fun y6 =>
    some y6) := by kernel_rfl
/-- interchange/flat.sumOf -/
noncomputable def flat_sumOf (k : Nat) (a : QF) (b : List QR) (c : ByteArray) (d : ByteArray) : Option ((Int × Int) × Int) := callA P A k 33 (a, b, c, d)
noncomputable def flat_sumOf_c3 (k : Nat) (s2 : ByteArray) (s3 : ByteArray) (s4 : QF) (s8 : Int × Int) (s10 : Bool × List Int) (s19 : List QR) (s20 : Int) (s21 : Int) : Option ((Int × Int) × Int) := cutA P A k 33 (todoAt P A 33 3) [(2, (.byv .str)), (3, (.byv .str)), (4, (.box 24 [(.byv (.int .u8)), (.byv (.int .u8)), (.byv (.sl eK)), (.byv .str), (.byv .str), (.byv .str), (.byv .str)])), (8, (.box 62 [(.byv (.int .i64)), (.byv (.int .i64))])), (10, (.box 107 [(.byv .bool), (.byv (.sl (.int .u32)))])), (19, (.byv (.sl eR))), (20, (.byv (.int .i64))), (21, (.byv (.int .i64)))] (s2, s3, s4, s8, s10, s19, s20, s21)
theorem flat_sumOf_eq (k : Nat) (a : QF) (b : List QR) (c : ByteArray) (d : ByteArray) : flat_sumOf (k + 1) a b c d =
  (whole_Of k 0).bind fun y0 =>
  flat_sumOf_c3 k c d a (0, 0) y0 b (b.length : Int) 0 := by kernel_rfl
theorem flat_sumOf_c3_eq (k : Nat) (s2 : ByteArray) (s3 : ByteArray) (s4 : QF) (s8 : Int × Int) (s10 : Bool × List Int) (s19 : List QR) (s20 : Int) (s21 : Int) : flat_sumOf_c3 (k + 1) s2 s3 s4 s8 s10 s19 s20 s21 =
  cond (decide (s21 < s20)) (
    cond (decide (0 ≤ s21)) (
    cond (decide (s21 < (s19.length : Int))) (
    (flat_kindAt k s4 ((s19.getD s21.toNat ((bs []), [])).1)).bind fun y1 =>
    (flat_columnAt k y1.1 s3).bind fun y2 =>
    cond ((!(!(cond (cond (!(eqS s2 (bs []))) (!(eqS ((s19.getD s21.toNat ((bs []), [])).1) s2)) false) true (decide (y2 < 0))))) || (decide (0 ≤ y2))) (
    cond ((!(!(cond (cond (!(eqS s2 (bs []))) (!(eqS ((s19.getD s21.toNat ((bs []), [])).1) s2)) false) true (decide (y2 < 0))))) || (decide (y2 < (((s19.getD s21.toNat ((bs []), [])).2).length : Int)))) (
    cond (cond (cond (cond (!(eqS s2 (bs []))) (!(eqS ((s19.getD s21.toNat ((bs []), [])).1) s2)) false) true (decide (y2 < 0))) true (eqS (((s19.getD s21.toNat ((bs []), [])).2).getD y2.toNat (bs [])) (bs []))) (
      flat_sumOf_c3 k s2 s3 s4 s8 s10 s19 s20 (wi64 (s21 + 1))) (
      cond (decide (0 ≤ y2)) (
      cond (decide (y2 < (((s19.getD s21.toNat ((bs []), [])).2).length : Int))) (
      (amount_ReadText k (((s19.getD s21.toNat ((bs []), [])).2).getD y2.toNat (bs []))).bind fun y3 =>
      (amount_Value k y3.1).bind fun y4 =>
      (whole_Int_Plus k s10 y4).bind fun y5 =>
      flat_sumOf_c3 k s2 s3 s4 s8 y5 s19 s20 (wi64 (s21 + 1))) none) none)) none) none) none) none) (
    (amount_Fewest k s10 9).bind fun y6 =>
    some y6) := by kernel_rfl
/-- interchange/amount.CheckDecimal -/
noncomputable def amount_CheckDecimal (k : Nat) (a : Int × Int) : Option Int := callA P A k 129 a
theorem amount_CheckDecimal_eq (k : Nat) (a : Int × Int) : amount_CheckDecimal (k + 1) a =
  (kit_Outside k a.1 (-1000000000000000) 1000000000000000).bind fun y0 =>
  (cond (!y0) (kit_Outside k a.2 0 9) (some false)).bind fun y1 =>
  cond (cond y0 true y1) (
    some 1) (
    some 0) := by kernel_rfl
/-- (interchange/whole.Int).Abs -/
noncomputable def whole_Int_Abs (k : Nat) (a : Bool × List Int) : Option (Bool × List Int) := callA P A k 131 a
theorem whole_Int_Abs_eq (k : Nat) (a : Bool × List Int) : whole_Int_Abs (k + 1) a =
  (whole_made k false a.2).bind fun y0 =>
  some y0 := by kernel_rfl
/-- interchange/amount.pointed -/
noncomputable def amount_pointed (k : Nat) (a : ByteArray) (b : Int) : Option (ByteArray × ByteArray) := callA P A k 130 (a, b)
theorem amount_pointed_eq (k : Nat) (a : ByteArray) (b : Int) : amount_pointed (k + 1) a b =
  (strings_Repeat k (bs [48]) (maxI 0 (wi64 ((wi64 (b + 1)) - (a.size : Int))))).bind fun y0 =>
  cond (decide (y0.size + a.size ≤ 9223372036854775807)) (
  cond (decide (0 ≤ (wi64 (((y0 ++ a).size : Int) - b)))) (
  cond (decide ((wi64 (((y0 ++ a).size : Int) - b)) ≤ ((y0 ++ a).size : Int))) (
  cond (decide (0 ≤ (wi64 (((y0 ++ a).size : Int) - b)))) (
  cond (decide ((wi64 (((y0 ++ a).size : Int) - b)) ≤ ((y0 ++ a).size : Int))) (
  some (((y0 ++ a).extract 0 (wi64 (((y0 ++ a).size : Int) - b)).toNat), ((y0 ++ a).extract (wi64 (((y0 ++ a).size : Int) - b)).toNat (y0 ++ a).size))) none) none) none) none) none := by kernel_rfl
/-- interchange/amount.sign -/
noncomputable def amount_sign (k : Nat) (a : Int × Int) : Option ByteArray := callA P A k 133 a
theorem amount_sign_eq (k : Nat) (a : Int × Int) : amount_sign (k + 1) a =
  cond (decide (a.1 < 0)) (
    some (bs [45])) (
    some (bs [])) := by kernel_rfl
/-- interchange/amount.Text -/
noncomputable def amount_Text (k : Nat) (a : Int × Int) : Option (ByteArray × Int) := callA P A k 70 a
theorem amount_Text_eq (k : Nat) (a : Int × Int) : amount_Text (k + 1) a =
  (amount_CheckDecimal k a).bind fun y0 =>
  cond (y0 != 0) (
    some ((bs []), y0)) (
    (whole_Of k a.1).bind fun y1 =>
    (whole_Int_Abs k y1).bind fun y2 =>
    (whole_Int_Text k y2).bind fun y3 =>
    (amount_pointed k y3 a.2).bind fun y4 =>
    cond (a.2 == 0) (
      (amount_sign k a).bind fun y5 =>
      cond (decide (y5.size + y4.1.size ≤ 9223372036854775807)) (
      some ((y5 ++ y4.1), 0)) none) (
      (amount_sign k a).bind fun y6 =>
      cond (decide (y6.size + y4.1.size ≤ 9223372036854775807)) (
      cond (decide ((y6 ++ y4.1).size + 1 ≤ 9223372036854775807)) (
      cond (decide (((y6 ++ y4.1) ++ (bs [46])).size + y4.2.size ≤ 9223372036854775807)) (
      some ((((y6 ++ y4.1) ++ (bs [46])) ++ y4.2), 0)) none) none) none)) := by kernel_rfl
/-- interchange/amount.Told -/
noncomputable def amount_Told (k : Nat) (a : Int × Int) : Option ByteArray := callA P A k 34 a
theorem amount_Told_eq (k : Nat) (a : Int × Int) : amount_Told (k + 1) a =
  (amount_Text k a).bind fun y0 =>
  some y0.1 := by kernel_rfl
/-- slices.Clone[[]interchange/api.Row,interchange/api.Row] -/
noncomputable def slices_Clone_Lapi_Row_api_Row (k : Nat) (a : List QR) : Option (List QR) := callA P A k 75 a
theorem slices_Clone_Lapi_Row_api_Row_eq (k : Nat) (a : List QR) : slices_Clone_Lapi_Row_api_Row (k + 1) a =
  cond a.isEmpty (
    bothA (.sl eR) (
      some ([])) (
      cond (decide (0 + a.length < 3518437208883)) (
      some ([] ++ a)) none)) (
    cond (decide (0 + a.length < 3518437208883)) (
    some ([] ++ a)) none) := by kernel_rfl
/-- interchange/flat.cloneRows -/
noncomputable def flat_cloneRows (k : Nat) (a : List QR) : Option (List QR) := callA P A k 38 a
noncomputable def flat_cloneRows_c3 (k : Nat) (s0 : List QR) (s8 : Int) (s9 : Int) : Option (List QR) := cutA P A k 38 (todoAt P A 38 3) [(0, (.own 27 eR)), (8, (.byv (.int .i64))), (9, (.byv (.int .i64)))] (s0, s8, s9)
theorem flat_cloneRows_eq (k : Nat) (a : List QR) : flat_cloneRows (k + 1) a =
  (slices_Clone_Lapi_Row_api_Row k a).bind fun y0 =>
  flat_cloneRows_c3 k y0 (y0.length : Int) 0 := by kernel_rfl
theorem flat_cloneRows_c3_eq (k : Nat) (s0 : List QR) (s8 : Int) (s9 : Int) : flat_cloneRows_c3 (k + 1) s0 s8 s9 =
  cond (decide (s9 < s8)) (
    cond (decide (0 ≤ s9)) (
    cond (decide (s9 < (s0.length : Int))) (
    (slices_Clone_Lstring_string k ((s0.getD s9.toNat ((bs []), [])).2)).bind fun y1 =>
    cond (decide (0 ≤ s9)) (
    cond (decide (s9 < (s0.length : Int))) (
    flat_cloneRows_c3 k (s0.set s9.toNat (((s0.getD s9.toNat ((bs []), [])).1), y1)) s8 (wi64 (s9 + 1))) none) none) none) none) (
    some s0) := by kernel_rfl
/-- interchange/flat.Closed -/
noncomputable def flat_Closed (k : Nat) (a : QF) (b : List QR) : Option ((List QR) × Int) := callA P A k 12 (a, b)
noncomputable def flat_Closed_c19 (k : Nat) (s1 : List QR) (s2 : QF) (s9 : QK) (s11 : QR) (s12 : List QR) : Option ((List QR) × Int) := cutA P A k 12 (todoAt P A 12 19) [(1, (.byv (.sl eR))), (2, (.box 24 [(.byv (.int .u8)), (.byv (.int .u8)), (.byv (.sl eK)), (.byv .str), (.byv .str), (.byv .str), (.byv .str)])), (9, (.box 57 [(.byv .str), (.byv (.sl eC)), (.byv (.int .i64)), (.byv .str)])), (11, (.box 27 [(.byv .str), (.own 9 .str)])), (12, (.byv (.sl eR)))] (s1, s2, s9, s11, s12)
noncomputable def flat_Closed_c24 (k : Nat) (s1 : List QR) (s2 : QF) (s9 : QK) (s11 : QR) (s12 : List QR) : Option ((List QR) × Int) := cutA P A k 12 (todoAt P A 12 24) [(1, (.byv (.sl eR))), (2, (.box 24 [(.byv (.int .u8)), (.byv (.int .u8)), (.byv (.sl eK)), (.byv .str), (.byv .str), (.byv .str), (.byv .str)])), (9, (.box 57 [(.byv .str), (.byv (.sl eC)), (.byv (.int .i64)), (.byv .str)])), (11, (.box 27 [(.byv .str), (.own 9 .str)])), (12, (.byv (.sl eR)))] (s1, s2, s9, s11, s12)
theorem flat_Closed_eq (k : Nat) (a : QF) (b : List QR) : flat_Closed (k + 1) a b =
  (flat_CheckFormat k a).bind fun y0 =>
  cond (y0 != 0) (
    some ([], y0)) (
    cond (eqS a.2.2.2.2.1 (bs [])) (
      some ([], 9)) (
      cond (decide ((b.length : Int) > 2000)) (
        some ([], 2)) (
        (flat_checkRows k a b).bind fun y1 =>
        cond (y1.2 != 0) (
          some ([], y1.2)) (
          (flat_inner k a b).bind fun y2 =>
          (flat_sumFault k a y2).bind fun y3 =>
          cond y3 (
            some ([], 6)) (
            (flat_kindAt k a a.2.2.2.2.1).bind fun y4 =>
            cond (decide (0 ≤ (y4.1.2.1.length : Int))) (
            cond (decide ((y4.1.2.1.length : Int).toNat ≤ 8796093022208)) (
            cond ((!(decide ((b.length : Int) > 0))) || (decide (0 ≤ (wi64 ((b.length : Int) - 1))))) (
            cond ((!(decide ((b.length : Int) > 0))) || (decide ((wi64 ((b.length : Int) - 1)) < (b.length : Int)))) (
            cond (cond (decide ((b.length : Int) > 0)) (eqS ((b.getD (wi64 ((b.length : Int) - 1)).toNat ((bs []), [])).1) a.2.2.2.2.1) false) (
              cond (decide (0 ≤ (wi64 ((b.length : Int) - 1)))) (
              cond (decide ((wi64 ((b.length : Int) - 1)) < (b.length : Int))) (
              (slices_Clone_Lstring_string k ((b.getD (wi64 ((b.length : Int) - 1)).toNat ((bs []), [])).2)).bind fun y5 =>
              cond (decide (0 ≤ (wi64 ((b.length : Int) - 1)))) (
              cond (decide ((wi64 ((b.length : Int) - 1)) ≤ (b.length : Int))) (
              flat_Closed_c19 k b a y4.1 (a.2.2.2.2.1, y5) (b.take (wi64 ((b.length : Int) - 1)).toNat)) none) none) none) none) (
              flat_Closed_c19 k b a y4.1 (a.2.2.2.2.1, (List.replicate (y4.1.2.1.length : Int).toNat (bs []))) b)) none) none) none) none))))) := by kernel_rfl
theorem flat_Closed_c19_eq (k : Nat) (s1 : List QR) (s2 : QF) (s9 : QK) (s11 : QR) (s12 : List QR) : flat_Closed_c19 (k + 1) s1 s2 s9 s11 s12 =
  cond (!(eqS s2.2.2.2.2.2.2 (bs []))) (
    (flat_inner k s2 s1).bind fun y6 =>
    (flat_sumOf k s2 y6 (bs []) s2.2.2.2.2.2.2).bind fun y7 =>
    cond (y7.2 != 0) (
      some ([], y7.2)) (
      (flat_columnAt k s9 s2.2.2.2.2.2.2).bind fun y8 =>
      (amount_Told k y7.1).bind fun y9 =>
      cond (decide (0 ≤ y8)) (
      cond (decide (y8 < (s11.2.length : Int))) (
      flat_Closed_c24 k s1 s2 s9 (s11.1, (s11.2.set y8.toNat y9)) s12) none) none)) (
    flat_Closed_c24 k s1 s2 s9 s11 s12) := by kernel_rfl
theorem flat_Closed_c24_eq (k : Nat) (s1 : List QR) (s2 : QF) (s9 : QK) (s11 : QR) (s12 : List QR) : flat_Closed_c24 (k + 1) s1 s2 s9 s11 s12 =
  cond (!(eqS s2.2.2.2.2.2.1 (bs []))) (
    (flat_columnAt k s9 s2.2.2.2.2.2.1).bind fun y10 =>
    (flat_inner k s2 s1).bind fun y11 =>
    (strconv_Itoa k (y11.length : Int)).bind fun y12 =>
    cond (decide (0 ≤ y10)) (
    cond (decide (y10 < (s11.2.length : Int))) (
    (flat_checkRow k s2 (s11.1, (s11.2.set y10.toNat y12))).bind fun y13 =>
    cond (y13.2 != 0) (
      some ([], y13.2)) (
      (flat_cloneRows k s12).bind fun y14 =>
      cond (decide (y14.length + 1 < 3518437208883)) (
      cond (decide (((y14 ++ [(s11.1, (s11.2.set y10.toNat y12))]).length : Int) > 2000)) (
        some ([], 2)) (
        some ((y14 ++ [(s11.1, (s11.2.set y10.toNat y12))]), 0))) none)) none) none) (
    (flat_checkRow k s2 s11).bind fun y15 =>
    cond (y15.2 != 0) (
      some ([], y15.2)) (
      (flat_cloneRows k s12).bind fun y16 =>
      cond (decide (y16.length + 1 < 3518437208883)) (
      cond (decide (((y16 ++ [s11]).length : Int) > 2000)) (
        some ([], 2)) (
        some ((y16 ++ [s11]), 0))) none)) := by kernel_rfl
/-- internal/stringslite.HasSuffix -/
noncomputable def stringslite_HasSuffix (k : Nat) (a : ByteArray) (b : ByteArray) : Option Bool := callA P A k 211 (a, b)
theorem stringslite_HasSuffix_eq (k : Nat) (a : ByteArray) (b : ByteArray) : stringslite_HasSuffix (k + 1) a b =
  cond ((!(decide ((a.size : Int) ≥ (b.size : Int)))) || (decide (0 ≤ (wi64 ((a.size : Int) - (b.size : Int)))))) (
  cond ((!(decide ((a.size : Int) ≥ (b.size : Int)))) || (decide ((wi64 ((a.size : Int) - (b.size : Int))) ≤ (a.size : Int)))) (
  some (cond (decide ((a.size : Int) ≥ (b.size : Int))) (eqS (a.extract (wi64 ((a.size : Int) - (b.size : Int))).toNat a.size) b) false)) none) none := by kernel_rfl
/-- internal/stringslite.CutSuffix -/
noncomputable def stringslite_CutSuffix (k : Nat) (a : ByteArray) (b : ByteArray) : Option (ByteArray × Bool) := callA P A k 161 (a, b)
theorem stringslite_CutSuffix_eq (k : Nat) (a : ByteArray) (b : ByteArray) : stringslite_CutSuffix (k + 1) a b =
  (stringslite_HasSuffix k a b).bind fun y0 =>
  cond (!y0) (
    some (a, false)) (
    cond (decide (0 ≤ (wi64 ((a.size : Int) - (b.size : Int))))) (
    cond (decide ((wi64 ((a.size : Int) - (b.size : Int))) ≤ (a.size : Int))) (
    some ((a.extract 0 (wi64 ((a.size : Int) - (b.size : Int))).toNat), true)) none) none) := by kernel_rfl
/-- strings.CutSuffix -/
noncomputable def strings_CutSuffix (k : Nat) (a : ByteArray) (b : ByteArray) : Option (ByteArray × Bool) := callA P A k 101 (a, b)
theorem strings_CutSuffix_eq (k : Nat) (a : ByteArray) (b : ByteArray) : strings_CutSuffix (k + 1) a b =
  (stringslite_CutSuffix k a b).bind fun y0 =>
  some y0 := by kernel_rfl
/-- strings.Split -/
noncomputable def strings_Split (k : Nat) (a : ByteArray) (b : ByteArray) : Option (List ByteArray) := callA P A k 102 (a, b)
theorem strings_Split_eq (k : Nat) (a : ByteArray) (b : ByteArray) : strings_Split k a b = cond (decide (a.size < 4294967281) && decide (1 ≤ b.size)) (some (Lib.splitB b 0 (Lib.countB a b) a)) none := by kernel_rfl
/-- interchange/kit.Lines -/
noncomputable def kit_Lines (k : Nat) (a : ByteArray) : Option ((List ByteArray) × Bool) := callA P A k 57 a
theorem kit_Lines_eq (k : Nat) (a : ByteArray) : kit_Lines (k + 1) a =
  cond (eqS a (bs [])) (
    some ([], true)) (
    (strings_CutSuffix k a (bs [10])).bind fun y0 =>
    (strings_Split k y0.1 (bs [10])).bind fun y1 =>
    some (y1, y0.2)) := by kernel_rfl
/-- interchange/kit.Words -/
noncomputable def kit_Words (k : Nat) (a : ByteArray) : Option ((List ByteArray) × Bool) := callA P A k 103 a
noncomputable def kit_Words_c3 (k : Nat) (s4 : List ByteArray) (s10 : Int) (s11 : Int) : Option ((List ByteArray) × Bool) := cutA P A k 103 (todoAt P A 103 3) [(4, (.own 9 .str)), (10, (.byv (.int .i64))), (11, (.byv (.int .i64)))] (s4, s10, s11)
theorem kit_Words_eq (k : Nat) (a : ByteArray) : kit_Words (k + 1) a =
  (strings_Split k a (bs [32])).bind fun y0 =>
  kit_Words_c3 k y0 (y0.length : Int) 0 := by kernel_rfl
theorem kit_Words_c3_eq (k : Nat) (s4 : List ByteArray) (s10 : Int) (s11 : Int) : kit_Words_c3 (k + 1) s4 s10 s11 =
  cond (decide (s11 < s10)) (
    cond (decide (0 ≤ s11)) (
    cond (decide (s11 < (s4.length : Int))) (
    cond (eqS (s4.getD s11.toNat (bs [])) (bs [])) (
      some ([], false)) (
      kit_Words_c3 k s4 s10 (wi64 (s11 + 1)))) none) none) (
    some (s4, true)) := by kernel_rfl
/-- (*interchange/flat.words).next -/
noncomputable def flat_words_next (k : Nat) (a : (List ByteArray) × Bool) : Option (ByteArray × (List ByteArray) × Bool) := callA P A k 105 a
theorem flat_words_next_eq (k : Nat) (a : (List ByteArray) × Bool) : flat_words_next (k + 1) a =
  cond ((a.1.length : Int) == 0) (
    some ((bs []), (a.1, true))) (
    cond (decide (0 < (a.1.length : Int))) (
    cond (decide (1 ≤ (a.1.length : Int))) (
    some ((a.1.getD 0 (bs [])), ((a.1.drop 1), a.2))) none) none) := by kernel_rfl
/-- interchange/kit.Number -/
noncomputable def kit_Number (k : Nat) (a : ByteArray) (b : Int) : Option (Int × Bool) := callA P A k 164 (a, b)
theorem kit_Number_eq (k : Nat) (a : ByteArray) (b : Int) : kit_Number (k + 1) a b =
  (cond (!(decide ((a.size : Int) > b))) (kit_IsDigits k a) (some false)).bind fun y0 =>
  cond ((!((!(cond (decide ((a.size : Int) > b)) true (!y0))) && (decide ((a.size : Int) > 1)))) || true) (
  cond ((!((!(cond (decide ((a.size : Int) > b)) true (!y0))) && (decide ((a.size : Int) > 1)))) || (decide (0 < (a.size : Int)))) (
  cond (cond (cond (decide ((a.size : Int) > b)) true (!y0)) true (cond (decide ((a.size : Int) > 1)) ((bt a 0) == 48) false)) (
    some (0, false)) (
    (strconv_Atoi k a).bind fun y1 =>
    some y1)) none) none := by kernel_rfl
/-- (*interchange/flat.words).number -/
noncomputable def flat_words_number (k : Nat) (a : (List ByteArray) × Bool) : Option (Int × (List ByteArray) × Bool) := callA P A k 106 a
theorem flat_words_number_eq (k : Nat) (a : (List ByteArray) × Bool) : flat_words_number (k + 1) a =
  (flat_words_next k a).bind fun y0 =>
  (kit_Number k y0.1 4).bind fun y1 =>
  some (y1.1, (y0.2.1, (cond y0.2.2 true (!y1.2)))) := by kernel_rfl
/-- (*interchange/flat.words).byte -/
noncomputable def flat_words_byte (k : Nat) (a : (List ByteArray) × Bool) : Option (Int × (List ByteArray) × Bool) := callA P A k 163 a
theorem flat_words_byte_eq (k : Nat) (a : (List ByteArray) × Bool) : flat_words_byte (k + 1) a =
  (flat_words_number k a).bind fun y0 =>
  some ((wu8 y0.1), (y0.2.1, (cond y0.2.2 true (decide (y0.1 > 255))))) := by kernel_rfl
/-- interchange/kit.Undash -/
noncomputable def kit_Undash (k : Nat) (a : ByteArray) : Option ByteArray := callA P A k 107 a
theorem kit_Undash_eq (k : Nat) (a : ByteArray) : kit_Undash (k + 1) a =
  cond (eqS a (bs [45])) (
    some (bs [])) (
    some a) := by kernel_rfl
/-- interchange/flat.kindWords -/
noncomputable def flat_kindWords (k : Nat) : Option (List ByteArray) := callA P A k 109 ()
theorem flat_kindWords_eq (k : Nat) : flat_kindWords (k + 1) =
  some ([(bs []), (bs [116, 101, 120, 116]), (bs [110, 117, 109, 98, 101, 114]), (bs [100, 97, 121])]) := by kernel_rfl
/-- slices.Index[[]string,string] -/
noncomputable def slices_Index_Lstring_string (k : Nat) (a : List ByteArray) (b : ByteArray) : Option Int := callA P A k 108 (a, b)
noncomputable def slices_Index_Lstring_string_c2 (k : Nat) (s0 : List ByteArray) (s1 : ByteArray) (s7 : Int) (s8 : Int) : Option Int := cutA P A k 108 (todoAt P A 108 2) [(0, (.byv (.sl .str))), (1, (.byv .str)), (7, (.byv (.int .i64))), (8, (.byv (.int .i64)))] (s0, s1, s7, s8)
theorem slices_Index_Lstring_string_eq (k : Nat) (a : List ByteArray) (b : ByteArray) : slices_Index_Lstring_string (k + 1) a b =
  slices_Index_Lstring_string_c2 k a b (a.length : Int) 0 := by kernel_rfl
theorem slices_Index_Lstring_string_c2_eq (k : Nat) (s0 : List ByteArray) (s1 : ByteArray) (s7 : Int) (s8 : Int) : slices_Index_Lstring_string_c2 (k + 1) s0 s1 s7 s8 =
  cond (decide (s8 < s7)) (
    cond (decide (0 ≤ s8)) (
    cond (decide (s8 < (s0.length : Int))) (
    cond (eqS s1 (s0.getD s8.toNat (bs []))) (
      some s8) (
      slices_Index_Lstring_string_c2 k s0 s1 s7 (wi64 (s8 + 1)))) none) none) (
    some (-1)) := by kernel_rfl
/-- interchange/flat.ReadFormat -/
noncomputable def flat_ReadFormat (k : Nat) (a : ByteArray) : Option (QF × Int × Int) := callA P A k 25 a
noncomputable def flat_ReadFormat_c6 (k : Nat) (s2 : QF) (s5 : List ByteArray) (s6 : Bool) (s21 : Int × Int × (List QK) × ByteArray × ByteArray × ByteArray × ByteArray × Bool × Bool) (s23 : Int) (s24 : Int) : Option (QF × Int × Int) := cutA P A k 25 (todoAt P A 25 6) [(2, (.box 24 [(.byv (.int .u8)), (.byv (.int .u8)), (.own 57 eK), (.byv .str), (.byv .str), (.byv .str), (.byv .str)])), (5, (.own 9 .str)), (6, (.byv .bool)), (21, (.box 98 [(.byv (.int .u8)), (.byv (.int .u8)), (.own 57 eK), (.byv .str), (.byv .str), (.byv .str), (.byv .str), (.byv .bool), (.byv .bool)])), (23, (.byv (.int .i64))), (24, (.byv (.int .i64)))] (s2, s5, s6, s21, s23, s24)
theorem flat_ReadFormat_eq (k : Nat) (a : ByteArray) : flat_ReadFormat (k + 1) a =
  cond (decide ((a.size : Int) > 500000)) (
    some ((0, (0, ([], ((bs []), ((bs []), ((bs []), (bs []))))))), (0, 2))) (
    (kit_Lines k a).bind fun y0 =>
    flat_ReadFormat_c6 k (0, (0, ([], ((bs []), ((bs []), ((bs []), (bs []))))))) y0.1 y0.2 (0, (0, ([], ((bs []), ((bs []), ((bs []), ((bs []), (false, false)))))))) (y0.1.length : Int) 0) := by kernel_rfl
theorem flat_ReadFormat_c6_eq (k : Nat) (s2 : QF) (s5 : List ByteArray) (s6 : Bool) (s21 : Int × Int × (List QK) × ByteArray × ByteArray × ByteArray × ByteArray × Bool × Bool) (s23 : Int) (s24 : Int) : flat_ReadFormat_c6 (k + 1) s2 s5 s6 s21 s23 s24 =
  cond (decide (s24 < s23)) (
    cond (decide (0 ≤ s24)) (
    cond (decide (s24 < (s5.length : Int))) (
    (kit_Words k (s5.getD s24.toNat (bs []))).bind fun y1 =>
    cond (cond (!y1.2) true s21.2.2.2.2.2.2.2.2) (
      some ((0, (0, ([], ((bs []), ((bs []), ((bs []), (bs []))))))), ((wi64 (s24 + 1)), 10))) (
      cond (decide (1 ≤ (y1.1.length : Int))) (
      cond (!s21.2.2.2.2.2.2.2.1) (
        cond (decide (0 < (y1.1.length : Int))) (
        cond (eqS (y1.1.getD 0 (bs [])) (bs [102, 105, 120, 101, 100])) (
          cond (cond (!(((y1.1.drop 1).length : Int) == 0)) true (cond (!s6) (s24 == (wi64 ((s5.length : Int) - 1))) false)) (
            some ((0, (0, ([], ((bs []), ((bs []), ((bs []), (bs []))))))), ((wi64 (s24 + 1)), 10))) (
            flat_ReadFormat_c6 k s2 s5 s6 (s21.1, (s21.2.1, (s21.2.2.1, (s21.2.2.2.1, (s21.2.2.2.2.1, (s21.2.2.2.2.2.1, (s21.2.2.2.2.2.2.1, (true, s21.2.2.2.2.2.2.2.2)))))))) s23 (wi64 (s24 + 1)))) (
          cond (eqS (y1.1.getD 0 (bs [])) (bs [109, 97, 114, 107, 101, 100])) (
            (flat_words_byte k ((y1.1.drop 1), false)).bind fun y2 =>
            (flat_words_byte k y2.2).bind fun y3 =>
            cond (cond (!(cond (cond (y2.1 != 0) (!y3.2.2) false) ((y3.2.1.length : Int) == 0) false)) true (cond (!s6) (s24 == (wi64 ((s5.length : Int) - 1))) false)) (
              some ((0, (0, ([], ((bs []), ((bs []), ((bs []), (bs []))))))), ((wi64 (s24 + 1)), 10))) (
              flat_ReadFormat_c6 k s2 s5 s6 (y2.1, (y3.1, (s21.2.2.1, (s21.2.2.2.1, (s21.2.2.2.2.1, (s21.2.2.2.2.2.1, (s21.2.2.2.2.2.2.1, (true, s21.2.2.2.2.2.2.2.2)))))))) s23 (wi64 (s24 + 1)))) (
            some ((0, (0, ([], ((bs []), ((bs []), ((bs []), (bs []))))))), ((wi64 (s24 + 1)), 10))))) none) (
        cond (decide (0 < (y1.1.length : Int))) (
        cond (eqS (y1.1.getD 0 (bs [])) (bs [107, 105, 110, 100])) (
          (flat_words_next k ((y1.1.drop 1), false)).bind fun y4 =>
          (flat_words_number k y4.2).bind fun y5 =>
          (flat_words_next k y5.2).bind fun y6 =>
          (kit_Undash k y6.1).bind fun y7 =>
          cond (decide (s21.2.2.1.length + 1 < 2199023255552)) (
          cond (cond (!(cond (cond y1.2 (!y6.2.2) false) ((y6.2.1.length : Int) == 0) false)) true (cond (!s6) (s24 == (wi64 ((s5.length : Int) - 1))) false)) (
            some ((0, (0, ([], ((bs []), ((bs []), ((bs []), (bs []))))))), ((wi64 (s24 + 1)), 10))) (
            flat_ReadFormat_c6 k s2 s5 s6 (s21.1, (s21.2.1, ((s21.2.2.1 ++ [(y4.1, ([], (y5.1, y7)))]), s21.2.2.2))) s23 (wi64 (s24 + 1)))) none) (
          cond (decide (0 < (y1.1.length : Int))) (
          cond (eqS (y1.1.getD 0 (bs [])) (bs [101, 110, 100, 115])) (
            (flat_words_next k ((y1.1.drop 1), false)).bind fun y8 =>
            (kit_Undash k y8.1).bind fun y9 =>
            (flat_words_next k y8.2).bind fun y10 =>
            (kit_Undash k y10.1).bind fun y11 =>
            (flat_words_next k y10.2).bind fun y12 =>
            (kit_Undash k y12.1).bind fun y13 =>
            (flat_words_next k y12.2).bind fun y14 =>
            (kit_Undash k y14.1).bind fun y15 =>
            cond (cond (!(cond (cond y1.2 (!y14.2.2) false) ((y14.2.1.length : Int) == 0) false)) true (cond (!s6) (s24 == (wi64 ((s5.length : Int) - 1))) false)) (
              some ((0, (0, ([], ((bs []), ((bs []), ((bs []), (bs []))))))), ((wi64 (s24 + 1)), 10))) (
              flat_ReadFormat_c6 k s2 s5 s6 (s21.1, (s21.2.1, (s21.2.2.1, (y9, (y11, (y13, (y15, (s21.2.2.2.2.2.2.2.1, true)))))))) s23 (wi64 (s24 + 1)))) (
            (flat_kindWords k).bind fun y16 =>
            cond (decide (0 < (y1.1.length : Int))) (
            (slices_Index_Lstring_string k y16 (y1.1.getD 0 (bs []))).bind fun y17 =>
            none) none)) none)) none)) none)) none) none) (
    cond (!s21.2.2.2.2.2.2.2.2) (
      some ((0, (0, ([], ((bs []), ((bs []), ((bs []), (bs []))))))), ((wi64 ((s5.length : Int) + 1)), 10))) (
      (flat_CheckFormat k (s21.1, (s21.2.1, (s21.2.2.1, (s21.2.2.2.1, (s21.2.2.2.2.1, (s21.2.2.2.2.2.1, s21.2.2.2.2.2.2.1))))))).bind fun y19 =>
      cond (y19 != 0) (
        some ((0, (0, ([], ((bs []), ((bs []), ((bs []), (bs []))))))), (0, y19))) (
        some ((s21.1, (s21.2.1, (s21.2.2.1, (s21.2.2.2.1, (s21.2.2.2.2.1, (s21.2.2.2.2.2.1, s21.2.2.2.2.2.2.1)))))), (0, 0))))) := by kernel_rfl
/-- interchange/interchangelaw6.awake -/
noncomputable def interchangelaw6_awake (k : Nat) : Option Bool := callA P A k 10 ()
theorem interchangelaw6_awake_eq (k : Nat) : interchangelaw6_awake (k + 1) =
  (flat_ReadFormat k (bs [109, 97, 114, 107, 101, 100, 32, 53, 57, 32, 48, 10, 107, 105, 110, 100, 32, 76, 32, 48, 32, 45, 10, 101, 110, 100, 115, 32, 45, 32, 45, 32, 45, 32, 45, 10])).bind fun y0 =>
  some (cond (cond (cond (y0.2.2 == 0) (y0.2.1 == 0) false) (y0.1.1 == 59) false) ((y0.1.2.2.1.length : Int) == 1) false) := by kernel_rfl
/-- slices.Equal[[]string,string] -/
noncomputable def slices_Equal_Lstring_string (k : Nat) (a : List ByteArray) (b : List ByteArray) : Option Bool := callA P A k 24 (a, b)
noncomputable def slices_Equal_Lstring_string_c4 (k : Nat) (s0 : List ByteArray) (s1 : List ByteArray) (s12 : Int) (s13 : Int) : Option Bool := cutA P A k 24 (todoAt P A 24 4) [(0, (.byv (.sl .str))), (1, (.byv (.sl .str))), (12, (.byv (.int .i64))), (13, (.byv (.int .i64)))] (s0, s1, s12, s13)
theorem slices_Equal_Lstring_string_eq (k : Nat) (a : List ByteArray) (b : List ByteArray) : slices_Equal_Lstring_string (k + 1) a b =
  cond ((a.length : Int) != (b.length : Int)) (
    some false) (
    slices_Equal_Lstring_string_c4 k a b (a.length : Int) 0) := by kernel_rfl
theorem slices_Equal_Lstring_string_c4_eq (k : Nat) (s0 : List ByteArray) (s1 : List ByteArray) (s12 : Int) (s13 : Int) : slices_Equal_Lstring_string_c4 (k + 1) s0 s1 s12 s13 =
  cond (decide (s13 < s12)) (
    cond (decide (0 ≤ s13)) (
    cond (decide (s13 < (s0.length : Int))) (
    cond (decide (0 ≤ s13)) (
    cond (decide (s13 < (s1.length : Int))) (
    cond (!(eqS (s0.getD s13.toNat (bs [])) (s1.getD s13.toNat (bs [])))) (
      some false) (
      slices_Equal_Lstring_string_c4 k s0 s1 s12 (wi64 (s13 + 1)))) none) none) none) none) (
    some true) := by kernel_rfl
/-- interchange/interchangeref6.Same -/
noncomputable def interchangeref6_Same (k : Nat) (a : List QR) (b : List QR) : Option Bool := callA P A k 9 (a, b)
noncomputable def interchangeref6_Same_c4 (k : Nat) (s0 : List QR) (s1 : List QR) (s12 : Int) (s13 : Int) : Option Bool := cutA P A k 9 (todoAt P A 9 4) [(0, (.byv (.sl eR))), (1, (.byv (.sl eR))), (12, (.byv (.int .i64))), (13, (.byv (.int .i64)))] (s0, s1, s12, s13)
theorem interchangeref6_Same_eq (k : Nat) (a : List QR) (b : List QR) : interchangeref6_Same (k + 1) a b =
  cond ((a.length : Int) != (b.length : Int)) (
    some false) (
    interchangeref6_Same_c4 k a b (a.length : Int) 0) := by kernel_rfl
theorem interchangeref6_Same_c4_eq (k : Nat) (s0 : List QR) (s1 : List QR) (s12 : Int) (s13 : Int) : interchangeref6_Same_c4 (k + 1) s0 s1 s12 s13 =
  cond (decide (s13 < s12)) (
    cond (decide (0 ≤ s13)) (
    cond (decide (s13 < (s0.length : Int))) (
    cond (decide (0 ≤ s13)) (
    cond (decide (s13 < (s1.length : Int))) (
    cond ((!(!(!(eqS ((s0.getD s13.toNat ((bs []), [])).1) ((s1.getD s13.toNat ((bs []), [])).1))))) || (decide (0 ≤ s13))) (
    cond ((!(!(!(eqS ((s0.getD s13.toNat ((bs []), [])).1) ((s1.getD s13.toNat ((bs []), [])).1))))) || (decide (s13 < (s0.length : Int)))) (
    cond ((!(!(!(eqS ((s0.getD s13.toNat ((bs []), [])).1) ((s1.getD s13.toNat ((bs []), [])).1))))) || (decide (0 ≤ s13))) (
    cond ((!(!(!(eqS ((s0.getD s13.toNat ((bs []), [])).1) ((s1.getD s13.toNat ((bs []), [])).1))))) || (decide (s13 < (s1.length : Int)))) (
    (cond (!(!(eqS ((s0.getD s13.toNat ((bs []), [])).1) ((s1.getD s13.toNat ((bs []), [])).1)))) (slices_Equal_Lstring_string k ((s0.getD s13.toNat ((bs []), [])).2) ((s1.getD s13.toNat ((bs []), [])).2)) (some false)).bind fun y0 =>
    cond (cond (!(eqS ((s0.getD s13.toNat ((bs []), [])).1) ((s1.getD s13.toNat ((bs []), [])).1))) true (!y0)) (
      some false) (
      interchangeref6_Same_c4 k s0 s1 s12 (wi64 (s13 + 1)))) none) none) none) none) none) none) none) none) (
    some true) := by kernel_rfl
/-- interchange/flat.isUnder -/
noncomputable def flat_isUnder (k : Nat) (a : QF) (b : ByteArray) (c : ByteArray) : Option Bool := callA P A k 181 (a, b, c)
noncomputable def flat_isUnder_c2 (k : Nat) (s2 : ByteArray) (s3 : QF) (s7 : QK) (s8 : Bool) : Option Bool := cutA P A k 181 (todoAt P A 181 2) [(2, (.byv .str)), (3, (.box 24 [(.byv (.int .u8)), (.byv (.int .u8)), (.byv (.sl eK)), (.byv .str), (.byv .str), (.byv .str), (.byv .str)])), (7, (.box 57 [(.byv .str), (.byv (.sl eC)), (.byv (.int .i64)), (.byv .str)])), (8, (.byv .bool))] (s2, s3, s7, s8)
noncomputable def flat_isUnder_c7 (k : Nat) (s2 : ByteArray) (s3 : QF) (s32 : QK) : Option Bool := cutA P A k 181 (todoAt P A 181 7) [(2, (.byv .str)), (3, (.box 24 [(.byv (.int .u8)), (.byv (.int .u8)), (.byv (.sl eK)), (.byv .str), (.byv .str), (.byv .str), (.byv .str)])), (32, (.byv eK))] (s2, s3, s32)
theorem flat_isUnder_eq (k : Nat) (a : QF) (b : ByteArray) (c : ByteArray) : flat_isUnder (k + 1) a b c =
  (flat_kindAt k a b).bind fun y0 =>
  flat_isUnder_c2 k c a y0.1 y0.2 := by kernel_rfl
theorem flat_isUnder_c2_eq (k : Nat) (s2 : ByteArray) (s3 : QF) (s7 : QK) (s8 : Bool) : flat_isUnder_c2 (k + 1) s2 s3 s7 s8 =
  cond (cond s8 (!(eqS s7.2.2.2 (bs []))) false) (
    cond (eqS s7.2.2.2 s2) (
      some true) (
      flat_isUnder_c7 k s2 s3 s7)) (
    some false) := by kernel_rfl
theorem flat_isUnder_c7_eq (k : Nat) (s2 : ByteArray) (s3 : QF) (s32 : QK) : flat_isUnder_c7 (k + 1) s2 s3 s32 =
  (flat_kindAt k s3 s32.2.2.2).bind fun y1 =>
  flat_isUnder_c2 k s2 s3 y1.1 y1.2 := by kernel_rfl
/-- interchange/flat.overOf -/
noncomputable def flat_overOf (k : Nat) (a : QF) (b : List QR) (c : Int) (d : ByteArray) : Option Int := callA P A k 136 (a, b, c, d)
noncomputable def flat_overOf_c2 (k : Nat) (s1 : List QR) (s3 : ByteArray) (s4 : QF) (s9 : Int) : Option Int := cutA P A k 136 (todoAt P A 136 2) [(1, (.byv (.sl eR))), (3, (.byv .str)), (4, (.box 24 [(.byv (.int .u8)), (.byv (.int .u8)), (.byv (.sl eK)), (.byv .str), (.byv .str), (.byv .str), (.byv .str)])), (9, (.byv (.int .i64)))] (s1, s3, s4, s9)
theorem flat_overOf_eq (k : Nat) (a : QF) (b : List QR) (c : Int) (d : ByteArray) : flat_overOf (k + 1) a b c d =
  flat_overOf_c2 k b d a (wi64 (c - 1)) := by kernel_rfl
theorem flat_overOf_c2_eq (k : Nat) (s1 : List QR) (s3 : ByteArray) (s4 : QF) (s9 : Int) : flat_overOf_c2 (k + 1) s1 s3 s4 s9 =
  cond (decide (s9 ≥ 0)) (
    cond (decide (0 ≤ s9)) (
    cond (decide (s9 < (s1.length : Int))) (
    cond (eqS ((s1.getD s9.toNat ((bs []), [])).1) s3) (
      some s9) (
      cond (decide (0 ≤ s9)) (
      cond (decide (s9 < (s1.length : Int))) (
      (flat_isUnder k s4 ((s1.getD s9.toNat ((bs []), [])).1) s3).bind fun y0 =>
      cond (!y0) (
        some (-1)) (
        flat_overOf_c2 k s1 s3 s4 (wi64 (s9 - 1)))) none) none)) none) none) (
    some (-1)) := by kernel_rfl
/-- interchange/flat.rowOrder -/
noncomputable def flat_rowOrder (k : Nat) (a : QF) (b : List QR) (c : Int) : Option Int := callA P A k 76 (a, b, c)
noncomputable def flat_rowOrder_c16 (k : Nat) (s7 : ByteArray) (s8 : QK) (s11 : Int) (s73 : List QR) (s74 : Int) (s75 : Int) : Option Int := cutA P A k 76 (todoAt P A 76 16) [(7, (.byv .str)), (8, (.box 57 [(.byv .str), (.byv (.sl eC)), (.byv (.int .i64)), (.byv .str)])), (11, (.byv (.int .i64))), (73, (.byv (.sl eR))), (74, (.byv (.int .i64))), (75, (.byv (.int .i64)))] (s7, s8, s11, s73, s74, s75)
theorem flat_rowOrder_eq (k : Nat) (a : QF) (b : List QR) (c : Int) : flat_rowOrder (k + 1) a b c =
  cond (decide (0 ≤ c)) (
  cond (decide (c < (b.length : Int))) (
  cond (cond (!(eqS a.2.2.2.1 (bs []))) (!((eqS ((b.getD c.toNat ((bs []), [])).1) a.2.2.2.1) == (c == 0))) false) (
    some 8) (
    cond (cond (cond (!(eqS a.2.2.2.2.1 (bs []))) (eqS ((b.getD c.toNat ((bs []), [])).1) a.2.2.2.2.1) false) (c != (wi64 ((b.length : Int) - 1))) false) (
      some 8) (
      (flat_kindAt k a ((b.getD c.toNat ((bs []), [])).1)).bind fun y0 =>
      cond (!(eqS y0.1.2.2.2 (bs []))) (
        (flat_overOf k a b c y0.1.2.2.2).bind fun y1 =>
        cond (decide (y1 < 0)) (
          some 8) (
          cond (y0.1.2.2.1 == 0) (
            some 0) (
            cond (decide (0 ≤ y1)) (
            cond (decide (y1 ≤ (wi64 (c + 1)))) (
            cond (decide ((wi64 (c + 1)) ≤ (b.length : Int))) (
            flat_rowOrder_c16 k ((b.getD c.toNat ((bs []), [])).1) y0.1 0 ((b.take (wi64 (c + 1)).toNat).drop y1.toNat) (((b.take (wi64 (c + 1)).toNat).drop y1.toNat).length : Int) 0) none) none) none))) (
        cond (y0.1.2.2.1 == 0) (
          some 0) (
          cond (decide (0 ≤ (wi64 (c + 1)))) (
          cond (decide ((wi64 (c + 1)) ≤ (b.length : Int))) (
          flat_rowOrder_c16 k ((b.getD c.toNat ((bs []), [])).1) y0.1 0 ((b.take (wi64 (c + 1)).toNat).drop 0) (((b.take (wi64 (c + 1)).toNat).drop 0).length : Int) 0) none) none))))) none) none := by kernel_rfl
theorem flat_rowOrder_c16_eq (k : Nat) (s7 : ByteArray) (s8 : QK) (s11 : Int) (s73 : List QR) (s74 : Int) (s75 : Int) : flat_rowOrder_c16 (k + 1) s7 s8 s11 s73 s74 s75 =
  cond (decide (s75 < s74)) (
    cond (decide (0 ≤ s75)) (
    cond (decide (s75 < (s73.length : Int))) (
    cond (eqS ((s73.getD s75.toNat ((bs []), [])).1) s7) (
      flat_rowOrder_c16 k s7 s8 (wi64 (s11 + 1)) s73 s74 (wi64 (s75 + 1))) (
      flat_rowOrder_c16 k s7 s8 s11 s73 s74 (wi64 (s75 + 1)))) none) none) (
    cond (decide (s11 > s8.2.2.1)) (
      some 2) (
      some 0)) := by kernel_rfl
/-- interchange/flat.checkOrder -/
noncomputable def flat_checkOrder (k : Nat) (a : QF) (b : List QR) : Option (Int × Int) := callA P A k 39 (a, b)
noncomputable def flat_checkOrder_c5 (k : Nat) (s1 : List QR) (s2 : QF) (s21 : Int) (s22 : Int) : Option (Int × Int) := cutA P A k 39 (todoAt P A 39 5) [(1, (.byv (.sl eR))), (2, (.box 24 [(.byv (.int .u8)), (.byv (.int .u8)), (.byv (.sl eK)), (.byv .str), (.byv .str), (.byv .str), (.byv .str)])), (21, (.byv (.int .i64))), (22, (.byv (.int .i64)))] (s1, s2, s21, s22)
theorem flat_checkOrder_eq (k : Nat) (a : QF) (b : List QR) : flat_checkOrder (k + 1) a b =
  (flat_checkRows k a b).bind fun y0 =>
  cond (y0.2 != 0) (
    some y0) (
    flat_checkOrder_c5 k b a (b.length : Int) 0) := by kernel_rfl
theorem flat_checkOrder_c5_eq (k : Nat) (s1 : List QR) (s2 : QF) (s21 : Int) (s22 : Int) : flat_checkOrder_c5 (k + 1) s1 s2 s21 s22 =
  cond (decide (s22 < s21)) (
    (flat_rowOrder k s2 s1 s22).bind fun y1 =>
    cond (y1 != 0) (
      some (s22, y1)) (
      flat_checkOrder_c5 k s1 s2 s21 (wi64 (s22 + 1)))) (
    cond ((!((!(eqS s2.2.2.2.2.1 (bs []))) && (!((s1.length : Int) == 0)))) || (decide (0 ≤ (wi64 ((s1.length : Int) - 1))))) (
    cond ((!((!(eqS s2.2.2.2.2.1 (bs []))) && (!((s1.length : Int) == 0)))) || (decide ((wi64 ((s1.length : Int) - 1)) < (s1.length : Int)))) (
    cond (cond (!(eqS s2.2.2.2.2.1 (bs []))) (cond ((s1.length : Int) == 0) true (!(eqS ((s1.getD (wi64 ((s1.length : Int) - 1)).toNat ((bs []), [])).1) s2.2.2.2.2.1))) false) (
      some ((s1.length : Int), 8)) (
      some (0, 0))) none) none) := by kernel_rfl
/-- interchange/flat.CheckOrder -/
noncomputable def flat_CheckOrder (k : Nat) (a : QF) (b : List QR) : Option (Int × Int) := callA P A k 13 (a, b)
theorem flat_CheckOrder_eq (k : Nat) (a : QF) (b : List QR) : flat_CheckOrder (k + 1) a b =
  (flat_CheckFormat k a).bind fun y0 =>
  cond (y0 != 0) (
    some (0, y0)) (
    (flat_checkOrder k a b).bind fun y1 =>
    some y1) := by kernel_rfl
/-- interchange/flat.inner -/
noncomputable def flat_inner_1 (k : Nat) (a : QF) (b : List QR) : Option (List QR) := callA P A k 100030 (a, b)
noncomputable def flat_inner_1_c3 (k : Nat) (s2 : QF) (s5 : List QR) (s8 : List QR) (s9 : Int) (s10 : Int) : Option (List QR) := cutA P A k 100030 (todoAt P A 100030 3) [(2, (.box 24 [(.byv (.int .u8)), (.byv (.int .u8)), (.byv (.sl eK)), (.byv .str), (.byv .str), (.byv .str), (.byv .str)])), (5, (.own 27 eR)), (8, (.byv (.sl eR))), (9, (.byv (.int .i64))), (10, (.byv (.int .i64)))] (s2, s5, s8, s9, s10)
theorem flat_inner_1_eq (k : Nat) (a : QF) (b : List QR) : flat_inner_1 (k + 1) a b =
  flat_inner_1_c3 k a [] b (b.length : Int) 0 := by kernel_rfl
theorem flat_inner_1_c3_eq (k : Nat) (s2 : QF) (s5 : List QR) (s8 : List QR) (s9 : Int) (s10 : Int) : flat_inner_1_c3 (k + 1) s2 s5 s8 s9 s10 =
  cond (decide (s10 < s9)) (
    cond (decide (0 ≤ s10)) (
    cond (decide (s10 < (s8.length : Int))) (
    cond (cond (cond (eqS s2.2.2.2.1 (bs [])) true (!(eqS ((s8.getD s10.toNat ((bs []), [])).1) s2.2.2.2.1))) (cond (eqS s2.2.2.2.2.1 (bs [])) true (!(eqS ((s8.getD s10.toNat ((bs []), [])).1) s2.2.2.2.2.1))) false) (
      cond (decide (s5.length + 1 < 3518437208883)) (
      flat_inner_1_c3 k s2 (s5 ++ [(((s8.getD s10.toNat ((bs []), [])).1), ((s8.getD s10.toNat ((bs []), [])).2))]) s8 s9 (wi64 (s10 + 1))) none) (
      flat_inner_1_c3 k s2 s5 s8 s9 (wi64 (s10 + 1)))) none) none) (
    some s5) := by kernel_rfl
/-- interchange/flat.CheckTotals -/
noncomputable def flat_CheckTotals (k : Nat) (a : QF) (b : List QR) : Option (Int × Int) := callA P A k 14 (a, b)
theorem flat_CheckTotals_eq (k : Nat) (a : QF) (b : List QR) : flat_CheckTotals (k + 1) a b =
  (flat_CheckOrder k a b).bind fun y0 =>
  cond (y0.2 != 0) (
    some (0, y0.2)) (
    cond (eqS a.2.2.2.2.1 (bs [])) (
      some (0, 9)) (
      (flat_kindAt k a a.2.2.2.2.1).bind fun y1 =>
      cond (decide (0 ≤ (wi64 ((b.length : Int) - 1)))) (
      cond (decide ((wi64 ((b.length : Int) - 1)) < (b.length : Int))) (
      (cond (!(eqS a.2.2.2.2.2.1 (bs []))) (flat_columnAt k y1.1 a.2.2.2.2.2.1) (some 0)).bind fun y2 =>
      cond ((!(!(eqS a.2.2.2.2.2.1 (bs [])))) || (decide (0 ≤ y2))) (
      cond ((!(!(eqS a.2.2.2.2.2.1 (bs [])))) || (decide (y2 < (((b.getD (wi64 ((b.length : Int) - 1)).toNat ((bs []), [])).2).length : Int)))) (
      (cond (!(eqS a.2.2.2.2.2.1 (bs []))) (flat_inner_1 k a b) (some [])).bind fun y3 =>
      (cond (!(eqS a.2.2.2.2.2.1 (bs []))) (strconv_Itoa k (y3.length : Int)) (some (bs []))).bind fun y4 =>
      cond (cond (!(eqS a.2.2.2.2.2.1 (bs []))) (!(eqS (((b.getD (wi64 ((b.length : Int) - 1)).toNat ((bs []), [])).2).getD y2.toNat (bs [])) y4)) false) (
        some (0, 12)) (
        cond (eqS a.2.2.2.2.2.2 (bs [])) (
          some (0, 0)) (
          (flat_inner k a b).bind fun y5 =>
          (flat_sumFault k a y5).bind fun y6 =>
          cond y6 (
            some (1, 6)) (
            (flat_inner k a b).bind fun y7 =>
            (flat_sumOf k a y7 (bs []) a.2.2.2.2.2.2).bind fun y8 =>
            cond (y8.2 != 0) (
              some (1, y8.2)) (
              (flat_columnAt k y1.1 a.2.2.2.2.2.2).bind fun y9 =>
              cond (decide (0 ≤ y9)) (
              cond (decide (y9 < (((b.getD (wi64 ((b.length : Int) - 1)).toNat ((bs []), [])).2).length : Int))) (
              (amount_Told k y8.1).bind fun y10 =>
              cond (!(eqS (((b.getD (wi64 ((b.length : Int) - 1)).toNat ((bs []), [])).2).getD y9.toNat (bs [])) y10)) (
                some (1, 12)) (
                some (0, 0))) none) none))))) none) none) none) none)) := by kernel_rfl
/-- interchange/interchangelaw6.FlatClosedIsRight -/
noncomputable def interchangelaw6_FlatClosedIsRight (k : Nat) (a : QF) (b : List QR) : Option Bool := callA P A k 5 (a, b)
theorem interchangelaw6_FlatClosedIsRight_eq (k : Nat) (a : QF) (b : List QR) : interchangelaw6_FlatClosedIsRight (k + 1) a b =
  (flat_Closed k a b).bind fun y0 =>
  cond (y0.2 != 0) (
    (cond ((y0.1.length : Int) == 0) (interchangelaw6_awake k) (some false)).bind fun y1 =>
    some (cond ((y0.1.length : Int) == 0) y1 false)) (
    (flat_Closed k a y0.1).bind fun y2 =>
    (cond (!(y2.2 != 0)) (interchangeref6_Same k y0.1 y2.1) (some false)).bind fun y3 =>
    (cond (!(cond (y2.2 != 0) true (!y3))) (interchangelaw6_awake k) (some false)).bind fun y4 =>
    cond (cond (cond (y2.2 != 0) true (!y3)) true (!y4)) (
      some false) (
      (flat_CheckOrder k a y0.1).bind fun y5 =>
      cond (y5.2 != 0) (
        some true) (
        (flat_CheckTotals k a y0.1).bind fun y6 =>
        some (cond (y6.2 == 0) (y6.1 == 0) false)))) := by kernel_rfl
/-- interchange/interchangeref6.kindOf -/
noncomputable def interchangeref6_kindOf (k : Nat) (a : QF) (b : ByteArray) : Option Int := callA P A k 48 (a, b)
noncomputable def interchangeref6_kindOf_c2 (k : Nat) (s1 : ByteArray) (s8 : List QK) (s9 : Int) (s10 : Int) : Option Int := cutA P A k 48 (todoAt P A 48 2) [(1, (.byv .str)), (8, (.byv (.sl eK))), (9, (.byv (.int .i64))), (10, (.byv (.int .i64)))] (s1, s8, s9, s10)
theorem interchangeref6_kindOf_eq (k : Nat) (a : QF) (b : ByteArray) : interchangeref6_kindOf (k + 1) a b =
  interchangeref6_kindOf_c2 k b a.2.2.1 (a.2.2.1.length : Int) 0 := by kernel_rfl
theorem interchangeref6_kindOf_c2_eq (k : Nat) (s1 : ByteArray) (s8 : List QK) (s9 : Int) (s10 : Int) : interchangeref6_kindOf_c2 (k + 1) s1 s8 s9 s10 =
  cond (decide (s10 < s9)) (
    cond (decide (0 ≤ s10)) (
    cond (decide (s10 < (s8.length : Int))) (
    cond (eqS ((s8.getD s10.toNat ((bs []), ([], (0, (bs []))))).1) s1) (
      some s10) (
      interchangeref6_kindOf_c2 k s1 s8 s9 (wi64 (s10 + 1)))) none) none) (
    some (-1)) := by kernel_rfl
/-- interchange/interchangeref1.isDigits -/
noncomputable def interchangeref1_isDigits (k : Nat) (a : ByteArray) : Option Bool := callA P A k 182 a
noncomputable def interchangeref1_isDigits_c4 (k : Nat) (s0 : ByteArray) (s7 : Int) (s8 : Int) : Option Bool := cutA P A k 182 (todoAt P A 182 4) [(0, (.byv .str)), (7, (.byv (.int .i64))), (8, (.byv (.int .i64)))] (s0, s7, s8)
theorem interchangeref1_isDigits_eq (k : Nat) (a : ByteArray) : interchangeref1_isDigits (k + 1) a =
  cond (eqS a (bs [])) (
    some false) (
    interchangeref1_isDigits_c4 k a (a.size : Int) 0) := by kernel_rfl
theorem interchangeref1_isDigits_c4_eq (k : Nat) (s0 : ByteArray) (s7 : Int) (s8 : Int) : interchangeref1_isDigits_c4 (k + 1) s0 s7 s8 =
  cond (decide (s8 < s7)) (
    cond (decide (0 ≤ s8)) (
    cond (decide (s8 < (s0.size : Int))) (
    cond ((!(!(decide ((bt s0 s8) < 48)))) || (decide (0 ≤ s8))) (
    cond ((!(!(decide ((bt s0 s8) < 48)))) || (decide (s8 < (s0.size : Int)))) (
    cond (cond (decide ((bt s0 s8) < 48)) true (decide ((bt s0 s8) > 57))) (
      some false) (
      interchangeref1_isDigits_c4 k s0 s7 (wi64 (s8 + 1)))) none) none) none) none) (
    some true) := by kernel_rfl
/-- interchange/interchangeref1.ofDigits -/
noncomputable def interchangeref1_ofDigits (k : Nat) (a : ByteArray) : Option (Int × Bool) := callA P A k 183 a
noncomputable def interchangeref1_ofDigits_c3 (k : Nat) (s0 : ByteArray) (s4 : Int) (s7 : Int) (s8 : Int) : Option (Int × Bool) := cutA P A k 183 (todoAt P A 183 3) [(0, (.byv .str)), (4, (.byv (.int .i64))), (7, (.byv (.int .i64))), (8, (.byv (.int .i64)))] (s0, s4, s7, s8)
theorem interchangeref1_ofDigits_eq (k : Nat) (a : ByteArray) : interchangeref1_ofDigits (k + 1) a =
  interchangeref1_ofDigits_c3 k a 0 (a.size : Int) 0 := by kernel_rfl
theorem interchangeref1_ofDigits_c3_eq (k : Nat) (s0 : ByteArray) (s4 : Int) (s7 : Int) (s8 : Int) : interchangeref1_ofDigits_c3 (k + 1) s0 s4 s7 s8 =
  cond (decide (s8 < s7)) (
    cond (decide (0 ≤ s8)) (
    cond (decide (s8 < (s0.size : Int))) (
    cond (decide ((wi64 ((wi64 (10 * s4)) + (wi64 (wu8 ((bt s0 s8) - 48))))) > 1000000000000000)) (
      some (0, false)) (
      interchangeref1_ofDigits_c3 k s0 (wi64 ((wi64 (10 * s4)) + (wi64 (wu8 ((bt s0 s8) - 48))))) s7 (wi64 (s8 + 1)))) none) none) (
    some (s4, true)) := by kernel_rfl
/-- interchange/interchangeref1.ReadText -/
noncomputable def interchangeref1_ReadText (k : Nat) (a : ByteArray) : Option ((Int × Int) × Int) := callA P A k 137 a
theorem interchangeref1_ReadText_eq (k : Nat) (a : ByteArray) : interchangeref1_ReadText (k + 1) a =
  cond (decide ((a.size : Int) > 40)) (
    some ((0, 0), 10)) (
    (strings_CutPrefix k a (bs [45])).bind fun y0 =>
    (strings_Cut k y0.1 (bs [46])).bind fun y1 =>
    (interchangeref1_isDigits k y1.1).bind fun y2 =>
    cond ((!((!(!y2)) && (decide ((y1.1.size : Int) > 1)))) || true) (
    cond ((!((!(!y2)) && (decide ((y1.1.size : Int) > 1)))) || (decide (0 < (y1.1.size : Int)))) (
    (cond ((!(cond (!y2) true (cond (decide ((y1.1.size : Int) > 1)) ((bt y1.1 0) == 48) false))) && y1.2.2) (interchangeref1_isDigits k y1.2.1) (some false)).bind fun y3 =>
    cond (cond (cond (cond (!y2) true (cond (decide ((y1.1.size : Int) > 1)) ((bt y1.1 0) == 48) false)) true (cond y1.2.2 (!y3) false)) true (decide ((y1.2.1.size : Int) > 9))) (
      some ((0, 0), 10)) (
      cond ((!y0.2) || (decide (y1.1.size + y1.2.1.size ≤ 9223372036854775807))) (
      (cond y0.2 (strings_Trim k (y1.1 ++ y1.2.1) (bs [48])) (some (bs []))).bind fun y4 =>
      cond (cond y0.2 (eqS y4 (bs [])) false) (
        some ((0, 0), 10)) (
        cond (decide (y1.1.size + y1.2.1.size ≤ 9223372036854775807)) (
        (interchangeref1_ofDigits k (y1.1 ++ y1.2.1)).bind fun y5 =>
        cond (!y5.2) (
          some ((0, 0), 1)) (
          cond y0.2 (
            some (((wi64 (0 - y5.1)), (y1.2.1.size : Int)), 0)) (
            some ((y5.1, (y1.2.1.size : Int)), 0)))) none)) none)) none) none) := by kernel_rfl
/-- interchange/interchangeref1.Normal -/
noncomputable def interchangeref1_Normal (k : Nat) (a : Int × Int) : Option (Int × Int) := callA P A k 138 a
noncomputable def interchangeref1_Normal_c1 (k : Nat) (s1 : Int × Int) (s2 : Int × Int) : Option (Int × Int) := cutA P A k 138 (todoAt P A 138 1) [(1, (.box 62 [(.byv (.int .i64)), (.byv (.int .i64))])), (2, (.box 62 [(.byv (.int .i64)), (.byv (.int .i64))]))] (s1, s2)
theorem interchangeref1_Normal_eq (k : Nat) (a : Int × Int) : interchangeref1_Normal (k + 1) a =
  interchangeref1_Normal_c1 k a (0, 0) := by kernel_rfl
theorem interchangeref1_Normal_c1_eq (k : Nat) (s1 : Int × Int) (s2 : Int × Int) : interchangeref1_Normal_c1 (k + 1) s1 s2 =
  cond ((!(decide (s1.2 > 0))) || true) (
  cond (cond (decide (s1.2 > 0)) ((s1.1.tmod 10) == 0) false) (
    interchangeref1_Normal_c1 k ((wi64 (s1.1.tdiv 10)), (wi64 (s1.2 - 1))) s2) (
    some s1)) none := by kernel_rfl
/-- interchange/interchangeref1.within -/
noncomputable def interchangeref1_within (k : Nat) (a : Int) (b : Int) (c : Int) : Option Bool := callA P A k 184 (a, b, c)
theorem interchangeref1_within_eq (k : Nat) (a : Int) (b : Int) (c : Int) : interchangeref1_within (k + 1) a b c =
  some (cond (decide (b ≤ a)) (decide (a ≤ c)) false) := by kernel_rfl
/-- interchange/interchangeref1.number -/
noncomputable def interchangeref1_number (k : Nat) (a : ByteArray) : Option Int := callA P A k 185 a
theorem interchangeref1_number_eq (k : Nat) (a : ByteArray) : interchangeref1_number (k + 1) a =
  (interchangeref1_isDigits k a).bind fun y0 =>
  cond (!y0) (
    some (-1)) (
    (interchangeref1_ofDigits k a).bind fun y1 =>
    some y1.1) := by kernel_rfl
/-- interchange/interchangeref1.isLong -/
noncomputable def interchangeref1_isLong (k : Nat) (a : Int) : Option Bool := callA P A k 248 a
theorem interchangeref1_isLong_eq (k : Nat) (a : Int) : interchangeref1_isLong (k + 1) a =
  cond ((!((a.tmod 4) == 0)) || true) (
  cond ((!(!(cond ((a.tmod 4) == 0) ((a.tmod 100) != 0) false))) || true) (
  some (cond (cond ((a.tmod 4) == 0) ((a.tmod 100) != 0) false) true ((a.tmod 400) == 0))) none) none := by kernel_rfl
/-- interchange/interchangeref1.daysOf -/
noncomputable def interchangeref1_daysOf (k : Nat) (a : Int) (b : Int) : Option Int := callA P A k 227 (a, b)
theorem interchangeref1_daysOf_eq (k : Nat) (a : Int) (b : Int) : interchangeref1_daysOf (k + 1) a b =
  cond (b == 2) (
    (interchangeref1_isLong k a).bind fun y0 =>
    cond y0 (
      some 29) (
      some 28)) (
    cond (b == 4) (
      cond (b == 4) (
        some 30) (
        some 31)) (
      cond (b == 6) (
        cond (b == 6) (
          some 30) (
          some 31)) (
        cond (b == 9) (
          cond (b == 9) (
            some 30) (
            some 31)) (
          cond (b == 11) (
            some 30) (
            some 31))))) := by kernel_rfl
/-- interchange/interchangeref1.before -/
noncomputable def interchangeref1_before (k : Nat) (a : Int) : Option Int := callA P A k 225 a
theorem interchangeref1_before_eq (k : Nat) (a : Int) : interchangeref1_before (k + 1) a =
  some (wi64 ((wi64 ((wi64 ((wi64 (365 * (wi64 (a - 1)))) + (wi64 ((wi64 (a - 1)).tdiv 4)))) - (wi64 ((wi64 (a - 1)).tdiv 100)))) + (wi64 ((wi64 (a - 1)).tdiv 400)))) := by kernel_rfl
/-- interchange/interchangeref1.dayOf -/
noncomputable def interchangeref1_dayOf (k : Nat) (a : Int) (b : Int) (c : Int) : Option Int := callA P A k 228 (a, b, c)
noncomputable def interchangeref1_dayOf_c3 (k : Nat) (s0 : Int) (s1 : Int) (s7 : Int) (s8 : Int) : Option Int := cutA P A k 228 (todoAt P A 228 3) [(0, (.byv (.int .i64))), (1, (.byv (.int .i64))), (7, (.byv (.int .i64))), (8, (.byv (.int .i64)))] (s0, s1, s7, s8)
theorem interchangeref1_dayOf_eq (k : Nat) (a : Int) (b : Int) (c : Int) : interchangeref1_dayOf (k + 1) a b c =
  (interchangeref1_before k a).bind fun y0 =>
  interchangeref1_dayOf_c3 k a b (wi64 (y0 + c)) 1 := by kernel_rfl
theorem interchangeref1_dayOf_c3_eq (k : Nat) (s0 : Int) (s1 : Int) (s7 : Int) (s8 : Int) : interchangeref1_dayOf_c3 (k + 1) s0 s1 s7 s8 =
  cond (decide (s8 < s1)) (
    (interchangeref1_daysOf k s0 s8).bind fun y1 =>
    interchangeref1_dayOf_c3 k s0 s1 (wi64 (s7 + y1)) (wi64 (s8 + 1))) (
    some s7) := by kernel_rfl
/-- interchange/interchangeref1.DayOf -/
noncomputable def interchangeref1_DayOf (k : Nat) (a : Int) (b : Int) (c : Int) : Option (Int × Int) := callA P A k 187 (a, b, c)
theorem interchangeref1_DayOf_eq (k : Nat) (a : Int) (b : Int) (c : Int) : interchangeref1_DayOf (k + 1) a b c =
  (interchangeref1_within k a 1 9999).bind fun y0 =>
  (cond (!(!y0)) (interchangeref1_within k b 1 12) (some false)).bind fun y1 =>
  (cond (!(cond (!y0) true (!y1))) (interchangeref1_daysOf k a b) (some 0)).bind fun y2 =>
  (cond (!(cond (!y0) true (!y1))) (interchangeref1_within k c 1 y2) (some false)).bind fun y3 =>
  cond (cond (cond (!y0) true (!y1)) true (!y3)) (
    some (0, 1)) (
    (interchangeref1_dayOf k a b c).bind fun y4 =>
    some (y4, 0)) := by kernel_rfl
/-- interchange/interchangeref1.dateOf -/
noncomputable def interchangeref1_dateOf (k : Nat) (a : Int) : Option (Int × Int × Int) := callA P A k 229 a
noncomputable def interchangeref1_dateOf_c2 (k : Nat) (s0 : Int) (s2 : Int) : Option (Int × Int × Int) := cutA P A k 229 (todoAt P A 229 2) [(0, (.byv (.int .i64))), (2, (.byv (.int .i64)))] (s0, s2)
noncomputable def interchangeref1_dateOf_c6 (k : Nat) (s2 : Int) (s3 : Int) (s4 : Int) : Option (Int × Int × Int) := cutA P A k 229 (todoAt P A 229 6) [(2, (.byv (.int .i64))), (3, (.byv (.int .i64))), (4, (.byv (.int .i64)))] (s2, s3, s4)
theorem interchangeref1_dateOf_eq (k : Nat) (a : Int) : interchangeref1_dateOf (k + 1) a =
  interchangeref1_dateOf_c2 k a (wi64 ((wi64 (a.tdiv 366)) + 1)) := by kernel_rfl
theorem interchangeref1_dateOf_c2_eq (k : Nat) (s0 : Int) (s2 : Int) : interchangeref1_dateOf_c2 (k + 1) s0 s2 =
  (interchangeref1_before k (wi64 (s2 + 1))).bind fun y0 =>
  cond (decide (y0 < s0)) (
    interchangeref1_dateOf_c2 k s0 (wi64 (s2 + 1))) (
    (interchangeref1_before k s2).bind fun y1 =>
    interchangeref1_dateOf_c6 k s2 1 (wi64 (s0 - y1))) := by kernel_rfl
theorem interchangeref1_dateOf_c6_eq (k : Nat) (s2 : Int) (s3 : Int) (s4 : Int) : interchangeref1_dateOf_c6 (k + 1) s2 s3 s4 =
  (interchangeref1_daysOf k s2 s3).bind fun y2 =>
  cond (decide (s4 > y2)) (
    (interchangeref1_daysOf k s2 s3).bind fun y3 =>
    interchangeref1_dateOf_c6 k s2 (wi64 (s3 + 1)) (wi64 (s4 - y3))) (
    some (s2, (s3, s4))) := by kernel_rfl
/-- interchange/interchangeref1.weekOf -/
noncomputable def interchangeref1_weekOf (k : Nat) (a : Int) : Option (Int × Int × Int) := callA P A k 226 a
theorem interchangeref1_weekOf_eq (k : Nat) (a : Int) : interchangeref1_weekOf (k + 1) a =
  (interchangeref1_dateOf k (wi64 ((wi64 (a - (wi64 (((wi64 (a - 1)).tmod 7) + 1)))) + 4))).bind fun y0 =>
  (interchangeref1_before k y0.1).bind fun y1 =>
  some (y0.1, ((wi64 ((wi64 ((wi64 ((wi64 ((wi64 ((wi64 (a - (wi64 (((wi64 (a - 1)).tmod 7) + 1)))) + 4)) - y1)) - 1)).tdiv 7)) + 1)), (wi64 (((wi64 (a - 1)).tmod 7) + 1)))) := by kernel_rfl
/-- interchange/interchangeref1.readWeek -/
noncomputable def interchangeref1_readWeek (k : Nat) (a : ByteArray) : Option (Int × Int) := callA P A k 186 a
noncomputable def interchangeref1_readWeek_c8 (k : Nat) (s4 : Int) (s5 : Int) (s6 : Int) (s7 : Int) (s8 : Int) : Option (Int × Int) := cutA P A k 186 (todoAt P A 186 8) [(4, (.byv (.int .i64))), (5, (.byv (.int .i64))), (6, (.byv (.int .i64))), (7, (.byv (.int .i64))), (8, (.byv (.int .i64)))] (s4, s5, s6, s7, s8)
theorem interchangeref1_readWeek_eq (k : Nat) (a : ByteArray) : interchangeref1_readWeek (k + 1) a =
  cond (decide (4 ≤ (a.size : Int))) (
  (interchangeref1_number k (a.extract 0 4)).bind fun y0 =>
  cond (decide (6 ≤ (a.size : Int))) (
  (interchangeref1_number k (a.extract 4 6)).bind fun y1 =>
  cond (decide (6 ≤ (a.size : Int))) (
  (interchangeref1_number k (a.extract 6 a.size)).bind fun y2 =>
  cond (cond (cond (cond (cond (decide (y0 < 0)) true (decide (y0 > 9999))) true (decide (y1 < 1))) true (decide (y2 < 1))) true (decide (y2 > 7))) (
    some (0, 10)) (
    (interchangeref1_before k y0).bind fun y3 =>
    cond (y0 == 0) (
      some (0, 10)) (
      interchangeref1_readWeek_c8 k y0 y1 y2 (wi64 (y3 + 1)) (maxI 1 (wi64 ((wi64 (y3 + 1)) - 7)))))) none) none) none := by kernel_rfl
theorem interchangeref1_readWeek_c8_eq (k : Nat) (s4 : Int) (s5 : Int) (s6 : Int) (s7 : Int) (s8 : Int) : interchangeref1_readWeek_c8 (k + 1) s4 s5 s6 s7 s8 =
  cond (decide (s8 ≤ (minI 3652059 (wi64 (s7 + 380))))) (
    (interchangeref1_weekOf k s8).bind fun y4 =>
    cond (cond (cond (cond (cond (decide ((wi64 ((wi64 (s8 - y4.2.2)) + 4)) ≥ 1)) (decide ((wi64 ((wi64 (s8 - y4.2.2)) + 4)) ≤ 3652059)) false) (y4.1 == s4) false) (y4.2.1 == s5) false) (y4.2.2 == s6) false) (
      some (s8, 0)) (
      interchangeref1_readWeek_c8 k s4 s5 s6 s7 (wi64 (s8 + 1)))) (
    some (0, 10)) := by kernel_rfl
/-- interchange/interchangeref1.ReadDay -/
noncomputable def interchangeref1_ReadDay (k : Nat) (a : ByteArray) (b : Int) (c : Int) : Option (Int × Int) := callA P A k 139 (a, b, c)
theorem interchangeref1_ReadDay_eq (k : Nat) (a : ByteArray) (b : Int) (c : Int) : interchangeref1_ReadDay (k + 1) a b c =
  (interchangeref1_within k b 1 5).bind fun y0 =>
  cond (!y0) (
    some (0, 4)) (
    (interchangeref1_within k c 1 9900).bind fun y1 =>
    cond (!y1) (
      some (0, 1)) (
      cond (cond (b == 1) ((a.size : Int) == 8) false) (
        cond (decide (4 ≤ (a.size : Int))) (
        (interchangeref1_number k (a.extract 0 4)).bind fun y2 =>
        cond (decide (6 ≤ (a.size : Int))) (
        (interchangeref1_number k (a.extract 4 6)).bind fun y3 =>
        cond (decide (6 ≤ (a.size : Int))) (
        (interchangeref1_number k (a.extract 6 a.size)).bind fun y4 =>
        (interchangeref1_DayOf k y2 y3 y4).bind fun y5 =>
        cond (y5.2 != 0) (
          some (0, 10)) (
          some (y5.1, 0))) none) none) none) (
        cond (cond (b == 2) ((a.size : Int) == 6) false) (
          cond (decide (2 ≤ (a.size : Int))) (
          (interchangeref1_number k (a.extract 0 2)).bind fun y6 =>
          cond (decide (4 ≤ (a.size : Int))) (
          (interchangeref1_number k (a.extract 2 4)).bind fun y7 =>
          cond (decide (4 ≤ (a.size : Int))) (
          (interchangeref1_number k (a.extract 4 a.size)).bind fun y8 =>
          cond (decide (y6 ≥ 0)) (
            (interchangeref1_DayOf k (wi64 (c + ((wi64 ((wi64 (y6 - (c.tmod 100))) + 100)).tmod 100))) y7 y8).bind fun y9 =>
            cond (y9.2 != 0) (
              some (0, 10)) (
              some (y9.1, 0))) (
            (interchangeref1_DayOf k y6 y7 y8).bind fun y10 =>
            cond (y10.2 != 0) (
              some (0, 10)) (
              some (y10.1, 0)))) none) none) none) (
          cond (cond (b == 3) ((a.size : Int) == 8) false) (
            cond (decide (4 ≤ (a.size : Int))) (
            (interchangeref1_number k (a.extract 4 a.size)).bind fun y11 =>
            cond (decide (4 ≤ (a.size : Int))) (
            (interchangeref1_number k (a.extract 2 4)).bind fun y12 =>
            cond (decide (2 ≤ (a.size : Int))) (
            (interchangeref1_number k (a.extract 0 2)).bind fun y13 =>
            (interchangeref1_DayOf k y11 y12 y13).bind fun y14 =>
            cond (y14.2 != 0) (
              some (0, 10)) (
              some (y14.1, 0))) none) none) none) (
            cond ((!(cond (b == 4) ((a.size : Int) == 10) false)) || true) (
            cond ((!(cond (b == 4) ((a.size : Int) == 10) false)) || (decide (4 < (a.size : Int)))) (
            cond ((!(cond (cond (b == 4) ((a.size : Int) == 10) false) ((bt a 4) == 45) false)) || true) (
            cond ((!(cond (cond (b == 4) ((a.size : Int) == 10) false) ((bt a 4) == 45) false)) || (decide (7 < (a.size : Int)))) (
            cond (cond (cond (cond (b == 4) ((a.size : Int) == 10) false) ((bt a 4) == 45) false) ((bt a 7) == 45) false) (
              cond (decide (4 ≤ (a.size : Int))) (
              (interchangeref1_number k (a.extract 0 4)).bind fun y15 =>
              cond (decide (7 ≤ (a.size : Int))) (
              (interchangeref1_number k (a.extract 5 7)).bind fun y16 =>
              cond (decide (8 ≤ (a.size : Int))) (
              (interchangeref1_number k (a.extract 8 a.size)).bind fun y17 =>
              (interchangeref1_DayOf k y15 y16 y17).bind fun y18 =>
              cond (y18.2 != 0) (
                some (0, 10)) (
                some (y18.1, 0))) none) none) none) (
              cond (cond (b == 5) ((a.size : Int) == 7) false) (
                (interchangeref1_readWeek k a).bind fun y19 =>
                some y19) (
                (interchangeref1_DayOf k (-1) (-1) (-1)).bind fun y20 =>
                cond (y20.2 != 0) (
                  some (0, 10)) (
                  some (y20.1, 0))))) none) none) none) none))))) := by kernel_rfl
/-- interchange/interchangeref6.isPlain -/
noncomputable def interchangeref6_isPlain (k : Nat) (a : ByteArray) : Option Bool := callA P A k 140 a
noncomputable def interchangeref6_isPlain_c2 (k : Nat) (s0 : ByteArray) (s5 : Int) (s6 : Int) : Option Bool := cutA P A k 140 (todoAt P A 140 2) [(0, (.byv .str)), (5, (.byv (.int .i64))), (6, (.byv (.int .i64)))] (s0, s5, s6)
theorem interchangeref6_isPlain_eq (k : Nat) (a : ByteArray) : interchangeref6_isPlain (k + 1) a =
  interchangeref6_isPlain_c2 k a (a.size : Int) 0 := by kernel_rfl
theorem interchangeref6_isPlain_c2_eq (k : Nat) (s0 : ByteArray) (s5 : Int) (s6 : Int) : interchangeref6_isPlain_c2 (k + 1) s0 s5 s6 =
  cond (decide (s6 < s5)) (
    cond (decide (0 ≤ s6)) (
    cond (decide (s6 < (s0.size : Int))) (
    cond ((!(!(decide ((bt s0 s6) < 32)))) || (decide (0 ≤ s6))) (
    cond ((!(!(decide ((bt s0 s6) < 32)))) || (decide (s6 < (s0.size : Int)))) (
    cond (cond (decide ((bt s0 s6) < 32)) true (decide ((bt s0 s6) > 126))) (
      some false) (
      interchangeref6_isPlain_c2 k s0 s5 (wi64 (s6 + 1)))) none) none) none) none) (
    cond (decide (0 < (s0.size : Int))) (
    cond ((!((bt s0 0) != 32)) || (decide (0 ≤ (wi64 ((s0.size : Int) - 1))))) (
    cond ((!((bt s0 0) != 32)) || (decide ((wi64 ((s0.size : Int) - 1)) < (s0.size : Int)))) (
    some (cond ((bt s0 0) != 32) ((bt s0 (wi64 ((s0.size : Int) - 1))) != 32) false)) none) none) none) := by kernel_rfl
/-- interchange/interchangeref6.isOf -/
noncomputable def interchangeref6_isOf (k : Nat) (a : QC) (b : ByteArray) : Option Bool := callA P A k 77 (a, b)
theorem interchangeref6_isOf_eq (k : Nat) (a : QC) (b : ByteArray) : interchangeref6_isOf (k + 1) a b =
  cond (a.2.1 == 2) (
    (interchangeref1_ReadText k b).bind fun y0 =>
    (cond (y0.2 == 0) (interchangeref1_Normal k y0.1) (some (0, 0))).bind fun y1 =>
    some (cond (cond (y0.2 == 0) ((y1.1 == y0.1.1) && ((y1.2 == y0.1.2) && true)) false) (decide (y0.1.2 ≤ a.2.2.2.1)) false)) (
    cond (a.2.1 == 3) (
      (interchangeref1_ReadDay k b 1 1).bind fun y2 =>
      some (y2.2 == 0)) (
      (interchangeref6_isPlain k b).bind fun y3 =>
      some y3)) := by kernel_rfl
/-- interchange/interchangeref1.isDay -/
noncomputable def interchangeref1_isDay (k : Nat) (a : Int) : Option Bool := callA P A k 188 a
theorem interchangeref1_isDay_eq (k : Nat) (a : Int) : interchangeref1_isDay (k + 1) a =
  (interchangeref1_within k a 1 3652059).bind fun y0 =>
  some y0 := by kernel_rfl
/-- interchange/interchangeref1.padded -/
noncomputable def interchangeref1_padded (k : Nat) (a : Int) (b : Int) : Option ByteArray := callA P A k 230 (a, b)
theorem interchangeref1_padded_eq (k : Nat) (a : Int) (b : Int) : interchangeref1_padded (k + 1) a b =
  (strconv_Itoa k a).bind fun y0 =>
  (strings_Repeat k (bs [48]) (maxI 0 (wi64 (b - (y0.size : Int))))).bind fun y1 =>
  cond (decide (y1.size + y0.size ≤ 9223372036854775807)) (
  some (y1 ++ y0)) none := by kernel_rfl
/-- interchange/interchangeref1.dayText -/
noncomputable def interchangeref1_dayText (k : Nat) (a : Int) (b : Int) : Option ByteArray := callA P A k 189 (a, b)
theorem interchangeref1_dayText_eq (k : Nat) (a : Int) (b : Int) : interchangeref1_dayText (k + 1) a b =
  (interchangeref1_dateOf k a).bind fun y0 =>
  cond (b == 1) (
    (interchangeref1_padded k y0.1 4).bind fun y1 =>
    (interchangeref1_padded k y0.2.1 2).bind fun y2 =>
    cond (decide (y1.size + y2.size ≤ 9223372036854775807)) (
    (interchangeref1_padded k y0.2.2 2).bind fun y3 =>
    cond (decide ((y1 ++ y2).size + y3.size ≤ 9223372036854775807)) (
    some ((y1 ++ y2) ++ y3)) none) none) (
    cond (b == 2) (
      (interchangeref1_padded k (y0.1.tmod 100) 2).bind fun y4 =>
      (interchangeref1_padded k y0.2.1 2).bind fun y5 =>
      cond (decide (y4.size + y5.size ≤ 9223372036854775807)) (
      (interchangeref1_padded k y0.2.2 2).bind fun y6 =>
      cond (decide ((y4 ++ y5).size + y6.size ≤ 9223372036854775807)) (
      some ((y4 ++ y5) ++ y6)) none) none) (
      cond (b == 3) (
        (interchangeref1_padded k y0.2.2 2).bind fun y7 =>
        (interchangeref1_padded k y0.2.1 2).bind fun y8 =>
        cond (decide (y7.size + y8.size ≤ 9223372036854775807)) (
        (interchangeref1_padded k y0.1 4).bind fun y9 =>
        cond (decide ((y7 ++ y8).size + y9.size ≤ 9223372036854775807)) (
        some ((y7 ++ y8) ++ y9)) none) none) (
        cond (b == 4) (
          (interchangeref1_padded k y0.1 4).bind fun y10 =>
          cond (decide (y10.size + 1 ≤ 9223372036854775807)) (
          (interchangeref1_padded k y0.2.1 2).bind fun y11 =>
          cond (decide ((y10 ++ (bs [45])).size + y11.size ≤ 9223372036854775807)) (
          cond (decide (((y10 ++ (bs [45])) ++ y11).size + 1 ≤ 9223372036854775807)) (
          (interchangeref1_padded k y0.2.2 2).bind fun y12 =>
          cond (decide ((((y10 ++ (bs [45])) ++ y11) ++ (bs [45])).size + y12.size ≤ 9223372036854775807)) (
          some ((((y10 ++ (bs [45])) ++ y11) ++ (bs [45])) ++ y12)) none) none) none) none) (
          (interchangeref1_weekOf k a).bind fun y13 =>
          (interchangeref1_padded k y13.1 4).bind fun y14 =>
          (interchangeref1_padded k y13.2.1 2).bind fun y15 =>
          cond (decide (y14.size + y15.size ≤ 9223372036854775807)) (
          (interchangeref1_padded k y13.2.2 1).bind fun y16 =>
          cond (decide ((y14 ++ y15).size + y16.size ≤ 9223372036854775807)) (
          some ((y14 ++ y15) ++ y16)) none) none)))) := by kernel_rfl
/-- interchange/interchangeref1.DayText -/
noncomputable def interchangeref1_DayText (k : Nat) (a : Int) (b : Int) : Option (ByteArray × Int) := callA P A k 141 (a, b)
theorem interchangeref1_DayText_eq (k : Nat) (a : Int) (b : Int) : interchangeref1_DayText (k + 1) a b =
  (interchangeref1_within k b 1 5).bind fun y0 =>
  cond (!y0) (
    some ((bs []), 4)) (
    (interchangeref1_isDay k a).bind fun y1 =>
    cond (!y1) (
      some ((bs []), 1)) (
      (interchangeref1_dayText k a b).bind fun y2 =>
      some (y2, 0))) := by kernel_rfl
/-- internal/stringslite.TrimPrefix -/
noncomputable def stringslite_TrimPrefix (k : Nat) (a : ByteArray) (b : ByteArray) : Option ByteArray := callA P A k 190 (a, b)
theorem stringslite_TrimPrefix_eq (k : Nat) (a : ByteArray) (b : ByteArray) : stringslite_TrimPrefix (k + 1) a b =
  (stringslite_HasPrefix k a b).bind fun y0 =>
  cond y0 (
    cond (decide (0 ≤ (b.size : Int))) (
    cond (decide ((b.size : Int) ≤ (a.size : Int))) (
    some (a.extract (b.size : Int).toNat a.size)) none) none) (
    some a) := by kernel_rfl
/-- strings.TrimPrefix -/
noncomputable def strings_TrimPrefix (k : Nat) (a : ByteArray) (b : ByteArray) : Option ByteArray := callA P A k 142 (a, b)
theorem strings_TrimPrefix_eq (k : Nat) (a : ByteArray) (b : ByteArray) : strings_TrimPrefix (k + 1) a b =
  (stringslite_TrimPrefix k a b).bind fun y0 =>
  some y0 := by kernel_rfl
/-- interchange/interchangeref6.written -/
noncomputable def interchangeref6_written (k : Nat) (a : QF) (b : QC) (c : ByteArray) : Option ByteArray := callA P A k 78 (a, b, c)
theorem interchangeref6_written_eq (k : Nat) (a : QF) (b : QC) (c : ByteArray) : interchangeref6_written (k + 1) a b c =
  cond (cond (cond (eqS c (bs [])) true (b.2.1 == 1)) true (cond (b.2.1 == 2) (a.1 != 0) false)) (
    some c) (
    cond (b.2.1 == 3) (
      (interchangeref1_ReadDay k c 1 1).bind fun y0 =>
      (interchangeref1_DayText k y0.1 b.2.2.2.2.1).bind fun y1 =>
      some y1.1) (
      (interchangeref1_ReadText k c).bind fun y2 =>
      (strconv_Itoa k y2.1.1).bind fun y3 =>
      (strings_TrimPrefix k y3 (bs [45])).bind fun y4 =>
      cond (y2.1.1 != 0) (
        (strings_Repeat k (bs [48]) (wi64 (b.2.2.2.1 - y2.1.2))).bind fun y5 =>
        cond (decide (y4.size + y5.size ≤ 9223372036854775807)) (
        cond (decide (y2.1.1 < 0)) (
          cond (decide (1 + (y4 ++ y5).size ≤ 9223372036854775807)) (
          some ((bs [45]) ++ (y4 ++ y5))) none) (
          some (y4 ++ y5))) none) (
        cond (decide (y2.1.1 < 0)) (
          cond (decide (1 + y4.size ≤ 9223372036854775807)) (
          some ((bs [45]) ++ y4)) none) (
          some y4)))) := by kernel_rfl
/-- interchange/interchangeref6.checkRow -/
noncomputable def interchangeref6_checkRow (k : Nat) (a : QF) (b : QR) : Option (Int × Int) := callA P A k 40 (a, b)
noncomputable def interchangeref6_checkRow_c7 (k : Nat) (s2 : QF) (s6 : Int) (s28 : List ByteArray) (s29 : Int) (s30 : Int) : Option (Int × Int) := cutA P A k 40 (todoAt P A 40 7) [(2, (.box 24 [(.byv (.int .u8)), (.byv (.int .u8)), (.byv (.sl eK)), (.byv .str), (.byv .str), (.byv .str), (.byv .str)])), (6, (.byv (.int .i64))), (28, (.byv (.sl .str))), (29, (.byv (.int .i64))), (30, (.byv (.int .i64)))] (s2, s6, s28, s29, s30)
theorem interchangeref6_checkRow_eq (k : Nat) (a : QF) (b : QR) : interchangeref6_checkRow (k + 1) a b =
  (interchangeref6_kindOf k a b.1).bind fun y0 =>
  cond (decide (y0 < 0)) (
    some (0, 9)) (
    cond (decide (0 ≤ y0)) (
    cond (decide (y0 < (a.2.2.1.length : Int))) (
    cond ((b.2.length : Int) != ((((a.2.2.1.getD y0.toNat ((bs []), ([], (0, (bs []))))).2).1).length : Int)) (
      some (0, 3)) (
      interchangeref6_checkRow_c7 k a y0 b.2 (b.2.length : Int) 0)) none) none) := by kernel_rfl
theorem interchangeref6_checkRow_c7_eq (k : Nat) (s2 : QF) (s6 : Int) (s28 : List ByteArray) (s29 : Int) (s30 : Int) : interchangeref6_checkRow_c7 (k + 1) s2 s6 s28 s29 s30 =
  cond (decide (s30 < s29)) (
    cond (decide (0 ≤ s30)) (
    cond (decide (s30 < (s28.length : Int))) (
    cond (decide (0 ≤ s6)) (
    cond (decide (s6 < (s2.2.2.1.length : Int))) (
    cond (decide (0 ≤ s30)) (
    cond (decide (s30 < ((((s2.2.2.1.getD s6.toNat ((bs []), ([], (0, (bs []))))).2).1).length : Int))) (
    cond (cond (eqS (s28.getD s30.toNat (bs [])) (bs [])) (((((((((((s2.2.2.1.getD s6.toNat ((bs []), ([], (0, (bs []))))).2).1).getD s30.toNat ((bs []), (0, (0, (0, (0, (false, (0, false)))))))).2).2).2).2).2).2).2) false) (
      some (s30, 13)) (
      cond (eqS (s28.getD s30.toNat (bs [])) (bs [])) (
        interchangeref6_checkRow_c7 k s2 s6 s28 s29 (wi64 (s30 + 1))) (
        (interchangeref6_isOf k ((((((s2.2.2.1.getD s6.toNat ((bs []), ([], (0, (bs []))))).2).1).getD s30.toNat ((bs []), (0, (0, (0, (0, (false, (0, false)))))))).1), (((((((s2.2.2.1.getD s6.toNat ((bs []), ([], (0, (bs []))))).2).1).getD s30.toNat ((bs []), (0, (0, (0, (0, (false, (0, false)))))))).2).1), ((((((((s2.2.2.1.getD s6.toNat ((bs []), ([], (0, (bs []))))).2).1).getD s30.toNat ((bs []), (0, (0, (0, (0, (false, (0, false)))))))).2).2).1), (((((((((s2.2.2.1.getD s6.toNat ((bs []), ([], (0, (bs []))))).2).1).getD s30.toNat ((bs []), (0, (0, (0, (0, (false, (0, false)))))))).2).2).2).1), ((((((((((s2.2.2.1.getD s6.toNat ((bs []), ([], (0, (bs []))))).2).1).getD s30.toNat ((bs []), (0, (0, (0, (0, (false, (0, false)))))))).2).2).2).2).1), (((((((((((s2.2.2.1.getD s6.toNat ((bs []), ([], (0, (bs []))))).2).1).getD s30.toNat ((bs []), (0, (0, (0, (0, (false, (0, false)))))))).2).2).2).2).2).1), ((((((((((((s2.2.2.1.getD s6.toNat ((bs []), ([], (0, (bs []))))).2).1).getD s30.toNat ((bs []), (0, (0, (0, (0, (false, (0, false)))))))).2).2).2).2).2).2).1), (((((((((((s2.2.2.1.getD s6.toNat ((bs []), ([], (0, (bs []))))).2).1).getD s30.toNat ((bs []), (0, (0, (0, (0, (false, (0, false)))))))).2).2).2).2).2).2).2)))))))) (s28.getD s30.toNat (bs []))).bind fun y1 =>
        cond (!y1) (
          some (s30, 6)) (
          (interchangeref6_written k s2 ((((((s2.2.2.1.getD s6.toNat ((bs []), ([], (0, (bs []))))).2).1).getD s30.toNat ((bs []), (0, (0, (0, (0, (false, (0, false)))))))).1), (((((((s2.2.2.1.getD s6.toNat ((bs []), ([], (0, (bs []))))).2).1).getD s30.toNat ((bs []), (0, (0, (0, (0, (false, (0, false)))))))).2).1), ((((((((s2.2.2.1.getD s6.toNat ((bs []), ([], (0, (bs []))))).2).1).getD s30.toNat ((bs []), (0, (0, (0, (0, (false, (0, false)))))))).2).2).1), (((((((((s2.2.2.1.getD s6.toNat ((bs []), ([], (0, (bs []))))).2).1).getD s30.toNat ((bs []), (0, (0, (0, (0, (false, (0, false)))))))).2).2).2).1), ((((((((((s2.2.2.1.getD s6.toNat ((bs []), ([], (0, (bs []))))).2).1).getD s30.toNat ((bs []), (0, (0, (0, (0, (false, (0, false)))))))).2).2).2).2).1), (((((((((((s2.2.2.1.getD s6.toNat ((bs []), ([], (0, (bs []))))).2).1).getD s30.toNat ((bs []), (0, (0, (0, (0, (false, (0, false)))))))).2).2).2).2).2).1), ((((((((((((s2.2.2.1.getD s6.toNat ((bs []), ([], (0, (bs []))))).2).1).getD s30.toNat ((bs []), (0, (0, (0, (0, (false, (0, false)))))))).2).2).2).2).2).2).1), (((((((((((s2.2.2.1.getD s6.toNat ((bs []), ([], (0, (bs []))))).2).1).getD s30.toNat ((bs []), (0, (0, (0, (0, (false, (0, false)))))))).2).2).2).2).2).2).2)))))))) (s28.getD s30.toNat (bs []))).bind fun y2 =>
          cond (decide ((y2.size : Int) > (((((((s2.2.2.1.getD s6.toNat ((bs []), ([], (0, (bs []))))).2).1).getD s30.toNat ((bs []), (0, (0, (0, (0, (false, (0, false)))))))).2).2).1))) (
            some (s30, 16)) (
            (cond (cond (s2.1 != 0) (s2.2.1 == 0) false) (strings_IndexByte k (s28.getD s30.toNat (bs [])) s2.1) (some 0)).bind fun y3 =>
            cond (cond (cond (s2.1 != 0) (s2.2.1 == 0) false) (decide (y3 ≥ 0)) false) (
              some (s30, 12)) (
              interchangeref6_checkRow_c7 k s2 s6 s28 s29 (wi64 (s30 + 1)))))))) none) none) none) none) none) none) (
    some (0, 0)) := by kernel_rfl
end Go.Proofs.YtebdajjgicfcaaaGreatDoor.Eq
