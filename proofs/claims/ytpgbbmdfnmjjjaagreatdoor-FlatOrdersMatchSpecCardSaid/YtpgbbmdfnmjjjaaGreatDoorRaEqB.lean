/- What the functions of this law come to, by steps. -/
import Derived.Test.YtpgbbmdfnmjjjaaGreatDoorRaEq
import Derived.Test.YtpgbbmdfnmjjjaaGreatDoorK1
import Derived.Test.YtpgbbmdfnmjjjaaGreatDoorProg
import Derived.KernelRfl
import Derived.Lib.Bytealg
import Derived.Lib.SlTrimSet
import Derived.Lib.ItoaNum
import Derived.Lib.Repeat
import Derived.Lib.Replace
import Derived.Lib.Split
import Derived.Lib.Atoi
namespace Go.Proofs.YtpgbbmdfnmjjjaaGreatDoor.Eq
open Go Go.Ra
set_option linter.unusedVariables false
theorem interchangeref6_isMark_eq (k : Nat) (a : Int) : interchangeref6_isMark (k + 1) a =
 some (cond (cond (cond (cond (cond (cond (decide (a ≥ 32)) (decide (a ≤ 126)) false) (cond (decide (a < 48)) true (decide (a > 57))) false) (cond (decide (a < 65)) true (decide (a > 90))) false) (cond (decide (a < 97)) true (decide (a > 122))) false) (a != 45) false) (a != 46) false) := by kernel_rfl
theorem interchangeref6_within_eq (k : Nat) (a : Int) (b : Int) (c : Int) : interchangeref6_within (k + 1) a b c =
 some (cond (decide (b ≤ a)) (decide (a ≤ c)) false) := by kernel_rfl
theorem interchangeref6_isTag_eq (k : Nat) (a : ByteArray) : interchangeref6_isTag (k + 1) a =
 interchangeref6_isTag_c2 k a (a.size : Int) 0 := by kernel_rfl
theorem interchangeref6_isTag_c2_eq (k : Nat) (s0 : ByteArray) (s5 : Int) (s6 : Int) : interchangeref6_isTag_c2 (k + 1) s0 s5 s6 =
 cond (decide (s6 < s5)) (
 cond (decide (0 ≤ s6)) (
 cond (decide (s6 < (s0.size : Int))) (
 cond ((!(!(decide ((bt s0 s6) < 65)))) || (decide (0 ≤ s6))) (
 cond ((!(!(decide ((bt s0 s6) < 65)))) || (decide (s6 < (s0.size : Int)))) (
 cond ((!(cond (decide ((bt s0 s6) < 65)) true (decide ((bt s0 s6) > 90)))) || (decide (0 ≤ s6))) (
 cond ((!(cond (decide ((bt s0 s6) < 65)) true (decide ((bt s0 s6) > 90)))) || (decide (s6 < (s0.size : Int)))) (
 cond ((!((cond (decide ((bt s0 s6) < 65)) true (decide ((bt s0 s6) > 90))) && (!(decide ((bt s0 s6) < 48))))) || (decide (0 ≤ s6))) (
 cond ((!((cond (decide ((bt s0 s6) < 65)) true (decide ((bt s0 s6) > 90))) && (!(decide ((bt s0 s6) < 48))))) || (decide (s6 < (s0.size : Int)))) (
 cond (cond (cond (decide ((bt s0 s6) < 65)) true (decide ((bt s0 s6) > 90))) (cond (decide ((bt s0 s6) < 48)) true (decide ((bt s0 s6) > 57))) false) (
 some false) (
 interchangeref6_isTag_c2 k s0 s5 (wi64 (s6 + 1)))) none) none) none) none) none) none) none) none) (
 (interchangeref6_within k (s0.size : Int) 1 6).bind fun y0 =>
 some y0) := by kernel_rfl
theorem interchangeref6_kindOf_eq (k : Nat) (a : QF) (b : ByteArray) : interchangeref6_kindOf (k + 1) a b =
 interchangeref6_kindOf_c2 k b a.2.2.1 (a.2.2.1.length : Int) 0 := by kernel_rfl
theorem interchangeref6_kindOf_c2_eq (k : Nat) (s1 : ByteArray) (s8 : List QK) (s9 : Int) (s10 : Int) : interchangeref6_kindOf_c2 (k + 1) s1 s8 s9 s10 =
 cond (decide (s10 < s9)) (
 cond (decide (0 ≤ s10)) (
 cond (decide (s10 < (s8.length : Int))) (
 cond (eqS ((s8.getD s10.toNat ((bs []), ([], (0, (bs []))))).1) s1) (
 some s10) (
 interchangeref6_kindOf_c2 k s1 s8 s9 (wi64 (s10 + 1)))) none) none) (
 some (-1)) := by kernel_rfl
theorem interchangeref1_isName_eq (k : Nat) (a : ByteArray) : interchangeref1_isName (k + 1) a =
 cond ((!(!(cond (eqS a (bs [])) true (decide ((a.size : Int) > 40))))) || true) (
 cond ((!(!(cond (eqS a (bs [])) true (decide ((a.size : Int) > 40))))) || (decide (0 < (a.size : Int)))) (
 cond ((!(!(cond (cond (eqS a (bs [])) true (decide ((a.size : Int) > 40))) true (decide ((bt a 0) < 97))))) || true) (
 cond ((!(!(cond (cond (eqS a (bs [])) true (decide ((a.size : Int) > 40))) true (decide ((bt a 0) < 97))))) || (decide (0 < (a.size : Int)))) (
 cond (cond (cond (cond (eqS a (bs [])) true (decide ((a.size : Int) > 40))) true (decide ((bt a 0) < 97))) true (decide ((bt a 0) > 122))) (
 some false) (
 interchangeref1_isName_c4 k a (a.size : Int) 0)) none) none) none) none := by kernel_rfl
theorem interchangeref1_isName_c4_eq (k : Nat) (s0 : ByteArray) (s23 : Int) (s24 : Int) : interchangeref1_isName_c4 (k + 1) s0 s23 s24 =
 cond (decide (s24 < s23)) (
 cond (decide (0 ≤ s24)) (
 cond (decide (s24 < (s0.size : Int))) (
 cond (cond (cond (cond (decide ((bt s0 s24) < 97)) true (decide ((bt s0 s24) > 122))) (cond (decide ((bt s0 s24) < 48)) true (decide ((bt s0 s24) > 57))) false) ((bt s0 s24) != 45) false) (
 some false) (
 interchangeref1_isName_c4 k s0 s23 (wi64 (s24 + 1)))) none) none) (
 some true) := by kernel_rfl
theorem interchangeref1_IsName_eq (k : Nat) (a : ByteArray) : interchangeref1_IsName (k + 1) a =
 (interchangeref1_isName k a).bind fun y0 =>
 some y0 := by kernel_rfl
theorem interchangeref6_columnOf_eq (k : Nat) (a : QK) (b : ByteArray) : interchangeref6_columnOf (k + 1) a b =
 interchangeref6_columnOf_c2 k b a.2.1 (a.2.1.length : Int) 0 := by kernel_rfl
theorem interchangeref6_columnOf_c2_eq (k : Nat) (s1 : ByteArray) (s8 : List QC) (s9 : Int) (s10 : Int) : interchangeref6_columnOf_c2 (k + 1) s1 s8 s9 s10 =
 cond (decide (s10 < s9)) (
 cond (decide (0 ≤ s10)) (
 cond (decide (s10 < (s8.length : Int))) (
 cond (eqS ((s8.getD s10.toNat ((bs []), (0, (0, (0, (0, (false, (0, false)))))))).1) s1) (
 some s10) (
 interchangeref6_columnOf_c2 k s1 s8 s9 (wi64 (s10 + 1)))) none) none) (
 some (-1)) := by kernel_rfl
theorem interchangeref6_widthOf_eq (k : Nat) (a : Int) : interchangeref6_widthOf (k + 1) a =
 cond (a == 4) (
 some 10) (
 cond (a == 5) (
 some 7) (
 some 8)) := by kernel_rfl
theorem interchangeref6_checkColumn_eq (k : Nat) (a : QF) (b : QK) (c : Int) : interchangeref6_checkColumn (k + 1) a b c =
 cond (decide (0 ≤ c)) (
 cond (decide (c < (b.2.1.length : Int))) (
 (interchangeref1_IsName k ((b.2.1.getD c.toNat ((bs []), (0, (0, (0, (0, (false, (0, false)))))))).1)).bind fun y0 =>
 cond (!y0) (
 some 5) (
 (interchangeref6_columnOf k b ((b.2.1.getD c.toNat ((bs []), (0, (0, (0, (0, (false, (0, false)))))))).1)).bind fun y1 =>
 cond (y1 != c) (
 some 7) (
 (interchangeref6_within k (((b.2.1.getD c.toNat ((bs []), (0, (0, (0, (0, (false, (0, false)))))))).2).1) 1 3).bind fun y2 =>
 cond (!y2) (
 some 4) (
 (interchangeref6_within k ((((b.2.1.getD c.toNat ((bs []), (0, (0, (0, (0, (false, (0, false)))))))).2).2).1) 1 100).bind fun y3 =>
 cond (!y3) (
 some 1) (
 (cond ((((b.2.1.getD c.toNat ((bs []), (0, (0, (0, (0, (false, (0, false)))))))).2).1) == 2) (interchangeref6_within k (((((b.2.1.getD c.toNat ((bs []), (0, (0, (0, (0, (false, (0, false)))))))).2).2).2).1) 0 9) (some false)).bind fun y4 =>
 cond (cond ((((b.2.1.getD c.toNat ((bs []), (0, (0, (0, (0, (false, (0, false)))))))).2).1) == 2) (!y4) false) (
 some 1) (
 (cond ((((b.2.1.getD c.toNat ((bs []), (0, (0, (0, (0, (false, (0, false)))))))).2).1) == 3) (interchangeref6_within k ((((((b.2.1.getD c.toNat ((bs []), (0, (0, (0, (0, (false, (0, false)))))))).2).2).2).2).1) 1 5) (some false)).bind fun y5 =>
 cond (cond ((((b.2.1.getD c.toNat ((bs []), (0, (0, (0, (0, (false, (0, false)))))))).2).1) == 3) (cond (!y5) true (((((((b.2.1.getD c.toNat ((bs []), (0, (0, (0, (0, (false, (0, false)))))))).2).2).2).2).1) == 2)) false) (
 some 4) (
 cond (cond (cond (cond ((((b.2.1.getD c.toNat ((bs []), (0, (0, (0, (0, (false, (0, false)))))))).2).1) != 2) ((((((b.2.1.getD c.toNat ((bs []), (0, (0, (0, (0, (false, (0, false)))))))).2).2).2).1) != 0) false) true (cond ((((b.2.1.getD c.toNat ((bs []), (0, (0, (0, (0, (false, (0, false)))))))).2).1) != 3) (((((((b.2.1.getD c.toNat ((bs []), (0, (0, (0, (0, (false, (0, false)))))))).2).2).2).2).1) != 0) false)) true (cond (cond ((((b.2.1.getD c.toNat ((bs []), (0, (0, (0, (0, (false, (0, false)))))))).2).1) == 3) true (a.1 != 0)) (cond (((((((b.2.1.getD c.toNat ((bs []), (0, (0, (0, (0, (false, (0, false)))))))).2).2).2).2).2).1) true (((((((((b.2.1.getD c.toNat ((bs []), (0, (0, (0, (0, (false, (0, false)))))))).2).2).2).2).2).2).1) != 0)) false)) (
 some 3) (
 cond (a.1 != 0) (
 some 0) (
 cond ((((b.2.1.getD c.toNat ((bs []), (0, (0, (0, (0, (false, (0, false)))))))).2).1) == 3) (
 (interchangeref6_widthOf k ((((((b.2.1.getD c.toNat ((bs []), (0, (0, (0, (0, (false, (0, false)))))))).2).2).2).2).1)).bind fun y6 =>
 cond (((((b.2.1.getD c.toNat ((bs []), (0, (0, (0, (0, (false, (0, false)))))))).2).2).1) != y6) (
 some 12) (
 some 0)) (
 cond (cond (((((((((b.2.1.getD c.toNat ((bs []), (0, (0, (0, (0, (false, (0, false)))))))).2).2).2).2).2).2).1) != 32) (cond (cond ((((b.2.1.getD c.toNat ((bs []), (0, (0, (0, (0, (false, (0, false)))))))).2).1) != 2) true (((((((((b.2.1.getD c.toNat ((bs []), (0, (0, (0, (0, (false, (0, false)))))))).2).2).2).2).2).2).1) != 48)) true (!(((((((b.2.1.getD c.toNat ((bs []), (0, (0, (0, (0, (false, (0, false)))))))).2).2).2).2).2).1))) false) (
 some 3) (
 some 0))))))))))) none) none := by kernel_rfl
theorem interchangeref6_checkKind_eq (k : Nat) (a : QF) (b : Int) : interchangeref6_checkKind (k + 1) a b =
 cond (decide (0 ≤ b)) (
 cond (decide (b < (a.2.2.1.length : Int))) (
 (interchangeref6_isTag k ((a.2.2.1.getD b.toNat ((bs []), ([], (0, (bs []))))).1)).bind fun y0 =>
 cond (!y0) (
 some 3) (
 (interchangeref6_kindOf k a ((a.2.2.1.getD b.toNat ((bs []), ([], (0, (bs []))))).1)).bind fun y1 =>
 cond (y1 != b) (
 some 7) (
 cond ((!(a.1 == 0)) || true) (
 cond ((!(a.1 == 0)) || (decide (0 < (a.2.2.1.length : Int)))) (
 cond (cond (a.1 == 0) ((((a.2.2.1.getD b.toNat ((bs []), ([], (0, (bs []))))).1).size : Int) != (((a.2.2.1.getD 0 ((bs []), ([], (0, (bs []))))).1).size : Int)) false) (
 some 3) (
 cond (decide (((((a.2.2.1.getD b.toNat ((bs []), ([], (0, (bs []))))).2).1).length : Int) > 50)) (
 some 2) (
 interchangeref6_checkKind_c11 k b a (((a.2.2.1.getD b.toNat ((bs []), ([], (0, (bs []))))).1), ((((a.2.2.1.getD b.toNat ((bs []), ([], (0, (bs []))))).2).1), (((((a.2.2.1.getD b.toNat ((bs []), ([], (0, (bs []))))).2).2).1), ((((a.2.2.1.getD b.toNat ((bs []), ([], (0, (bs []))))).2).2).2)))) ((((a.2.2.1.getD b.toNat ((bs []), ([], (0, (bs []))))).2).1).length : Int) 0))) none) none))) none) none := by kernel_rfl
theorem interchangeref6_checkKind_c11_eq (k : Nat) (s1 : Int) (s2 : QF) (s5 : QK) (s49 : Int) (s50 : Int) : interchangeref6_checkKind_c11 (k + 1) s1 s2 s5 s49 s50 =
 cond (decide (s50 < s49)) (
 (interchangeref6_checkColumn k s2 s5 s50).bind fun y2 =>
 cond (y2 != 0) (
 some y2) (
 interchangeref6_checkKind_c11 k s1 s2 s5 s49 (wi64 (s50 + 1)))) (
 (interchangeref6_within k s5.2.2.1 0 2000).bind fun y3 =>
 cond (!y3) (
 some 1) (
 (interchangeref6_kindOf k s2 s5.2.2.2).bind fun y4 =>
 cond (cond (!(eqS s5.2.2.2 (bs []))) (cond (decide (y4 < 0)) true (decide (y4 ≥ s1))) false) (
 some 5) (
 some 0))) := by kernel_rfl
theorem interchangeref6_isCount_eq (k : Nat) (a : QF) (b : ByteArray) (c : Bool) : interchangeref6_isCount (k + 1) a b c =
 (interchangeref6_kindOf k a a.2.2.2.2.1).bind fun y0 =>
 cond (decide (0 ≤ y0)) (
 cond (decide (y0 < (a.2.2.1.length : Int))) (
 (interchangeref6_columnOf k (((a.2.2.1.getD y0.toNat ((bs []), ([], (0, (bs []))))).1), ((((a.2.2.1.getD y0.toNat ((bs []), ([], (0, (bs []))))).2).1), (((((a.2.2.1.getD y0.toNat ((bs []), ([], (0, (bs []))))).2).2).1), ((((a.2.2.1.getD y0.toNat ((bs []), ([], (0, (bs []))))).2).2).2)))) b).bind fun y1 =>
 cond ((!(decide (y1 ≥ 0))) || (decide (0 ≤ y1))) (
 cond ((!(decide (y1 ≥ 0))) || (decide (y1 < ((((a.2.2.1.getD y0.toNat ((bs []), ([], (0, (bs []))))).2).1).length : Int)))) (
 cond ((!((cond (decide (y1 ≥ 0)) (((((((a.2.2.1.getD y0.toNat ((bs []), ([], (0, (bs []))))).2).1).getD y1.toNat ((bs []), (0, (0, (0, (0, (false, (0, false)))))))).2).1) == 2) false) && (!c))) || (decide (0 ≤ y1))) (
 cond ((!((cond (decide (y1 ≥ 0)) (((((((a.2.2.1.getD y0.toNat ((bs []), ([], (0, (bs []))))).2).1).getD y1.toNat ((bs []), (0, (0, (0, (0, (false, (0, false)))))))).2).1) == 2) false) && (!c))) || (decide (y1 < ((((a.2.2.1.getD y0.toNat ((bs []), ([], (0, (bs []))))).2).1).length : Int)))) (
 some (cond (cond (decide (y1 ≥ 0)) (((((((a.2.2.1.getD y0.toNat ((bs []), ([], (0, (bs []))))).2).1).getD y1.toNat ((bs []), (0, (0, (0, (0, (false, (0, false)))))))).2).1) == 2) false) (cond c true (((((((((a.2.2.1.getD y0.toNat ((bs []), ([], (0, (bs []))))).2).1).getD y1.toNat ((bs []), (0, (0, (0, (0, (false, (0, false)))))))).2).2).2).1) == 0)) false)) none) none) none) none) none) none := by kernel_rfl
theorem interchangeref6_CheckFormat_eq (k : Nat) (a : QF) : interchangeref6_CheckFormat (k + 1) a =
 (cond (a.1 != 0) (interchangeref6_isMark k a.1) (some false)).bind fun y0 =>
 (cond (((a.1 != 0) && (!(!y0))) && (a.2.1 != 0)) (interchangeref6_isMark k a.2.1) (some false)).bind fun y1 =>
 cond (cond (a.1 != 0) (cond (cond (!y0) true (cond (a.2.1 != 0) (!y1) false)) true (a.1 == a.2.1)) false) (
 some 12) (
 cond (cond (a.1 == 0) (a.2.1 != 0) false) (
 some 3) (
 cond ((a.2.2.1.length : Int) == 0) (
 some 9) (
 cond (decide ((a.2.2.1.length : Int) > 30)) (
 some 2) (
 interchangeref6_CheckFormat_c10 k a (a.2.2.1.length : Int) 0)))) := by kernel_rfl
theorem interchangeref6_CheckFormat_c10_eq (k : Nat) (s1 : QF) (s54 : Int) (s55 : Int) : interchangeref6_CheckFormat_c10 (k + 1) s1 s54 s55 =
 cond (decide (s55 < s54)) (
 (interchangeref6_checkKind k s1 s55).bind fun y2 =>
 cond (y2 != 0) (
 some y2) (
 interchangeref6_CheckFormat_c10 k s1 s54 (wi64 (s55 + 1)))) (
 (cond (!(eqS s1.2.2.2.1 (bs []))) (interchangeref6_kindOf k s1 s1.2.2.2.1) (some 0)).bind fun y3 =>
 (cond ((!(cond (!(eqS s1.2.2.2.1 (bs []))) (decide (y3 < 0)) false)) && (!(eqS s1.2.2.2.2.1 (bs [])))) (interchangeref6_kindOf k s1 s1.2.2.2.2.1) (some 0)).bind fun y4 =>
 cond (cond (cond (!(eqS s1.2.2.2.1 (bs []))) (decide (y3 < 0)) false) true (cond (!(eqS s1.2.2.2.2.1 (bs []))) (decide (y4 < 0)) false)) (
 some 5) (
 cond (cond (!(eqS s1.2.2.2.1 (bs []))) (eqS s1.2.2.2.1 s1.2.2.2.2.1) false) (
 some 12) (
 cond (cond (eqS s1.2.2.2.2.1 (bs [])) (cond (!(eqS s1.2.2.2.2.2.1 (bs []))) true (!(eqS s1.2.2.2.2.2.2 (bs [])))) false) (
 some 3) (
 (cond (!(eqS s1.2.2.2.2.2.1 (bs []))) (interchangeref6_isCount k s1 s1.2.2.2.2.2.1 false) (some false)).bind fun y5 =>
 (cond ((!(cond (!(eqS s1.2.2.2.2.2.1 (bs []))) (!y5) false)) && (!(eqS s1.2.2.2.2.2.2 (bs [])))) (interchangeref6_isCount k s1 s1.2.2.2.2.2.2 true) (some false)).bind fun y6 =>
 cond (cond (cond (!(eqS s1.2.2.2.2.2.1 (bs []))) (!y5) false) true (cond (!(eqS s1.2.2.2.2.2.2 (bs []))) (!y6) false)) (
 some 5) (
 cond (cond (!(eqS s1.2.2.2.2.2.1 (bs []))) (eqS s1.2.2.2.2.2.1 s1.2.2.2.2.2.2) false) (
 some 12) (
 some 0)))))) := by kernel_rfl
theorem stringslite_HasPrefix_eq (k : Nat) (a : ByteArray) (b : ByteArray) : stringslite_HasPrefix (k + 1) a b =
 cond ((!(decide ((a.size : Int) ≥ (b.size : Int)))) || (decide (0 ≤ (b.size : Int)))) (
 cond ((!(decide ((a.size : Int) ≥ (b.size : Int)))) || (decide ((b.size : Int) ≤ (a.size : Int)))) (
 some (cond (decide ((a.size : Int) ≥ (b.size : Int))) (eqS (a.extract 0 (b.size : Int).toNat) b) false)) none) none := by kernel_rfl
theorem stringslite_CutPrefix_eq (k : Nat) (a : ByteArray) (b : ByteArray) : stringslite_CutPrefix (k + 1) a b =
 (stringslite_HasPrefix k a b).bind fun y0 =>
 cond (!y0) (
 some (a, false)) (
 cond (decide (0 ≤ (b.size : Int))) (
 cond (decide ((b.size : Int) ≤ (a.size : Int))) (
 some ((a.extract (b.size : Int).toNat a.size), true)) none) none) := by kernel_rfl
theorem strings_CutPrefix_eq (k : Nat) (a : ByteArray) (b : ByteArray) : strings_CutPrefix (k + 1) a b =
 (stringslite_CutPrefix k a b).bind fun y0 =>
 some y0 := by kernel_rfl
theorem stringslite_IndexByte_eq (k : Nat) (a : ByteArray) (b : Int) : stringslite_IndexByte k a b = some (Lib.indexByte a.data.toList b.toNat.toUInt8) := by kernel_rfl
theorem stringslite_Index_eq (k : Nat) (a : ByteArray) (b : ByteArray) : stringslite_Index (k + 1) a b =
 cond (cond ((b.size : Int) == 0) true (eqS b a)) (
 some 0) (
 cond ((b.size : Int) == 1) (
 cond (decide (0 < (b.size : Int))) (
 (stringslite_IndexByte k a (bt b 0)).bind fun y0 =>
 some y0) none) (
 cond (decide ((b.size : Int) ≥ (a.size : Int))) (
 some (-1)) (
 none))) := by kernel_rfl
theorem stringslite_Cut_eq (k : Nat) (a : ByteArray) (b : ByteArray) : stringslite_Cut (k + 1) a b =
 (stringslite_Index k a b).bind fun y0 =>
 cond (decide (y0 ≥ 0)) (
 cond (decide (0 ≤ y0)) (
 cond (decide (y0 ≤ (a.size : Int))) (
 cond (decide (0 ≤ (wi64 (y0 + (b.size : Int))))) (
 cond (decide ((wi64 (y0 + (b.size : Int))) ≤ (a.size : Int))) (
 some ((a.extract 0 y0.toNat), ((a.extract (wi64 (y0 + (b.size : Int))).toNat a.size), true))) none) none) none) none) (
 some (a, ((bs []), false))) := by kernel_rfl
theorem strings_Cut_eq (k : Nat) (a : ByteArray) (b : ByteArray) : strings_Cut (k + 1) a b =
 (stringslite_Cut k a b).bind fun y0 =>
 some y0 := by kernel_rfl
theorem interchangeref1_isDigits_eq (k : Nat) (a : ByteArray) : interchangeref1_isDigits (k + 1) a =
 cond (eqS a (bs [])) (
 some false) (
 interchangeref1_isDigits_c4 k a (a.size : Int) 0) := by kernel_rfl
theorem interchangeref1_isDigits_c4_eq (k : Nat) (s0 : ByteArray) (s7 : Int) (s8 : Int) : interchangeref1_isDigits_c4 (k + 1) s0 s7 s8 =
 cond (decide (s8 < s7)) (
 cond (decide (0 ≤ s8)) (
 cond (decide (s8 < (s0.size : Int))) (
 cond ((!(!(decide ((bt s0 s8) < 48)))) || (decide (0 ≤ s8))) (
 cond ((!(!(decide ((bt s0 s8) < 48)))) || (decide (s8 < (s0.size : Int)))) (
 cond (cond (decide ((bt s0 s8) < 48)) true (decide ((bt s0 s8) > 57))) (
 some false) (
 interchangeref1_isDigits_c4 k s0 s7 (wi64 (s8 + 1)))) none) none) none) none) (
 some true) := by kernel_rfl
theorem strings_Trim_eq (k : Nat) (a : ByteArray) (b : ByteArray) : strings_Trim k a b = cond (decide (a.size ≤ 9223372036854775807) && decide (b.size < 4294967281) && b.data.toList.all fun x => decide (x.toNat < 128)) (some ⟨(Lib.trimS a.data.toList b.data.toList).toArray⟩) none := by kernel_rfl
theorem interchangeref1_ofDigits_eq (k : Nat) (a : ByteArray) : interchangeref1_ofDigits (k + 1) a =
 interchangeref1_ofDigits_c3 k a 0 (a.size : Int) 0 := by kernel_rfl
theorem interchangeref1_ofDigits_c3_eq (k : Nat) (s0 : ByteArray) (s4 : Int) (s7 : Int) (s8 : Int) : interchangeref1_ofDigits_c3 (k + 1) s0 s4 s7 s8 =
 cond (decide (s8 < s7)) (
 cond (decide (0 ≤ s8)) (
 cond (decide (s8 < (s0.size : Int))) (
 cond (decide ((wi64 ((wi64 (10 * s4)) + (wi64 (wu8 ((bt s0 s8) - 48))))) > 1000000000000000)) (
 some (0, false)) (
 interchangeref1_ofDigits_c3 k s0 (wi64 ((wi64 (10 * s4)) + (wi64 (wu8 ((bt s0 s8) - 48))))) s7 (wi64 (s8 + 1)))) none) none) (
 some (s4, true)) := by kernel_rfl
theorem interchangeref1_ReadText_eq (k : Nat) (a : ByteArray) : interchangeref1_ReadText (k + 1) a =
 cond (decide ((a.size : Int) > 40)) (
 some ((0, 0), 10)) (
 (strings_CutPrefix k a (bs [45])).bind fun y0 =>
 (strings_Cut k y0.1 (bs [46])).bind fun y1 =>
 (interchangeref1_isDigits k y1.1).bind fun y2 =>
 cond ((!((!(!y2)) && (decide ((y1.1.size : Int) > 1)))) || true) (
 cond ((!((!(!y2)) && (decide ((y1.1.size : Int) > 1)))) || (decide (0 < (y1.1.size : Int)))) (
 (cond ((!(cond (!y2) true (cond (decide ((y1.1.size : Int) > 1)) ((bt y1.1 0) == 48) false))) && y1.2.2) (interchangeref1_isDigits k y1.2.1) (some false)).bind fun y3 =>
 cond (cond (cond (cond (!y2) true (cond (decide ((y1.1.size : Int) > 1)) ((bt y1.1 0) == 48) false)) true (cond y1.2.2 (!y3) false)) true (decide ((y1.2.1.size : Int) > 9))) (
 some ((0, 0), 10)) (
 cond ((!y0.2) || (decide (y1.1.size + y1.2.1.size ≤ 9223372036854775807))) (
 (cond y0.2 (strings_Trim k (y1.1 ++ y1.2.1) (bs [48])) (some (bs []))).bind fun y4 =>
 cond (cond y0.2 (eqS y4 (bs [])) false) (
 some ((0, 0), 10)) (
 cond (decide (y1.1.size + y1.2.1.size ≤ 9223372036854775807)) (
 (interchangeref1_ofDigits k (y1.1 ++ y1.2.1)).bind fun y5 =>
 cond (!y5.2) (
 some ((0, 0), 1)) (
 cond y0.2 (
 some (((wi64 (0 - y5.1)), (y1.2.1.size : Int)), 0)) (
 some ((y5.1, (y1.2.1.size : Int)), 0)))) none)) none)) none) none) := by kernel_rfl
theorem interchangeref1_Normal_eq (k : Nat) (a : Int × Int) : interchangeref1_Normal (k + 1) a =
 interchangeref1_Normal_c1 k a (0, 0) := by kernel_rfl
theorem interchangeref1_Normal_c1_eq (k : Nat) (s1 : Int × Int) (s2 : Int × Int) : interchangeref1_Normal_c1 (k + 1) s1 s2 =
 cond ((!(decide (s1.2 > 0))) || true) (
 cond (cond (decide (s1.2 > 0)) ((s1.1.tmod 10) == 0) false) (
 interchangeref1_Normal_c1 k ((wi64 (s1.1.tdiv 10)), (wi64 (s1.2 - 1))) s2) (
 some s1)) none := by kernel_rfl
theorem interchangeref1_within_eq (k : Nat) (a : Int) (b : Int) (c : Int) : interchangeref1_within (k + 1) a b c =
 some (cond (decide (b ≤ a)) (decide (a ≤ c)) false) := by kernel_rfl
theorem interchangeref1_number_eq (k : Nat) (a : ByteArray) : interchangeref1_number (k + 1) a =
 (interchangeref1_isDigits k a).bind fun y0 =>
 cond (!y0) (
 some (-1)) (
 (interchangeref1_ofDigits k a).bind fun y1 =>
 some y1.1) := by kernel_rfl
theorem interchangeref1_isLong_eq (k : Nat) (a : Int) : interchangeref1_isLong (k + 1) a =
 cond ((!((a.tmod 4) == 0)) || true) (
 cond ((!(!(cond ((a.tmod 4) == 0) ((a.tmod 100) != 0) false))) || true) (
 some (cond (cond ((a.tmod 4) == 0) ((a.tmod 100) != 0) false) true ((a.tmod 400) == 0))) none) none := by kernel_rfl
theorem interchangeref1_daysOf_eq (k : Nat) (a : Int) (b : Int) : interchangeref1_daysOf (k + 1) a b =
 cond (b == 2) (
 (interchangeref1_isLong k a).bind fun y0 =>
 cond y0 (
 some 29) (
 some 28)) (
 cond (b == 4) (
 cond (b == 4) (
 some 30) (
 some 31)) (
 cond (b == 6) (
 cond (b == 6) (
 some 30) (
 some 31)) (
 cond (b == 9) (
 cond (b == 9) (
 some 30) (
 some 31)) (
 cond (b == 11) (
 some 30) (
 some 31))))) := by kernel_rfl
theorem interchangeref1_before_eq (k : Nat) (a : Int) : interchangeref1_before (k + 1) a =
 some (wi64 ((wi64 ((wi64 ((wi64 (365 * (wi64 (a - 1)))) + (wi64 ((wi64 (a - 1)).tdiv 4)))) - (wi64 ((wi64 (a - 1)).tdiv 100)))) + (wi64 ((wi64 (a - 1)).tdiv 400)))) := by kernel_rfl
theorem interchangeref1_dayOf_eq (k : Nat) (a : Int) (b : Int) (c : Int) : interchangeref1_dayOf (k + 1) a b c =
 (interchangeref1_before k a).bind fun y0 =>
 interchangeref1_dayOf_c3 k a b (wi64 (y0 + c)) 1 := by kernel_rfl
theorem interchangeref1_dayOf_c3_eq (k : Nat) (s0 : Int) (s1 : Int) (s7 : Int) (s8 : Int) : interchangeref1_dayOf_c3 (k + 1) s0 s1 s7 s8 =
 cond (decide (s8 < s1)) (
 (interchangeref1_daysOf k s0 s8).bind fun y1 =>
 interchangeref1_dayOf_c3 k s0 s1 (wi64 (s7 + y1)) (wi64 (s8 + 1))) (
 some s7) := by kernel_rfl
theorem interchangeref1_DayOf_eq (k : Nat) (a : Int) (b : Int) (c : Int) : interchangeref1_DayOf (k + 1) a b c =
 (interchangeref1_within k a 1 9999).bind fun y0 =>
 (cond (!(!y0)) (interchangeref1_within k b 1 12) (some false)).bind fun y1 =>
 (cond (!(cond (!y0) true (!y1))) (interchangeref1_daysOf k a b) (some 0)).bind fun y2 =>
 (cond (!(cond (!y0) true (!y1))) (interchangeref1_within k c 1 y2) (some false)).bind fun y3 =>
 cond (cond (cond (!y0) true (!y1)) true (!y3)) (
 some (0, 1)) (
 (interchangeref1_dayOf k a b c).bind fun y4 =>
 some (y4, 0)) := by kernel_rfl
theorem interchangeref1_dateOf_eq (k : Nat) (a : Int) : interchangeref1_dateOf (k + 1) a =
 interchangeref1_dateOf_c2 k a (wi64 ((wi64 (a.tdiv 366)) + 1)) := by kernel_rfl
theorem interchangeref1_dateOf_c2_eq (k : Nat) (s0 : Int) (s2 : Int) : interchangeref1_dateOf_c2 (k + 1) s0 s2 =
 (interchangeref1_before k (wi64 (s2 + 1))).bind fun y0 =>
 cond (decide (y0 < s0)) (
 interchangeref1_dateOf_c2 k s0 (wi64 (s2 + 1))) (
 (interchangeref1_before k s2).bind fun y1 =>
 interchangeref1_dateOf_c6 k s2 1 (wi64 (s0 - y1))) := by kernel_rfl
theorem interchangeref1_dateOf_c6_eq (k : Nat) (s2 : Int) (s3 : Int) (s4 : Int) : interchangeref1_dateOf_c6 (k + 1) s2 s3 s4 =
 (interchangeref1_daysOf k s2 s3).bind fun y2 =>
 cond (decide (s4 > y2)) (
 (interchangeref1_daysOf k s2 s3).bind fun y3 =>
 interchangeref1_dateOf_c6 k s2 (wi64 (s3 + 1)) (wi64 (s4 - y3))) (
 some (s2, (s3, s4))) := by kernel_rfl
theorem interchangeref1_weekOf_eq (k : Nat) (a : Int) : interchangeref1_weekOf (k + 1) a =
 (interchangeref1_dateOf k (wi64 ((wi64 (a - (wi64 (((wi64 (a - 1)).tmod 7) + 1)))) + 4))).bind fun y0 =>
 (interchangeref1_before k y0.1).bind fun y1 =>
 some (y0.1, ((wi64 ((wi64 ((wi64 ((wi64 ((wi64 ((wi64 (a - (wi64 (((wi64 (a - 1)).tmod 7) + 1)))) + 4)) - y1)) - 1)).tdiv 7)) + 1)), (wi64 (((wi64 (a - 1)).tmod 7) + 1)))) := by kernel_rfl
theorem interchangeref1_ReadDay_eq (k : Nat) (a : ByteArray) (b : Int) (c : Int) : interchangeref1_ReadDay (k + 1) a b c =
 (interchangeref1_within k b 1 5).bind fun y0 =>
 cond (!y0) (
 some (0, 4)) (
 (interchangeref1_within k c 1 9900).bind fun y1 =>
 cond (!y1) (
 some (0, 1)) (
 cond (cond (b == 1) ((a.size : Int) == 8) false) (
 cond (decide (4 ≤ (a.size : Int))) (
 (interchangeref1_number k (a.extract 0 4)).bind fun y2 =>
 cond (decide (6 ≤ (a.size : Int))) (
 (interchangeref1_number k (a.extract 4 6)).bind fun y3 =>
 cond (decide (6 ≤ (a.size : Int))) (
 (interchangeref1_number k (a.extract 6 a.size)).bind fun y4 =>
 (interchangeref1_DayOf k y2 y3 y4).bind fun y5 =>
 cond (y5.2 != 0) (
 some (0, 10)) (
 some (y5.1, 0))) none) none) none) (
 cond (cond (b == 2) ((a.size : Int) == 6) false) (
 cond (decide (2 ≤ (a.size : Int))) (
 (interchangeref1_number k (a.extract 0 2)).bind fun y6 =>
 cond (decide (4 ≤ (a.size : Int))) (
 (interchangeref1_number k (a.extract 2 4)).bind fun y7 =>
 cond (decide (4 ≤ (a.size : Int))) (
 (interchangeref1_number k (a.extract 4 a.size)).bind fun y8 =>
 cond (decide (y6 ≥ 0)) (
 (interchangeref1_DayOf k (wi64 (c + ((wi64 ((wi64 (y6 - (c.tmod 100))) + 100)).tmod 100))) y7 y8).bind fun y9 =>
 cond (y9.2 != 0) (
 some (0, 10)) (
 some (y9.1, 0))) (
 (interchangeref1_DayOf k y6 y7 y8).bind fun y10 =>
 cond (y10.2 != 0) (
 some (0, 10)) (
 some (y10.1, 0)))) none) none) none) (
 cond (cond (b == 3) ((a.size : Int) == 8) false) (
 cond (decide (4 ≤ (a.size : Int))) (
 (interchangeref1_number k (a.extract 4 a.size)).bind fun y11 =>
 cond (decide (4 ≤ (a.size : Int))) (
 (interchangeref1_number k (a.extract 2 4)).bind fun y12 =>
 cond (decide (2 ≤ (a.size : Int))) (
 (interchangeref1_number k (a.extract 0 2)).bind fun y13 =>
 (interchangeref1_DayOf k y11 y12 y13).bind fun y14 =>
 cond (y14.2 != 0) (
 some (0, 10)) (
 some (y14.1, 0))) none) none) none) (
 cond ((!(cond (b == 4) ((a.size : Int) == 10) false)) || true) (
 cond ((!(cond (b == 4) ((a.size : Int) == 10) false)) || (decide (4 < (a.size : Int)))) (
 cond ((!(cond (cond (b == 4) ((a.size : Int) == 10) false) ((bt a 4) == 45) false)) || true) (
 cond ((!(cond (cond (b == 4) ((a.size : Int) == 10) false) ((bt a 4) == 45) false)) || (decide (7 < (a.size : Int)))) (
 cond (cond (cond (cond (b == 4) ((a.size : Int) == 10) false) ((bt a 4) == 45) false) ((bt a 7) == 45) false) (
 cond (decide (4 ≤ (a.size : Int))) (
 (interchangeref1_number k (a.extract 0 4)).bind fun y15 =>
 cond (decide (7 ≤ (a.size : Int))) (
 (interchangeref1_number k (a.extract 5 7)).bind fun y16 =>
 cond (decide (8 ≤ (a.size : Int))) (
 (interchangeref1_number k (a.extract 8 a.size)).bind fun y17 =>
 (interchangeref1_DayOf k y15 y16 y17).bind fun y18 =>
 cond (y18.2 != 0) (
 some (0, 10)) (
 some (y18.1, 0))) none) none) none) (
 cond (cond (b == 5) ((a.size : Int) == 7) false) (
 (interchangeref1_readWeek k a).bind fun y19 =>
 some y19) (
 (interchangeref1_DayOf k (-1) (-1) (-1)).bind fun y20 =>
 cond (y20.2 != 0) (
 some (0, 10)) (
 some (y20.1, 0))))) none) none) none) none))))) := by kernel_rfl
theorem interchangeref6_isPlain_eq (k : Nat) (a : ByteArray) : interchangeref6_isPlain (k + 1) a =
 interchangeref6_isPlain_c2 k a (a.size : Int) 0 := by kernel_rfl
theorem interchangeref6_isPlain_c2_eq (k : Nat) (s0 : ByteArray) (s5 : Int) (s6 : Int) : interchangeref6_isPlain_c2 (k + 1) s0 s5 s6 =
 cond (decide (s6 < s5)) (
 cond (decide (0 ≤ s6)) (
 cond (decide (s6 < (s0.size : Int))) (
 cond ((!(!(decide ((bt s0 s6) < 32)))) || (decide (0 ≤ s6))) (
 cond ((!(!(decide ((bt s0 s6) < 32)))) || (decide (s6 < (s0.size : Int)))) (
 cond (cond (decide ((bt s0 s6) < 32)) true (decide ((bt s0 s6) > 126))) (
 some false) (
 interchangeref6_isPlain_c2 k s0 s5 (wi64 (s6 + 1)))) none) none) none) none) (
 cond (decide (0 < (s0.size : Int))) (
 cond ((!((bt s0 0) != 32)) || (decide (0 ≤ (wi64 ((s0.size : Int) - 1))))) (
 cond ((!((bt s0 0) != 32)) || (decide ((wi64 ((s0.size : Int) - 1)) < (s0.size : Int)))) (
 some (cond ((bt s0 0) != 32) ((bt s0 (wi64 ((s0.size : Int) - 1))) != 32) false)) none) none) none) := by kernel_rfl
theorem interchangeref6_isOf_eq (k : Nat) (a : QC) (b : ByteArray) : interchangeref6_isOf (k + 1) a b =
 cond (a.2.1 == 2) (
 (interchangeref1_ReadText k b).bind fun y0 =>
 (cond (y0.2 == 0) (interchangeref1_Normal k y0.1) (some (0, 0))).bind fun y1 =>
 some (cond (cond (y0.2 == 0) ((y1.1 == y0.1.1) && ((y1.2 == y0.1.2) && true)) false) (decide (y0.1.2 ≤ a.2.2.2.1)) false)) (
 cond (a.2.1 == 3) (
 (interchangeref1_ReadDay k b 1 1).bind fun y2 =>
 some (y2.2 == 0)) (
 (interchangeref6_isPlain k b).bind fun y3 =>
 some y3)) := by kernel_rfl
theorem interchangeref1_isDay_eq (k : Nat) (a : Int) : interchangeref1_isDay (k + 1) a =
 (interchangeref1_within k a 1 3652059).bind fun y0 =>
 some y0 := by kernel_rfl
theorem strconv_Itoa_eq (k : Nat) (a : Int) : strconv_Itoa k a = cond (decide (-9223372036854775808 ≤ a) && decide (a ≤ 9223372036854775807)) (some ⟨(Lib.itoa a).toArray⟩) none := by kernel_rfl
theorem strings_Repeat_eq (k : Nat) (a : ByteArray) (b : Int) : strings_Repeat k a b = cond (decide (0 ≤ b) && decide (b ≤ 9223372036854775807) && decide (a.size * b.toNat ≤ 140737488355328)) (some ⟨(Lib.repeatL a.data.toList b.toNat).toArray⟩) none := by kernel_rfl
theorem interchangeref1_padded_eq (k : Nat) (a : Int) (b : Int) : interchangeref1_padded (k + 1) a b =
 (strconv_Itoa k a).bind fun y0 =>
 (strings_Repeat k (bs [48]) (maxI 0 (wi64 (b - (y0.size : Int))))).bind fun y1 =>
 cond (decide (y1.size + y0.size ≤ 9223372036854775807)) (
 some (y1 ++ y0)) none := by kernel_rfl
theorem interchangeref1_dayText_eq (k : Nat) (a : Int) (b : Int) : interchangeref1_dayText (k + 1) a b =
 (interchangeref1_dateOf k a).bind fun y0 =>
 cond (b == 1) (
 (interchangeref1_padded k y0.1 4).bind fun y1 =>
 (interchangeref1_padded k y0.2.1 2).bind fun y2 =>
 cond (decide (y1.size + y2.size ≤ 9223372036854775807)) (
 (interchangeref1_padded k y0.2.2 2).bind fun y3 =>
 cond (decide ((y1 ++ y2).size + y3.size ≤ 9223372036854775807)) (
 some ((y1 ++ y2) ++ y3)) none) none) (
 cond (b == 2) (
 (interchangeref1_padded k (y0.1.tmod 100) 2).bind fun y4 =>
 (interchangeref1_padded k y0.2.1 2).bind fun y5 =>
 cond (decide (y4.size + y5.size ≤ 9223372036854775807)) (
 (interchangeref1_padded k y0.2.2 2).bind fun y6 =>
 cond (decide ((y4 ++ y5).size + y6.size ≤ 9223372036854775807)) (
 some ((y4 ++ y5) ++ y6)) none) none) (
 cond (b == 3) (
 (interchangeref1_padded k y0.2.2 2).bind fun y7 =>
 (interchangeref1_padded k y0.2.1 2).bind fun y8 =>
 cond (decide (y7.size + y8.size ≤ 9223372036854775807)) (
 (interchangeref1_padded k y0.1 4).bind fun y9 =>
 cond (decide ((y7 ++ y8).size + y9.size ≤ 9223372036854775807)) (
 some ((y7 ++ y8) ++ y9)) none) none) (
 cond (b == 4) (
 (interchangeref1_padded k y0.1 4).bind fun y10 =>
 cond (decide (y10.size + 1 ≤ 9223372036854775807)) (
 (interchangeref1_padded k y0.2.1 2).bind fun y11 =>
 cond (decide ((y10 ++ (bs [45])).size + y11.size ≤ 9223372036854775807)) (
 cond (decide (((y10 ++ (bs [45])) ++ y11).size + 1 ≤ 9223372036854775807)) (
 (interchangeref1_padded k y0.2.2 2).bind fun y12 =>
 cond (decide ((((y10 ++ (bs [45])) ++ y11) ++ (bs [45])).size + y12.size ≤ 9223372036854775807)) (
 some ((((y10 ++ (bs [45])) ++ y11) ++ (bs [45])) ++ y12)) none) none) none) none) (
 (interchangeref1_weekOf k a).bind fun y13 =>
 (interchangeref1_padded k y13.1 4).bind fun y14 =>
 (interchangeref1_padded k y13.2.1 2).bind fun y15 =>
 cond (decide (y14.size + y15.size ≤ 9223372036854775807)) (
 (interchangeref1_padded k y13.2.2 1).bind fun y16 =>
 cond (decide ((y14 ++ y15).size + y16.size ≤ 9223372036854775807)) (
 some ((y14 ++ y15) ++ y16)) none) none)))) := by kernel_rfl
theorem interchangeref1_DayText_eq (k : Nat) (a : Int) (b : Int) : interchangeref1_DayText (k + 1) a b =
 (interchangeref1_within k b 1 5).bind fun y0 =>
 cond (!y0) (
 some ((bs []), 4)) (
 (interchangeref1_isDay k a).bind fun y1 =>
 cond (!y1) (
 some ((bs []), 1)) (
 (interchangeref1_dayText k a b).bind fun y2 =>
 some (y2, 0))) := by kernel_rfl
theorem stringslite_TrimPrefix_eq (k : Nat) (a : ByteArray) (b : ByteArray) : stringslite_TrimPrefix (k + 1) a b =
 (stringslite_HasPrefix k a b).bind fun y0 =>
 cond y0 (
 cond (decide (0 ≤ (b.size : Int))) (
 cond (decide ((b.size : Int) ≤ (a.size : Int))) (
 some (a.extract (b.size : Int).toNat a.size)) none) none) (
 some a) := by kernel_rfl
theorem strings_TrimPrefix_eq (k : Nat) (a : ByteArray) (b : ByteArray) : strings_TrimPrefix (k + 1) a b =
 (stringslite_TrimPrefix k a b).bind fun y0 =>
 some y0 := by kernel_rfl
theorem interchangeref6_written_eq (k : Nat) (a : QF) (b : QC) (c : ByteArray) : interchangeref6_written (k + 1) a b c =
 cond (cond (cond (eqS c (bs [])) true (b.2.1 == 1)) true (cond (b.2.1 == 2) (a.1 != 0) false)) (
 some c) (
 cond (b.2.1 == 3) (
 (interchangeref1_ReadDay k c 1 1).bind fun y0 =>
 (interchangeref1_DayText k y0.1 b.2.2.2.2.1).bind fun y1 =>
 some y1.1) (
 (interchangeref1_ReadText k c).bind fun y2 =>
 (strconv_Itoa k y2.1.1).bind fun y3 =>
 (strings_TrimPrefix k y3 (bs [45])).bind fun y4 =>
 cond (y2.1.1 != 0) (
 (strings_Repeat k (bs [48]) (wi64 (b.2.2.2.1 - y2.1.2))).bind fun y5 =>
 cond (decide (y4.size + y5.size ≤ 9223372036854775807)) (
 cond (decide (y2.1.1 < 0)) (
 cond (decide (1 + (y4 ++ y5).size ≤ 9223372036854775807)) (
 some ((bs [45]) ++ (y4 ++ y5))) none) (
 some (y4 ++ y5))) none) (
 cond (decide (y2.1.1 < 0)) (
 cond (decide (1 + y4.size ≤ 9223372036854775807)) (
 some ((bs [45]) ++ y4)) none) (
 some y4)))) := by kernel_rfl
theorem strings_IndexByte_eq (k : Nat) (a : ByteArray) (b : Int) : strings_IndexByte (k + 1) a b =
 (stringslite_IndexByte k a b).bind fun y0 =>
 some y0 := by kernel_rfl
theorem interchangeref6_checkRow_eq (k : Nat) (a : QF) (b : QR) : interchangeref6_checkRow (k + 1) a b =
 (interchangeref6_kindOf k a b.1).bind fun y0 =>
 cond (decide (y0 < 0)) (
 some (0, 9)) (
 cond (decide (0 ≤ y0)) (
 cond (decide (y0 < (a.2.2.1.length : Int))) (
 cond ((b.2.length : Int) != ((((a.2.2.1.getD y0.toNat ((bs []), ([], (0, (bs []))))).2).1).length : Int)) (
 some (0, 3)) (
 interchangeref6_checkRow_c7 k a y0 b.2 (b.2.length : Int) 0)) none) none) := by kernel_rfl
theorem interchangeref6_checkRow_c7_eq (k : Nat) (s2 : QF) (s6 : Int) (s28 : List ByteArray) (s29 : Int) (s30 : Int) : interchangeref6_checkRow_c7 (k + 1) s2 s6 s28 s29 s30 =
 cond (decide (s30 < s29)) (
 cond (decide (0 ≤ s30)) (
 cond (decide (s30 < (s28.length : Int))) (
 cond (decide (0 ≤ s6)) (
 cond (decide (s6 < (s2.2.2.1.length : Int))) (
 cond (decide (0 ≤ s30)) (
 cond (decide (s30 < ((((s2.2.2.1.getD s6.toNat ((bs []), ([], (0, (bs []))))).2).1).length : Int))) (
 cond (cond (eqS (s28.getD s30.toNat (bs [])) (bs [])) (((((((((((s2.2.2.1.getD s6.toNat ((bs []), ([], (0, (bs []))))).2).1).getD s30.toNat ((bs []), (0, (0, (0, (0, (false, (0, false)))))))).2).2).2).2).2).2).2) false) (
 some (s30, 13)) (
 cond (eqS (s28.getD s30.toNat (bs [])) (bs [])) (
 interchangeref6_checkRow_c7 k s2 s6 s28 s29 (wi64 (s30 + 1))) (
 (interchangeref6_isOf k ((((((s2.2.2.1.getD s6.toNat ((bs []), ([], (0, (bs []))))).2).1).getD s30.toNat ((bs []), (0, (0, (0, (0, (false, (0, false)))))))).1), (((((((s2.2.2.1.getD s6.toNat ((bs []), ([], (0, (bs []))))).2).1).getD s30.toNat ((bs []), (0, (0, (0, (0, (false, (0, false)))))))).2).1), ((((((((s2.2.2.1.getD s6.toNat ((bs []), ([], (0, (bs []))))).2).1).getD s30.toNat ((bs []), (0, (0, (0, (0, (false, (0, false)))))))).2).2).1), (((((((((s2.2.2.1.getD s6.toNat ((bs []), ([], (0, (bs []))))).2).1).getD s30.toNat ((bs []), (0, (0, (0, (0, (false, (0, false)))))))).2).2).2).1), ((((((((((s2.2.2.1.getD s6.toNat ((bs []), ([], (0, (bs []))))).2).1).getD s30.toNat ((bs []), (0, (0, (0, (0, (false, (0, false)))))))).2).2).2).2).1), (((((((((((s2.2.2.1.getD s6.toNat ((bs []), ([], (0, (bs []))))).2).1).getD s30.toNat ((bs []), (0, (0, (0, (0, (false, (0, false)))))))).2).2).2).2).2).1), ((((((((((((s2.2.2.1.getD s6.toNat ((bs []), ([], (0, (bs []))))).2).1).getD s30.toNat ((bs []), (0, (0, (0, (0, (false, (0, false)))))))).2).2).2).2).2).2).1), (((((((((((s2.2.2.1.getD s6.toNat ((bs []), ([], (0, (bs []))))).2).1).getD s30.toNat ((bs []), (0, (0, (0, (0, (false, (0, false)))))))).2).2).2).2).2).2).2)))))))) (s28.getD s30.toNat (bs []))).bind fun y1 =>
 cond (!y1) (
 some (s30, 6)) (
 (interchangeref6_written k s2 ((((((s2.2.2.1.getD s6.toNat ((bs []), ([], (0, (bs []))))).2).1).getD s30.toNat ((bs []), (0, (0, (0, (0, (false, (0, false)))))))).1), (((((((s2.2.2.1.getD s6.toNat ((bs []), ([], (0, (bs []))))).2).1).getD s30.toNat ((bs []), (0, (0, (0, (0, (false, (0, false)))))))).2).1), ((((((((s2.2.2.1.getD s6.toNat ((bs []), ([], (0, (bs []))))).2).1).getD s30.toNat ((bs []), (0, (0, (0, (0, (false, (0, false)))))))).2).2).1), (((((((((s2.2.2.1.getD s6.toNat ((bs []), ([], (0, (bs []))))).2).1).getD s30.toNat ((bs []), (0, (0, (0, (0, (false, (0, false)))))))).2).2).2).1), ((((((((((s2.2.2.1.getD s6.toNat ((bs []), ([], (0, (bs []))))).2).1).getD s30.toNat ((bs []), (0, (0, (0, (0, (false, (0, false)))))))).2).2).2).2).1), (((((((((((s2.2.2.1.getD s6.toNat ((bs []), ([], (0, (bs []))))).2).1).getD s30.toNat ((bs []), (0, (0, (0, (0, (false, (0, false)))))))).2).2).2).2).2).1), ((((((((((((s2.2.2.1.getD s6.toNat ((bs []), ([], (0, (bs []))))).2).1).getD s30.toNat ((bs []), (0, (0, (0, (0, (false, (0, false)))))))).2).2).2).2).2).2).1), (((((((((((s2.2.2.1.getD s6.toNat ((bs []), ([], (0, (bs []))))).2).1).getD s30.toNat ((bs []), (0, (0, (0, (0, (false, (0, false)))))))).2).2).2).2).2).2).2)))))))) (s28.getD s30.toNat (bs []))).bind fun y2 =>
 cond (decide ((y2.size : Int) > (((((((s2.2.2.1.getD s6.toNat ((bs []), ([], (0, (bs []))))).2).1).getD s30.toNat ((bs []), (0, (0, (0, (0, (false, (0, false)))))))).2).2).1))) (
 some (s30, 16)) (
 (cond (cond (s2.1 != 0) (s2.2.1 == 0) false) (strings_IndexByte k (s28.getD s30.toNat (bs [])) s2.1) (some 0)).bind fun y3 =>
 cond (cond (cond (s2.1 != 0) (s2.2.1 == 0) false) (decide (y3 ≥ 0)) false) (
 some (s30, 12)) (
 interchangeref6_checkRow_c7 k s2 s6 s28 s29 (wi64 (s30 + 1)))))))) none) none) none) none) none) none) (
 some (0, 0)) := by kernel_rfl
theorem interchangeref6_checkRows_eq (k : Nat) (a : QF) (b : List QR) : interchangeref6_checkRows (k + 1) a b =
 interchangeref6_checkRows_c2 k a b (b.length : Int) 0 := by kernel_rfl
theorem interchangeref6_checkRows_c2_eq (k : Nat) (s2 : QF) (s10 : List QR) (s11 : Int) (s12 : Int) : interchangeref6_checkRows_c2 (k + 1) s2 s10 s11 s12 =
 cond (decide (s12 < s11)) (
 cond (decide (0 ≤ s12)) (
 cond (decide (s12 < (s10.length : Int))) (
 (interchangeref6_checkRow k s2 (((s10.getD s12.toNat ((bs []), [])).1), ((s10.getD s12.toNat ((bs []), [])).2))).bind fun y0 =>
 cond (y0.2 != 0) (
 some (s12, y0.2)) (
 interchangeref6_checkRows_c2 k s2 s10 s11 (wi64 (s12 + 1)))) none) none) (
 some (0, 0)) := by kernel_rfl
theorem interchangeref6_isUnder_eq (k : Nat) (a : QF) (b : ByteArray) (c : ByteArray) : interchangeref6_isUnder (k + 1) a b c =
 interchangeref6_isUnder_c1 k b c a := by kernel_rfl
theorem interchangeref6_isUnder_c1_eq (k : Nat) (s1 : ByteArray) (s2 : ByteArray) (s3 : QF) : interchangeref6_isUnder_c1 (k + 1) s1 s2 s3 =
 cond (!(eqS s1 (bs []))) (
 (interchangeref6_kindOf k s3 s1).bind fun y0 =>
 cond (decide (0 ≤ y0)) (
 cond (decide (y0 < (s3.2.2.1.length : Int))) (
 cond (eqS ((((s3.2.2.1.getD y0.toNat ((bs []), ([], (0, (bs []))))).2).2).2) s2) (
 some true) (
 interchangeref6_isUnder_c1 k ((((s3.2.2.1.getD y0.toNat ((bs []), ([], (0, (bs []))))).2).2).2) s2 s3)) none) none) (
 some false) := by kernel_rfl
theorem interchangeref6_order_eq (k : Nat) (a : QF) (b : List QR) (c : Int) : interchangeref6_order (k + 1) a b c =
 cond (decide (0 ≤ c)) (
 cond (decide (c < (b.length : Int))) (
 cond (cond (cond (!(eqS a.2.2.2.1 (bs []))) (!((eqS ((b.getD c.toNat ((bs []), [])).1) a.2.2.2.1) == (c == 0))) false) true (cond (cond (!(eqS a.2.2.2.2.1 (bs []))) (eqS ((b.getD c.toNat ((bs []), [])).1) a.2.2.2.2.1) false) (c != (wi64 ((b.length : Int) - 1))) false)) (
 some 8) (
 (interchangeref6_kindOf k a ((b.getD c.toNat ((bs []), [])).1)).bind fun y0 =>
 cond (decide (0 ≤ y0)) (
 cond (decide (y0 < (a.2.2.1.length : Int))) (
 cond (!(eqS ((((a.2.2.1.getD y0.toNat ((bs []), ([], (0, (bs []))))).2).2).2) (bs []))) (
 interchangeref6_order_c9 k b c a ((b.getD c.toNat ((bs []), [])).1) (((a.2.2.1.getD y0.toNat ((bs []), ([], (0, (bs []))))).1), ((((a.2.2.1.getD y0.toNat ((bs []), ([], (0, (bs []))))).2).1), (((((a.2.2.1.getD y0.toNat ((bs []), ([], (0, (bs []))))).2).2).1), ((((a.2.2.1.getD y0.toNat ((bs []), ([], (0, (bs []))))).2).2).2)))) (-1) c 0) (
 cond (decide (0 ≤ (wi64 (c + 1)))) (
 cond (decide ((wi64 (c + 1)) ≤ (b.length : Int))) (
 interchangeref6_order_c25 k ((b.getD c.toNat ((bs []), [])).1) (((a.2.2.1.getD y0.toNat ((bs []), ([], (0, (bs []))))).1), ((((a.2.2.1.getD y0.toNat ((bs []), ([], (0, (bs []))))).2).1), (((((a.2.2.1.getD y0.toNat ((bs []), ([], (0, (bs []))))).2).2).1), ((((a.2.2.1.getD y0.toNat ((bs []), ([], (0, (bs []))))).2).2).2)))) 0 ((b.take (wi64 (c + 1)).toNat).drop 0) (((b.take (wi64 (c + 1)).toNat).drop 0).length : Int) 0) none) none)) none) none)) none) none := by kernel_rfl
theorem interchangeref6_order_c9_eq (k : Nat) (s1 : List QR) (s2 : Int) (s3 : QF) (s7 : ByteArray) (s8 : QK) (s10 : Int) (s62 : Int) (s63 : Int) : interchangeref6_order_c9 (k + 1) s1 s2 s3 s7 s8 s10 s62 s63 =
 cond (decide (s63 < s62)) (
 cond (decide (0 ≤ s63)) (
 cond (decide (s63 < (s1.length : Int))) (
 cond (eqS ((s1.getD s63.toNat ((bs []), [])).1) s8.2.2.2) (
 interchangeref6_order_c13 k s1 s2 s3 s7 s8 s63 s62 s63) (
 interchangeref6_order_c13 k s1 s2 s3 s7 s8 s10 s62 s63)) none) none) (
 cond (decide (s10 < 0)) (
 some 8) (
 cond (decide (0 ≤ (wi64 (s10 + 1)))) (
 cond (decide ((wi64 (s10 + 1)) ≤ s2)) (
 cond (decide (s2 ≤ (s1.length : Int))) (
 interchangeref6_order_c17 k s1 s2 s3 s7 s8 s10 ((s1.take s2.toNat).drop (wi64 (s10 + 1)).toNat) (((s1.take s2.toNat).drop (wi64 (s10 + 1)).toNat).length : Int) 0) none) none) none)) := by kernel_rfl
theorem interchangeref6_order_c13_eq (k : Nat) (s1 : List QR) (s2 : Int) (s3 : QF) (s7 : ByteArray) (s8 : QK) (s10 : Int) (s62 : Int) (s63 : Int) : interchangeref6_order_c13 (k + 1) s1 s2 s3 s7 s8 s10 s62 s63 =
 interchangeref6_order_c9 k s1 s2 s3 s7 s8 s10 s62 (wi64 (s63 + 1)) := by kernel_rfl
theorem interchangeref6_order_c17_eq (k : Nat) (s1 : List QR) (s2 : Int) (s3 : QF) (s7 : ByteArray) (s8 : QK) (s10 : Int) (s82 : List QR) (s83 : Int) (s84 : Int) : interchangeref6_order_c17 (k + 1) s1 s2 s3 s7 s8 s10 s82 s83 s84 =
 cond (decide (s84 < s83)) (
 cond (decide (0 ≤ s84)) (
 cond (decide (s84 < (s82.length : Int))) (
 (interchangeref6_isUnder k s3 ((s82.getD s84.toNat ((bs []), [])).1) s8.2.2.2).bind fun y1 =>
 cond (!y1) (
 some 8) (
 interchangeref6_order_c17 k s1 s2 s3 s7 s8 s10 s82 s83 (wi64 (s84 + 1)))) none) none) (
 cond (decide (0 ≤ s10)) (
 cond (decide (s10 ≤ (wi64 (s2 + 1)))) (
 cond (decide ((wi64 (s2 + 1)) ≤ (s1.length : Int))) (
 interchangeref6_order_c25 k s7 s8 0 ((s1.take (wi64 (s2 + 1)).toNat).drop s10.toNat) (((s1.take (wi64 (s2 + 1)).toNat).drop s10.toNat).length : Int) 0) none) none) none) := by kernel_rfl
theorem interchangeref6_order_c25_eq (k : Nat) (s7 : ByteArray) (s8 : QK) (s14 : Int) (s101 : List QR) (s102 : Int) (s103 : Int) : interchangeref6_order_c25 (k + 1) s7 s8 s14 s101 s102 s103 =
 cond (decide (s103 < s102)) (
 cond (decide (0 ≤ s103)) (
 cond (decide (s103 < (s101.length : Int))) (
 cond (eqS ((s101.getD s103.toNat ((bs []), [])).1) s7) (
 interchangeref6_order_c25 k s7 s8 (wi64 (s14 + 1)) s101 s102 (wi64 (s103 + 1))) (
 interchangeref6_order_c25 k s7 s8 s14 s101 s102 (wi64 (s103 + 1)))) none) none) (
 cond (cond (s8.2.2.1 != 0) (decide (s14 > s8.2.2.1)) false) (
 some 2) (
 some 0)) := by kernel_rfl
theorem interchangeref6_CheckOrder_eq (k : Nat) (a : QF) (b : List QR) : interchangeref6_CheckOrder (k + 1) a b =
 (interchangeref6_CheckFormat k a).bind fun y0 =>
 cond (y0 != 0) (
 some (0, y0)) (
 (interchangeref6_checkRows k a b).bind fun y1 =>
 cond (y1.2 != 0) (
 some y1) (
 interchangeref6_CheckOrder_c8 k b a (b.length : Int) 0)) := by kernel_rfl
theorem interchangeref6_CheckOrder_c8_eq (k : Nat) (s1 : List QR) (s2 : QF) (s27 : Int) (s28 : Int) : interchangeref6_CheckOrder_c8 (k + 1) s1 s2 s27 s28 =
 cond (decide (s28 < s27)) (
 (interchangeref6_order k s2 s1 s28).bind fun y2 =>
 cond (y2 != 0) (
 some (s28, y2)) (
 interchangeref6_CheckOrder_c8 k s1 s2 s27 (wi64 (s28 + 1)))) (
 cond ((!((!(eqS s2.2.2.2.2.1 (bs []))) && (!((s1.length : Int) == 0)))) || (decide (0 ≤ (wi64 ((s1.length : Int) - 1))))) (
 cond ((!((!(eqS s2.2.2.2.2.1 (bs []))) && (!((s1.length : Int) == 0)))) || (decide ((wi64 ((s1.length : Int) - 1)) < (s1.length : Int)))) (
 cond (cond (!(eqS s2.2.2.2.2.1 (bs []))) (cond ((s1.length : Int) == 0) true (!(eqS ((s1.getD (wi64 ((s1.length : Int) - 1)).toNat ((bs []), [])).1) s2.2.2.2.2.1))) false) (
 some ((s1.length : Int), 8)) (
 some (0, 0))) none) none) := by kernel_rfl
theorem kit_IsTagPart_eq (k : Nat) (a : ByteArray) : kit_IsTagPart (k + 1) a =
 (strings_Trim k a (bs [65, 66, 67, 68, 69, 70, 71, 72, 73, 74, 75, 76, 77, 78, 79, 80, 81, 82, 83, 84, 85, 86, 87, 88, 89, 90, 48, 49, 50, 51, 52, 53, 54, 55, 56, 57])).bind fun y0 =>
 some (eqS y0 (bs [])) := by kernel_rfl
theorem kit_InBytes_eq (k : Nat) (a : ByteArray) (b : Int) (c : Int) : kit_InBytes (k + 1) a b c =
 kit_InBytes_c2 k a b c (a.size : Int) 0 := by kernel_rfl
theorem kit_InBytes_c2_eq (k : Nat) (s0 : ByteArray) (s1 : Int) (s2 : Int) (s9 : Int) (s10 : Int) : kit_InBytes_c2 (k + 1) s0 s1 s2 s9 s10 =
 cond (decide (s10 < s9)) (
 cond (decide (0 ≤ s10)) (
 cond (decide (s10 < (s0.size : Int))) (
 cond ((!(!(decide ((bt s0 s10) < s1)))) || (decide (0 ≤ s10))) (
 cond ((!(!(decide ((bt s0 s10) < s1)))) || (decide (s10 < (s0.size : Int)))) (
 cond (cond (decide ((bt s0 s10) < s1)) true (decide ((bt s0 s10) > s2))) (
 some false) (
 kit_InBytes_c2 k s0 s1 s2 s9 (wi64 (s10 + 1)))) none) none) none) none) (
 some true) := by kernel_rfl
theorem flat_markFault_eq (k : Nat) (a : Int) : flat_markFault (k + 1) a =
 (cond (!(cond (decide (a < 32)) true (decide (a > 126)))) (kit_IsTagPart k (Utf8.encode a)) (some false)).bind fun y0 =>
 (cond (!(cond (cond (decide (a < 32)) true (decide (a > 126))) true y0)) (kit_InBytes k (Utf8.encode a) 97 122) (some false)).bind fun y1 =>
 some (cond (cond (cond (cond (cond (decide (a < 32)) true (decide (a > 126))) true y0) true y1) true (a == 45)) true (a == 46)) := by kernel_rfl
theorem flat_marksFault_eq (k : Nat) (a : QF) : flat_marksFault (k + 1) a =
 (cond (a.1 != 0) (flat_markFault k a.1) (some false)).bind fun y0 =>
 (cond (((a.1 != 0) && (!y0)) && (a.2.1 != 0)) (flat_markFault k a.2.1) (some false)).bind fun y1 =>
 cond (cond (a.1 != 0) (cond (cond y0 true (cond (a.2.1 != 0) y1 false)) true (a.1 == a.2.1)) false) (
 some 12) (
 cond (cond (a.1 == 0) (a.2.1 != 0) false) (
 some 3) (
 some 0)) := by kernel_rfl
theorem flat_kindFault_1_r_eq (k : Nat) (a : QK) (b : QK) : flat_kindFault_1_r (k + 1) a b =
 some (eqS a.1 b.1) := by kernel_rfl
theorem slices_IndexFunc_Lapi_RowKind_api_RowKind_of_flat_kindFault_1_eq (k : Nat) (a : List QK) (b : QK) : slices_IndexFunc_Lapi_RowKind_api_RowKind_of_flat_kindFault_1 (k + 1) a b =
 slices_IndexFunc_Lapi_RowKind_api_RowKind_of_flat_kindFault_1_c2 k a b (a.length : Int) 0 := by kernel_rfl
theorem slices_IndexFunc_Lapi_RowKind_api_RowKind_of_flat_kindFault_1_c2_eq (k : Nat) (s0 : List QK) (s1 : QK) (s7 : Int) (s8 : Int) : slices_IndexFunc_Lapi_RowKind_api_RowKind_of_flat_kindFault_1_c2 (k + 1) s0 s1 s7 s8 =
 cond (decide (s8 < s7)) (
 cond (decide (0 ≤ s8)) (
 cond (decide (s8 < (s0.length : Int))) (
 (flat_kindFault_1_r k (((s0.getD s8.toNat ((bs []), ([], (0, (bs []))))).1), ((((s0.getD s8.toNat ((bs []), ([], (0, (bs []))))).2).1), (((((s0.getD s8.toNat ((bs []), ([], (0, (bs []))))).2).2).1), ((((s0.getD s8.toNat ((bs []), ([], (0, (bs []))))).2).2).2)))) s1).bind fun y0 =>
 cond y0 (
 some s8) (
 slices_IndexFunc_Lapi_RowKind_api_RowKind_of_flat_kindFault_1_c2 k s0 s1 s7 (wi64 (s8 + 1)))) none) none) (
 some (-1)) := by kernel_rfl
theorem slices_ContainsFunc_Lapi_RowKind_api_RowKind_of_flat_kindFault_1_eq (k : Nat) (a : List QK) (b : QK) : slices_ContainsFunc_Lapi_RowKind_api_RowKind_of_flat_kindFault_1 (k + 1) a b =
 (slices_IndexFunc_Lapi_RowKind_api_RowKind_of_flat_kindFault_1 k a b).bind fun y0 =>
 some (decide (y0 ≥ 0)) := by kernel_rfl
theorem kit_IsName_eq (k : Nat) (a : ByteArray) : kit_IsName (k + 1) a =
 cond ((!(!(cond (decide ((a.size : Int) < 1)) true (decide ((a.size : Int) > 40))))) || true) (
 cond ((!(!(cond (decide ((a.size : Int) < 1)) true (decide ((a.size : Int) > 40))))) || (decide (0 < (a.size : Int)))) (
 cond ((!(!(cond (cond (decide ((a.size : Int) < 1)) true (decide ((a.size : Int) > 40))) true (decide ((bt a 0) < 97))))) || true) (
 cond ((!(!(cond (cond (decide ((a.size : Int) < 1)) true (decide ((a.size : Int) > 40))) true (decide ((bt a 0) < 97))))) || (decide (0 < (a.size : Int)))) (
 cond (cond (cond (cond (decide ((a.size : Int) < 1)) true (decide ((a.size : Int) > 40))) true (decide ((bt a 0) < 97))) true (decide ((bt a 0) > 122))) (
 some false) (
 (strings_Trim k a (bs [97, 98, 99, 100, 101, 102, 103, 104, 105, 106, 107, 108, 109, 110, 111, 112, 113, 114, 115, 116, 117, 118, 119, 120, 121, 122, 48, 49, 50, 51, 52, 53, 54, 55, 56, 57, 45])).bind fun y0 =>
 some (eqS y0 (bs [])))) none) none) none) none := by kernel_rfl
theorem flat_columnFault_1_r_eq (k : Nat) (a : QC) (b : QC) : flat_columnFault_1_r (k + 1) a b =
 some (eqS a.1 b.1) := by kernel_rfl
theorem slices_IndexFunc_Lapi_Column_api_Column_of_flat_columnFault_1_eq (k : Nat) (a : List QC) (b : QC) : slices_IndexFunc_Lapi_Column_api_Column_of_flat_columnFault_1 (k + 1) a b =
 slices_IndexFunc_Lapi_Column_api_Column_of_flat_columnFault_1_c2 k a b (a.length : Int) 0 := by kernel_rfl
theorem slices_IndexFunc_Lapi_Column_api_Column_of_flat_columnFault_1_c2_eq (k : Nat) (s0 : List QC) (s1 : QC) (s7 : Int) (s8 : Int) : slices_IndexFunc_Lapi_Column_api_Column_of_flat_columnFault_1_c2 (k + 1) s0 s1 s7 s8 =
 cond (decide (s8 < s7)) (
 cond (decide (0 ≤ s8)) (
 cond (decide (s8 < (s0.length : Int))) (
 (flat_columnFault_1_r k (((s0.getD s8.toNat ((bs []), (0, (0, (0, (0, (false, (0, false)))))))).1), ((((s0.getD s8.toNat ((bs []), (0, (0, (0, (0, (false, (0, false)))))))).2).1), (((((s0.getD s8.toNat ((bs []), (0, (0, (0, (0, (false, (0, false)))))))).2).2).1), ((((((s0.getD s8.toNat ((bs []), (0, (0, (0, (0, (false, (0, false)))))))).2).2).2).1), (((((((s0.getD s8.toNat ((bs []), (0, (0, (0, (0, (false, (0, false)))))))).2).2).2).2).1), ((((((((s0.getD s8.toNat ((bs []), (0, (0, (0, (0, (false, (0, false)))))))).2).2).2).2).2).1), (((((((((s0.getD s8.toNat ((bs []), (0, (0, (0, (0, (false, (0, false)))))))).2).2).2).2).2).2).1), ((((((((s0.getD s8.toNat ((bs []), (0, (0, (0, (0, (false, (0, false)))))))).2).2).2).2).2).2).2)))))))) s1).bind fun y0 =>
 cond y0 (
 some s8) (
 slices_IndexFunc_Lapi_Column_api_Column_of_flat_columnFault_1_c2 k s0 s1 s7 (wi64 (s8 + 1)))) none) none) (
 some (-1)) := by kernel_rfl
theorem slices_ContainsFunc_Lapi_Column_api_Column_of_flat_columnFault_1_eq (k : Nat) (a : List QC) (b : QC) : slices_ContainsFunc_Lapi_Column_api_Column_of_flat_columnFault_1 (k + 1) a b =
 (slices_IndexFunc_Lapi_Column_api_Column_of_flat_columnFault_1 k a b).bind fun y0 =>
 some (decide (y0 ≥ 0)) := by kernel_rfl
theorem kit_Outside_eq (k : Nat) (a : Int) (b : Int) (c : Int) : kit_Outside (k + 1) a b c =
 some (cond (decide (a < b)) true (decide (a > c))) := by kernel_rfl
theorem flat_formWidth_eq (k : Nat) (a : Int) : flat_formWidth (k + 1) a =
 cond (a == 1) (
 cond (a == 1) (
 some 8) (
 cond (a == 4) (
 some 10) (
 cond (a == 5) (
 some 7) (
 some 0)))) (
 cond (a == 3) (
 some 8) (
 cond (a == 4) (
 some 10) (
 cond (a == 5) (
 some 7) (
 some 0)))) := by kernel_rfl
theorem flat_idle_eq (k : Nat) (a : QF) (b : QC) : flat_idle (k + 1) a b =
 some (cond (cond (cond (b.2.1 == 2) true (b.2.2.2.1 == 0)) (cond (b.2.1 == 3) true (b.2.2.2.2.1 == 0)) false) (cond (cond (!(b.2.1 == 3)) (a.1 == 0) false) true (cond (!b.2.2.2.2.2.1) (b.2.2.2.2.2.2.1 == 0) false)) false) := by kernel_rfl
theorem flat_columnFault_eq (k : Nat) (a : QF) (b : QC) (c : List QC) : flat_columnFault (k + 1) a b c =
 (kit_IsName k b.1).bind fun y0 =>
 cond (!y0) (
 some 5) (
 (slices_ContainsFunc_Lapi_Column_api_Column_of_flat_columnFault_1 k c b).bind fun y1 =>
 cond y1 (
 some 7) (
 (kit_Outside k b.2.1 1 3).bind fun y2 =>
 cond y2 (
 some 4) (
 (kit_Outside k b.2.2.1 1 100).bind fun y3 =>
 cond y3 (
 some 1) (
 (cond (b.2.1 == 2) (kit_Outside k b.2.2.2.1 0 9) (some false)).bind fun y4 =>
 cond (cond (b.2.1 == 2) y4 false) (
 some 1) (
 (cond (b.2.1 == 3) (flat_formWidth k b.2.2.2.2.1) (some 0)).bind fun y5 =>
 cond (cond (b.2.1 == 3) (y5 == 0) false) (
 some 4) (
 (flat_idle k a b).bind fun y6 =>
 cond (!y6) (
 some 3) (
 cond (a.1 != 0) (
 some 0) (
 cond (cond (cond (!(b.2.1 == 3)) (b.2.2.2.2.2.2.1 != 32) false) (!(cond (cond (b.2.1 == 2) (b.2.2.2.2.2.2.1 == 48) false) b.2.2.2.2.2.1 false)) false) (
 some 3) (
 (cond (b.2.1 == 3) (flat_formWidth k b.2.2.2.2.1) (some 0)).bind fun y7 =>
 cond (cond (b.2.1 == 3) (b.2.2.1 != y7) false) (
 some 12) (
 some 0)))))))))) := by kernel_rfl
theorem flat_kindFault_2_r_eq (k : Nat) (a : QK) (b : QK) : flat_kindFault_2_r (k + 1) a b =
 some (eqS a.1 b.2.2.2) := by kernel_rfl
theorem slices_IndexFunc_Lapi_RowKind_api_RowKind_of_flat_kindFault_2_eq (k : Nat) (a : List QK) (b : QK) : slices_IndexFunc_Lapi_RowKind_api_RowKind_of_flat_kindFault_2 (k + 1) a b =
 slices_IndexFunc_Lapi_RowKind_api_RowKind_of_flat_kindFault_2_c2 k a b (a.length : Int) 0 := by kernel_rfl
theorem slices_IndexFunc_Lapi_RowKind_api_RowKind_of_flat_kindFault_2_c2_eq (k : Nat) (s0 : List QK) (s1 : QK) (s7 : Int) (s8 : Int) : slices_IndexFunc_Lapi_RowKind_api_RowKind_of_flat_kindFault_2_c2 (k + 1) s0 s1 s7 s8 =
 cond (decide (s8 < s7)) (
 cond (decide (0 ≤ s8)) (
 cond (decide (s8 < (s0.length : Int))) (
 (flat_kindFault_2_r k (((s0.getD s8.toNat ((bs []), ([], (0, (bs []))))).1), ((((s0.getD s8.toNat ((bs []), ([], (0, (bs []))))).2).1), (((((s0.getD s8.toNat ((bs []), ([], (0, (bs []))))).2).2).1), ((((s0.getD s8.toNat ((bs []), ([], (0, (bs []))))).2).2).2)))) s1).bind fun y0 =>
 cond y0 (
 some s8) (
 slices_IndexFunc_Lapi_RowKind_api_RowKind_of_flat_kindFault_2_c2 k s0 s1 s7 (wi64 (s8 + 1)))) none) none) (
 some (-1)) := by kernel_rfl
theorem slices_ContainsFunc_Lapi_RowKind_api_RowKind_of_flat_kindFault_2_eq (k : Nat) (a : List QK) (b : QK) : slices_ContainsFunc_Lapi_RowKind_api_RowKind_of_flat_kindFault_2 (k + 1) a b =
 (slices_IndexFunc_Lapi_RowKind_api_RowKind_of_flat_kindFault_2 k a b).bind fun y0 =>
 some (decide (y0 ≥ 0)) := by kernel_rfl
theorem flat_kindFault_eq (k : Nat) (a : QF) (b : Int) : flat_kindFault (k + 1) a b =
 cond (decide (0 ≤ b)) (
 cond (decide (b < (a.2.2.1.length : Int))) (
 (cond (!(cond (decide ((((a.2.2.1.getD b.toNat ((bs []), ([], (0, (bs []))))).1).size : Int) < 1)) true (decide ((((a.2.2.1.getD b.toNat ((bs []), ([], (0, (bs []))))).1).size : Int) > 6)))) (kit_IsTagPart k ((a.2.2.1.getD b.toNat ((bs []), ([], (0, (bs []))))).1)) (some false)).bind fun y0 =>
 cond (cond (cond (decide ((((a.2.2.1.getD b.toNat ((bs []), ([], (0, (bs []))))).1).size : Int) < 1)) true (decide ((((a.2.2.1.getD b.toNat ((bs []), ([], (0, (bs []))))).1).size : Int) > 6))) true (!y0)) (
 some 3) (
 cond (decide (0 ≤ b)) (
 cond (decide (b ≤ (a.2.2.1.length : Int))) (
 (slices_ContainsFunc_Lapi_RowKind_api_RowKind_of_flat_kindFault_1 k (a.2.2.1.take b.toNat) (((a.2.2.1.getD b.toNat ((bs []), ([], (0, (bs []))))).1), ((((a.2.2.1.getD b.toNat ((bs []), ([], (0, (bs []))))).2).1), (((((a.2.2.1.getD b.toNat ((bs []), ([], (0, (bs []))))).2).2).1), ((((a.2.2.1.getD b.toNat ((bs []), ([], (0, (bs []))))).2).2).2))))).bind fun y1 =>
 cond y1 (
 some 7) (
 cond ((!(a.1 == 0)) || true) (
 cond ((!(a.1 == 0)) || (decide (0 < (a.2.2.1.length : Int)))) (
 cond (cond (a.1 == 0) ((((a.2.2.1.getD b.toNat ((bs []), ([], (0, (bs []))))).1).size : Int) != (((a.2.2.1.getD 0 ((bs []), ([], (0, (bs []))))).1).size : Int)) false) (
 some 3) (
 cond (decide (((((a.2.2.1.getD b.toNat ((bs []), ([], (0, (bs []))))).2).1).length : Int) > 50)) (
 some 2) (
 flat_kindFault_c12 k b a (((a.2.2.1.getD b.toNat ((bs []), ([], (0, (bs []))))).1), ((((a.2.2.1.getD b.toNat ((bs []), ([], (0, (bs []))))).2).1), (((((a.2.2.1.getD b.toNat ((bs []), ([], (0, (bs []))))).2).2).1), ((((a.2.2.1.getD b.toNat ((bs []), ([], (0, (bs []))))).2).2).2)))) (((a.2.2.1.getD b.toNat ((bs []), ([], (0, (bs []))))).2).1) ((((a.2.2.1.getD b.toNat ((bs []), ([], (0, (bs []))))).2).1).length : Int) 0))) none) none)) none) none)) none) none := by kernel_rfl
theorem flat_kindFault_c12_eq (k : Nat) (s1 : Int) (s2 : QF) (s5 : QK) (s62 : List QC) (s63 : Int) (s64 : Int) : flat_kindFault_c12 (k + 1) s1 s2 s5 s62 s63 s64 =
 cond (decide (s64 < s63)) (
 cond (decide (0 ≤ s64)) (
 cond (decide (s64 < (s62.length : Int))) (
 cond (decide (0 ≤ s64)) (
 cond (decide (s64 ≤ (s5.2.1.length : Int))) (
 (flat_columnFault k s2 (((s62.getD s64.toNat ((bs []), (0, (0, (0, (0, (false, (0, false)))))))).1), ((((s62.getD s64.toNat ((bs []), (0, (0, (0, (0, (false, (0, false)))))))).2).1), (((((s62.getD s64.toNat ((bs []), (0, (0, (0, (0, (false, (0, false)))))))).2).2).1), ((((((s62.getD s64.toNat ((bs []), (0, (0, (0, (0, (false, (0, false)))))))).2).2).2).1), (((((((s62.getD s64.toNat ((bs []), (0, (0, (0, (0, (false, (0, false)))))))).2).2).2).2).1), ((((((((s62.getD s64.toNat ((bs []), (0, (0, (0, (0, (false, (0, false)))))))).2).2).2).2).2).1), (((((((((s62.getD s64.toNat ((bs []), (0, (0, (0, (0, (false, (0, false)))))))).2).2).2).2).2).2).1), ((((((((s62.getD s64.toNat ((bs []), (0, (0, (0, (0, (false, (0, false)))))))).2).2).2).2).2).2).2)))))))) (s5.2.1.take s64.toNat)).bind fun y2 =>
 cond (y2 != 0) (
 some y2) (
 flat_kindFault_c12 k s1 s2 s5 s62 s63 (wi64 (s64 + 1)))) none) none) none) none) (
 (kit_Outside k s5.2.2.1 0 2000).bind fun y3 =>
 cond y3 (
 some 1) (
 cond ((!(!(eqS s5.2.2.2 (bs [])))) || (decide (0 ≤ s1))) (
 cond ((!(!(eqS s5.2.2.2 (bs [])))) || (decide (s1 ≤ (s2.2.2.1.length : Int)))) (
 (cond (!(eqS s5.2.2.2 (bs []))) (slices_ContainsFunc_Lapi_RowKind_api_RowKind_of_flat_kindFault_2 k (s2.2.2.1.take s1.toNat) s5) (some false)).bind fun y4 =>
 cond (cond (!(eqS s5.2.2.2 (bs []))) (!y4) false) (
 some 5) (
 some 0)) none) none)) := by kernel_rfl
theorem flat_kindAt_1_r_eq (k : Nat) (a : QK) (b : ByteArray) : flat_kindAt_1_r (k + 1) a b =
 some (eqS a.1 b) := by kernel_rfl
theorem slices_IndexFunc_Lapi_RowKind_api_RowKind_of_flat_kindAt_1_eq (k : Nat) (a : List QK) (b : ByteArray) : slices_IndexFunc_Lapi_RowKind_api_RowKind_of_flat_kindAt_1 (k + 1) a b =
 slices_IndexFunc_Lapi_RowKind_api_RowKind_of_flat_kindAt_1_c2 k a b (a.length : Int) 0 := by kernel_rfl
theorem slices_IndexFunc_Lapi_RowKind_api_RowKind_of_flat_kindAt_1_c2_eq (k : Nat) (s0 : List QK) (s1 : ByteArray) (s7 : Int) (s8 : Int) : slices_IndexFunc_Lapi_RowKind_api_RowKind_of_flat_kindAt_1_c2 (k + 1) s0 s1 s7 s8 =
 cond (decide (s8 < s7)) (
 cond (decide (0 ≤ s8)) (
 cond (decide (s8 < (s0.length : Int))) (
 (flat_kindAt_1_r k (((s0.getD s8.toNat ((bs []), ([], (0, (bs []))))).1), ((((s0.getD s8.toNat ((bs []), ([], (0, (bs []))))).2).1), (((((s0.getD s8.toNat ((bs []), ([], (0, (bs []))))).2).2).1), ((((s0.getD s8.toNat ((bs []), ([], (0, (bs []))))).2).2).2)))) s1).bind fun y0 =>
 cond y0 (
 some s8) (
 slices_IndexFunc_Lapi_RowKind_api_RowKind_of_flat_kindAt_1_c2 k s0 s1 s7 (wi64 (s8 + 1)))) none) none) (
 some (-1)) := by kernel_rfl
theorem flat_kindAt_eq (k : Nat) (a : QF) (b : ByteArray) : flat_kindAt (k + 1) a b =
 (slices_IndexFunc_Lapi_RowKind_api_RowKind_of_flat_kindAt_1 k a.2.2.1 b).bind fun y0 =>
 cond (decide (y0 < 0)) (
 some (((bs []), ([], (0, (bs [])))), false)) (
 cond (decide (0 ≤ y0)) (
 cond (decide (y0 < (a.2.2.1.length : Int))) (
 some ((((a.2.2.1.getD y0.toNat ((bs []), ([], (0, (bs []))))).1), ((((a.2.2.1.getD y0.toNat ((bs []), ([], (0, (bs []))))).2).1), (((((a.2.2.1.getD y0.toNat ((bs []), ([], (0, (bs []))))).2).2).1), ((((a.2.2.1.getD y0.toNat ((bs []), ([], (0, (bs []))))).2).2).2)))), true)) none) none) := by kernel_rfl
theorem flat_columnAt_1_r_eq (k : Nat) (a : QC) (b : ByteArray) : flat_columnAt_1_r (k + 1) a b =
 some (eqS a.1 b) := by kernel_rfl
theorem slices_IndexFunc_Lapi_Column_api_Column_of_flat_columnAt_1_eq (k : Nat) (a : List QC) (b : ByteArray) : slices_IndexFunc_Lapi_Column_api_Column_of_flat_columnAt_1 (k + 1) a b =
 slices_IndexFunc_Lapi_Column_api_Column_of_flat_columnAt_1_c2 k a b (a.length : Int) 0 := by kernel_rfl
theorem slices_IndexFunc_Lapi_Column_api_Column_of_flat_columnAt_1_c2_eq (k : Nat) (s0 : List QC) (s1 : ByteArray) (s7 : Int) (s8 : Int) : slices_IndexFunc_Lapi_Column_api_Column_of_flat_columnAt_1_c2 (k + 1) s0 s1 s7 s8 =
 cond (decide (s8 < s7)) (
 cond (decide (0 ≤ s8)) (
 cond (decide (s8 < (s0.length : Int))) (
 (flat_columnAt_1_r k (((s0.getD s8.toNat ((bs []), (0, (0, (0, (0, (false, (0, false)))))))).1), ((((s0.getD s8.toNat ((bs []), (0, (0, (0, (0, (false, (0, false)))))))).2).1), (((((s0.getD s8.toNat ((bs []), (0, (0, (0, (0, (false, (0, false)))))))).2).2).1), ((((((s0.getD s8.toNat ((bs []), (0, (0, (0, (0, (false, (0, false)))))))).2).2).2).1), (((((((s0.getD s8.toNat ((bs []), (0, (0, (0, (0, (false, (0, false)))))))).2).2).2).2).1), ((((((((s0.getD s8.toNat ((bs []), (0, (0, (0, (0, (false, (0, false)))))))).2).2).2).2).2).1), (((((((((s0.getD s8.toNat ((bs []), (0, (0, (0, (0, (false, (0, false)))))))).2).2).2).2).2).2).1), ((((((((s0.getD s8.toNat ((bs []), (0, (0, (0, (0, (false, (0, false)))))))).2).2).2).2).2).2).2)))))))) s1).bind fun y0 =>
 cond y0 (
 some s8) (
 slices_IndexFunc_Lapi_Column_api_Column_of_flat_columnAt_1_c2 k s0 s1 s7 (wi64 (s8 + 1)))) none) none) (
 some (-1)) := by kernel_rfl
theorem flat_columnAt_eq (k : Nat) (a : QK) (b : ByteArray) : flat_columnAt (k + 1) a b =
 (slices_IndexFunc_Lapi_Column_api_Column_of_flat_columnAt_1 k a.2.1 b).bind fun y0 =>
 some y0 := by kernel_rfl
theorem flat_endsFault_eq (k : Nat) (a : QF) : flat_endsFault (k + 1) a =
 flat_endsFault_c2 k a [a.2.2.2.1, a.2.2.2.2.1] 2 0 := by kernel_rfl
theorem flat_endsFault_c2_eq (k : Nat) (s1 : QF) (s16 : List ByteArray) (s17 : Int) (s18 : Int) : flat_endsFault_c2 (k + 1) s1 s16 s17 s18 =
 cond (decide (s18 < s17)) (
 cond (decide (0 ≤ s18)) (
 cond (decide (s18 < (s16.length : Int))) (
 (flat_kindAt k s1 (s16.getD s18.toNat (bs []))).bind fun y0 =>
 cond (cond (!(eqS (s16.getD s18.toNat (bs [])) (bs []))) (!y0.2) false) (
 some 5) (
 flat_endsFault_c2 k s1 s16 s17 (wi64 (s18 + 1)))) none) none) (
 cond (cond (eqS s1.2.2.2.1 s1.2.2.2.2.1) (!(eqS s1.2.2.2.1 (bs []))) false) (
 some 12) (
 cond (cond (eqS s1.2.2.2.2.1 (bs [])) (cond (!(eqS s1.2.2.2.2.2.1 (bs []))) true (!(eqS s1.2.2.2.2.2.2 (bs [])))) false) (
 some 3) (
 (flat_kindAt k s1 s1.2.2.2.2.1).bind fun y1 =>
 flat_endsFault_c14 k s1 y1.1 [s1.2.2.2.2.2.1, s1.2.2.2.2.2.2] 2 0))) := by kernel_rfl
theorem flat_endsFault_c14_eq (k : Nat) (s1 : QF) (s7 : QK) (s69 : List ByteArray) (s70 : Int) (s71 : Int) : flat_endsFault_c14 (k + 1) s1 s7 s69 s70 s71 =
 cond (decide (s71 < s70)) (
 cond (decide (0 ≤ s71)) (
 cond (decide (s71 < (s69.length : Int))) (
 cond (eqS (s69.getD s71.toNat (bs [])) (bs [])) (
 flat_endsFault_c14 k s1 s7 s69 s70 (wi64 (s71 + 1))) (
 (flat_columnAt k s7 (s69.getD s71.toNat (bs []))).bind fun y2 =>
 cond ((!(!(decide (y2 < 0)))) || (decide (0 ≤ y2))) (
 cond ((!(!(decide (y2 < 0)))) || (decide (y2 < (s7.2.1.length : Int)))) (
 cond ((!((!(cond (decide (y2 < 0)) true ((((s7.2.1.getD y2.toNat ((bs []), (0, (0, (0, (0, (false, (0, false)))))))).2).1) != 2))) && (s71 == 0))) || (decide (0 ≤ y2))) (
 cond ((!((!(cond (decide (y2 < 0)) true ((((s7.2.1.getD y2.toNat ((bs []), (0, (0, (0, (0, (false, (0, false)))))))).2).1) != 2))) && (s71 == 0))) || (decide (y2 < (s7.2.1.length : Int)))) (
 cond (cond (cond (decide (y2 < 0)) true ((((s7.2.1.getD y2.toNat ((bs []), (0, (0, (0, (0, (false, (0, false)))))))).2).1) != 2)) true (cond (s71 == 0) ((((((s7.2.1.getD y2.toNat ((bs []), (0, (0, (0, (0, (false, (0, false)))))))).2).2).2).1) != 0) false)) (
 some 5) (
 flat_endsFault_c14 k s1 s7 s69 s70 (wi64 (s71 + 1)))) none) none) none) none)) none) none) (
 cond (cond (eqS s1.2.2.2.2.2.1 s1.2.2.2.2.2.2) (!(eqS s1.2.2.2.2.2.1 (bs []))) false) (
 some 12) (
 some 0)) := by kernel_rfl
theorem flat_CheckFormat_eq (k : Nat) (a : QF) : flat_CheckFormat (k + 1) a =
 (flat_marksFault k a).bind fun y0 =>
 cond (y0 != 0) (
 some y0) (
 cond ((a.2.2.1.length : Int) == 0) (
 some 9) (
 cond (decide ((a.2.2.1.length : Int) > 30)) (
 some 2) (
 flat_CheckFormat_c9 k a (a.2.2.1.length : Int) 0))) := by kernel_rfl
theorem flat_CheckFormat_c9_eq (k : Nat) (s1 : QF) (s21 : Int) (s22 : Int) : flat_CheckFormat_c9 (k + 1) s1 s21 s22 =
 cond (decide (s22 < s21)) (
 (flat_kindFault k s1 s22).bind fun y1 =>
 cond (y1 != 0) (
 some y1) (
 flat_CheckFormat_c9 k s1 s21 (wi64 (s22 + 1)))) (
 (flat_endsFault k s1).bind fun y2 =>
 some y2) := by kernel_rfl
theorem kit_IsDigits_eq (k : Nat) (a : ByteArray) : kit_IsDigits (k + 1) a =
 (cond (!(eqS a (bs []))) (kit_InBytes k a 48 57) (some false)).bind fun y0 =>
 some (cond (!(eqS a (bs []))) y0 false) := by kernel_rfl
theorem amount_isWhole_eq (k : Nat) (a : ByteArray) : amount_isWhole (k + 1) a =
 (kit_IsDigits k a).bind fun y0 =>
 cond ((!(y0 && (!((a.size : Int) == 1)))) || true) (
 cond ((!(y0 && (!((a.size : Int) == 1)))) || (decide (0 < (a.size : Int)))) (
 some (cond y0 (cond ((a.size : Int) == 1) true ((bt a 0) != 48)) false)) none) none := by kernel_rfl
theorem whole_trimmed_eq (k : Nat) (a : List Int) : whole_trimmed (k + 1) a =
 whole_trimmed_c1 k a := by kernel_rfl
theorem whole_trimmed_c1_eq (k : Nat) (s0 : List Int) : whole_trimmed_c1 (k + 1) s0 =
 cond ((!(decide ((s0.length : Int) > 0))) || (decide (0 ≤ (wi64 ((s0.length : Int) - 1))))) (
 cond ((!(decide ((s0.length : Int) > 0))) || (decide ((wi64 ((s0.length : Int) - 1)) < (s0.length : Int)))) (
 cond (cond (decide ((s0.length : Int) > 0)) ((s0.getD (wi64 ((s0.length : Int) - 1)).toNat 0) == 0) false) (
 cond (decide (0 ≤ (wi64 ((s0.length : Int) - 1)))) (
 cond (decide ((wi64 ((s0.length : Int) - 1)) ≤ (s0.length : Int))) (
 whole_trimmed_c1 k (s0.take (wi64 ((s0.length : Int) - 1)).toNat)) none) none) (
 some s0)) none) none := by kernel_rfl
theorem whole_made_eq (k : Nat) (a : Bool) (b : List Int) : whole_made (k + 1) a b =
 (whole_trimmed k b).bind fun y0 =>
 some ((cond a (decide ((y0.length : Int) > 0)) false), y0) := by kernel_rfl
theorem whole_Of_eq (k : Nat) (a : Int) : whole_Of (k + 1) a =
 cond (decide (a < 0)) (
 (whole_made k (decide (a < 0)) [(wu32 (wu64 (0 - (wu64 a)))), (wu32 (shrI .u64 (wu64 (0 - (wu64 a))) 32))]).bind fun y0 =>
 some y0) (
 (whole_made k (decide (a < 0)) [(wu32 (wu64 a)), (wu32 (shrI .u64 (wu64 a) 32))]).bind fun y1 =>
 some y1) := by kernel_rfl
theorem whole_Int_Times_eq (k : Nat) (a : Bool × List Int) (b : Bool × List Int) : whole_Int_Times (k + 1) a b =
 cond (decide (0 ≤ (wi64 ((a.2.length : Int) + (b.2.length : Int))))) (
 cond (decide ((wi64 ((a.2.length : Int) + (b.2.length : Int))).toNat ≤ 35184372088832)) (
 whole_Int_Times_c3 k a b (false, []) (List.replicate (wi64 ((a.2.length : Int) + (b.2.length : Int))).toNat 0) a.2 (a.2.length : Int) 0) none) none := by kernel_rfl
theorem whole_Int_Times_c3_eq (k : Nat) (s2 : Bool × List Int) (s3 : Bool × List Int) (s4 : Bool × List Int) (s5 : List Int) (s20 : List Int) (s21 : Int) (s22 : Int) : whole_Int_Times_c3 (k + 1) s2 s3 s4 s5 s20 s21 s22 =
 cond (decide (s22 < s21)) (
 cond (decide (0 ≤ s22)) (
 cond (decide (s22 < (s20.length : Int))) (
 whole_Int_Times_c7 k s2 s3 s4 s5 s22 (s20.getD s22.toNat 0) 0 s20 s21 s22 s3.2 (s3.2.length : Int) 0) none) none) (
 (whole_made k (!(s2.1 == s3.1)) s5).bind fun y0 =>
 some y0) := by kernel_rfl
theorem whole_Int_Times_c7_eq (k : Nat) (s2 : Bool × List Int) (s3 : Bool × List Int) (s4 : Bool × List Int) (s5 : List Int) (s6 : Int) (s7 : Int) (s8 : Int) (s20 : List Int) (s21 : Int) (s22 : Int) (s28 : List Int) (s29 : Int) (s30 : Int) : whole_Int_Times_c7 (k + 1) s2 s3 s4 s5 s6 s7 s8 s20 s21 s22 s28 s29 s30 =
 cond (decide (s30 < s29)) (
 cond (decide (0 ≤ s30)) (
 cond (decide (s30 < (s28.length : Int))) (
 cond (decide (0 ≤ (wi64 (s6 + s30)))) (
 cond (decide ((wi64 (s6 + s30)) < (s5.length : Int))) (
 cond (decide (0 ≤ (wi64 (s6 + s30)))) (
 cond (decide ((wi64 (s6 + s30)) < (s5.length : Int))) (
 whole_Int_Times_c7 k s2 s3 s4 (s5.set (wi64 (s6 + s30)).toNat (wu32 (wu64 (s8 + (wu64 ((wu64 (s5.getD (wi64 (s6 + s30)).toNat 0)) + (wu64 ((wu64 s7) * (wu64 (s28.getD s30.toNat 0)))))))))) s6 s7 (shrI .u64 (wu64 (s8 + (wu64 ((wu64 (s5.getD (wi64 (s6 + s30)).toNat 0)) + (wu64 ((wu64 s7) * (wu64 (s28.getD s30.toNat 0)))))))) 32) s20 s21 s22 s28 s29 (wi64 (s30 + 1))) none) none) none) none) none) none) (
 cond (decide (0 ≤ (wi64 (s6 + (s3.2.length : Int))))) (
 cond (decide ((wi64 (s6 + (s3.2.length : Int))) < (s5.length : Int))) (
 whole_Int_Times_c3 k s2 s3 s4 (s5.set (wi64 (s6 + (s3.2.length : Int))).toNat (wu32 s8)) s20 s21 (wi64 (s22 + 1))) none) none) := by kernel_rfl
theorem whole_sum_eq (k : Nat) (a : List Int) (b : List Int) : whole_sum (k + 1) a b =
 cond (decide ((a.length : Int) < (b.length : Int))) (
 whole_sum_c3 k b a) (
 whole_sum_c3 k a b) := by kernel_rfl
theorem whole_sum_c3_eq (k : Nat) (s0 : List Int) (s1 : List Int) : whole_sum_c3 (k + 1) s0 s1 =
 cond (decide (0 ≤ (wi64 ((s0.length : Int) + 1)))) (
 cond (decide ((wi64 ((s0.length : Int) + 1)).toNat ≤ 35184372088832)) (
 whole_sum_c6 k s1 (List.replicate 0 0) 0 s0 (s0.length : Int) 0) none) none := by kernel_rfl
theorem whole_sum_c6_eq (k : Nat) (s1 : List Int) (s5 : List Int) (s6 : Int) (s20 : List Int) (s21 : Int) (s22 : Int) : whole_sum_c6 (k + 1) s1 s5 s6 s20 s21 s22 =
 cond (decide (s22 < s21)) (
 cond (decide (0 ≤ s22)) (
 cond (decide (s22 < (s20.length : Int))) (
 cond (decide (s22 < (s1.length : Int))) (
 cond (decide (0 ≤ s22)) (
 cond (decide (s22 < (s1.length : Int))) (
 cond (decide (s5.length + 1 < 35184372088832)) (
 whole_sum_c6 k s1 (s5 ++ [(wu32 (wu64 ((wu64 (s6 + (wu64 (s20.getD s22.toNat 0)))) + (wu64 (s1.getD s22.toNat 0)))))]) (shrI .u64 (wu64 ((wu64 (s6 + (wu64 (s20.getD s22.toNat 0)))) + (wu64 (s1.getD s22.toNat 0)))) 32) s20 s21 (wi64 (s22 + 1))) none) none) none) (
 cond (decide (s5.length + 1 < 35184372088832)) (
 whole_sum_c6 k s1 (s5 ++ [(wu32 (wu64 (s6 + (wu64 (s20.getD s22.toNat 0)))))]) (shrI .u64 (wu64 (s6 + (wu64 (s20.getD s22.toNat 0)))) 32) s20 s21 (wi64 (s22 + 1))) none)) none) none) (
 cond (decide (s5.length + 1 < 35184372088832)) (
 some (s5 ++ [(wu32 s6)])) none) := by kernel_rfl
theorem whole_compare_eq (k : Nat) (a : List Int) (b : List Int) : whole_compare (k + 1) a b =
 cond ((a.length : Int) != (b.length : Int)) (
 some (wi64 ((a.length : Int) - (b.length : Int)))) (
 whole_compare_c4 k a b (wi64 ((a.length : Int) - 1))) := by kernel_rfl
theorem whole_compare_c4_eq (k : Nat) (s0 : List Int) (s1 : List Int) (s5 : Int) : whole_compare_c4 (k + 1) s0 s1 s5 =
 cond (decide (s5 ≥ 0)) (
 cond (decide (0 ≤ s5)) (
 cond (decide (s5 < (s0.length : Int))) (
 cond (decide (0 ≤ s5)) (
 cond (decide (s5 < (s1.length : Int))) (
 cond ((s0.getD s5.toNat 0) != (s1.getD s5.toNat 0)) (
 cond (decide (0 ≤ s5)) (
 cond (decide (s5 < (s0.length : Int))) (
 cond (decide (0 ≤ s5)) (
 cond (decide (s5 < (s1.length : Int))) (
 cond (decide ((s0.getD s5.toNat 0) < (s1.getD s5.toNat 0))) (
 some (-1)) (
 some 1)) none) none) none) none) (
 whole_compare_c4 k s0 s1 (wi64 (s5 - 1)))) none) none) none) none) (
 some 0) := by kernel_rfl
theorem whole_less_eq (k : Nat) (a : List Int) (b : List Int) : whole_less (k + 1) a b =
 cond (decide (0 ≤ (a.length : Int))) (
 cond (decide ((a.length : Int).toNat ≤ 35184372088832)) (
 whole_less_c4 k b (List.replicate 0 0) 0 a (a.length : Int) 0) none) none := by kernel_rfl
theorem whole_less_c4_eq (k : Nat) (s1 : List Int) (s5 : List Int) (s6 : Int) (s13 : List Int) (s14 : Int) (s15 : Int) : whole_less_c4 (k + 1) s1 s5 s6 s13 s14 s15 =
 cond (decide (s15 < s14)) (
 cond (decide (0 ≤ s15)) (
 cond (decide (s15 < (s13.length : Int))) (
 cond (decide (s15 < (s1.length : Int))) (
 cond (decide (0 ≤ s15)) (
 cond (decide (s15 < (s1.length : Int))) (
 cond (decide (s5.length + 1 < 35184372088832)) (
 whole_less_c4 k s1 (s5 ++ [(wu32 (wu64 ((wu64 ((wu64 (s13.getD s15.toNat 0)) - s6)) - (wu64 (s1.getD s15.toNat 0)))))]) (bitsI .and .u64 (shrI .u64 (wu64 ((wu64 ((wu64 (s13.getD s15.toNat 0)) - s6)) - (wu64 (s1.getD s15.toNat 0)))) 32) 1) s13 s14 (wi64 (s15 + 1))) none) none) none) (
 cond (decide (s5.length + 1 < 35184372088832)) (
 whole_less_c4 k s1 (s5 ++ [(wu32 (wu64 ((wu64 (s13.getD s15.toNat 0)) - s6)))]) (bitsI .and .u64 (shrI .u64 (wu64 ((wu64 (s13.getD s15.toNat 0)) - s6)) 32) 1) s13 s14 (wi64 (s15 + 1))) none)) none) none) (
 (whole_trimmed k s5).bind fun y0 =>
 some y0) := by kernel_rfl
theorem whole_Int_Plus_eq (k : Nat) (a : Bool × List Int) (b : Bool × List Int) : whole_Int_Plus (k + 1) a b =
 cond (a.1 == b.1) (
 (whole_sum k a.2 b.2).bind fun y0 =>
 (whole_made k a.1 y0).bind fun y1 =>
 some y1) (
 (whole_compare k a.2 b.2).bind fun y2 =>
 cond (decide (y2 ≥ 0)) (
 (whole_less k a.2 b.2).bind fun y3 =>
 (whole_made k a.1 y3).bind fun y4 =>
 some y4) (
 (whole_less k b.2 a.2).bind fun y5 =>
 (whole_made k b.1 y5).bind fun y6 =>
 some y6)) := by kernel_rfl
theorem whole_Int_Sign_eq (k : Nat) (a : Bool × List Int) : whole_Int_Sign (k + 1) a =
 cond a.1 (
 some (-1)) (
 cond ((a.2.length : Int) == 0) (
 some 0) (
 some 1)) := by kernel_rfl
theorem whole_Int_Minus_eq (k : Nat) (a : Bool × List Int) : whole_Int_Minus (k + 1) a =
 (whole_made k (!a.1) a.2).bind fun y0 =>
 some y0 := by kernel_rfl
theorem whole_Int_Int_eq (k : Nat) (a : Bool × List Int) (b : Int) : whole_Int_Int (k + 1) a b =
 cond (decide ((a.2.length : Int) > 2)) (
 some (0, false)) (
 whole_Int_Int_c5 k b a 0 a.2 (a.2.length : Int) 0) := by kernel_rfl
theorem whole_Int_Int_c5_eq (k : Nat) (s1 : Int) (s2 : Bool × List Int) (s6 : Int) (s14 : List Int) (s15 : Int) (s16 : Int) : whole_Int_Int_c5 (k + 1) s1 s2 s6 s14 s15 s16 =
 cond (decide (s16 < s15)) (
 cond (decide (0 ≤ s16)) (
 cond (decide (s16 < (s14.length : Int))) (
 cond (decide (0 ≤ (wi64 (32 * s16)))) (
 whole_Int_Int_c5 k s1 s2 (bitsI .or .u64 s6 (shlI .u64 (wu64 (s14.getD s16.toNat 0)) (wi64 (32 * s16)))) s14 s15 (wi64 (s16 + 1))) none) none) none) (
 cond (decide (s6 > (wu64 s1))) (
 some (0, false)) (
 cond s2.1 (
 some ((wi64 (0 - (wi64 s6))), true)) (
 some ((wi64 s6), true)))) := by kernel_rfl
theorem amount_Made_eq (k : Nat) (a : Bool × List Int) (b : Int) : amount_Made (k + 1) a b =
 (whole_Int_Int k a 1000000000000000).bind fun y0 =>
 cond (!y0.2) (
 some ((0, 0), 1)) (
 some ((y0.1, b), 0)) := by kernel_rfl
theorem amount_read_eq (k : Nat) (a : Bool) (b : ByteArray) (c : ByteArray) : amount_read (k + 1) a b c =
 (whole_Of k 0).bind fun y0 =>
 cond (decide (b.size + c.size ≤ 9223372036854775807)) (
 amount_read_c3 k a b c (0, 0) y0 ((b ++ c).size : Int) 0) none := by kernel_rfl
theorem amount_read_c3_eq (k : Nat) (s0 : Bool) (s1 : ByteArray) (s2 : ByteArray) (s6 : Int × Int) (s8 : Bool × List Int) (s14 : Int) (s15 : Int) : amount_read_c3 (k + 1) s0 s1 s2 s6 s8 s14 s15 =
 cond (decide (s15 < s14)) (
 (whole_Of k 10).bind fun y1 =>
 (whole_Int_Times k s8 y1).bind fun y2 =>
 cond (decide (s1.size + s2.size ≤ 9223372036854775807)) (
 cond (decide (0 ≤ s15)) (
 cond (decide (s15 < ((s1 ++ s2).size : Int))) (
 (whole_Of k (wi64 (wu8 ((bt (s1 ++ s2) s15) - 48)))).bind fun y3 =>
 (whole_Int_Plus k y2 y3).bind fun y4 =>
 amount_read_c3 k s0 s1 s2 s6 y4 s14 (wi64 (s15 + 1))) none) none) none) (
 cond s0 (
 (whole_Int_Sign k s8).bind fun y5 =>
 cond (y5 == 0) (
 some ((0, 0), 10)) (
 (whole_Int_Minus k s8).bind fun y6 =>
 (amount_Made k y6 (s2.size : Int)).bind fun y7 =>
 some y7)) (
 (amount_Made k s8 (s2.size : Int)).bind fun y8 =>
 some y8)) := by kernel_rfl
theorem amount_ReadText_eq (k : Nat) (a : ByteArray) : amount_ReadText (k + 1) a =
 (strings_CutPrefix k a (bs [45])).bind fun y0 =>
 (strings_Cut k y0.1 (bs [46])).bind fun y1 =>
 (cond (!(decide ((a.size : Int) > 40))) (amount_isWhole k y1.1) (some false)).bind fun y2 =>
 (cond ((!(cond (decide ((a.size : Int) > 40)) true (!y2))) && y1.2.2) (kit_IsDigits k y1.2.1) (some false)).bind fun y3 =>
 cond (cond (cond (decide ((a.size : Int) > 40)) true (!y2)) true (cond y1.2.2 (cond (!y3) true (decide ((y1.2.1.size : Int) > 9))) false)) (
 some ((0, 0), 10)) (
 (amount_read k y0.2 y1.1 y1.2.1).bind fun y4 =>
 some y4) := by kernel_rfl
theorem amount_Least_eq (k : Nat) (a : Int × Int) : amount_Least (k + 1) a =
 amount_Least_c1 k a (0, 0) := by kernel_rfl
theorem amount_Least_c1_eq (k : Nat) (s1 : Int × Int) (s2 : Int × Int) : amount_Least_c1 (k + 1) s1 s2 =
 cond ((!(decide (s1.2 > 0))) || true) (
 cond (cond (decide (s1.2 > 0)) ((s1.1.tmod 10) == 0) false) (
 amount_Least_c1 k ((wi64 (s1.1.tdiv 10)), (wi64 (s1.2 - 1))) s2) (
 some s1)) none := by kernel_rfl
theorem amount_isForm_eq (k : Nat) (a : Int) : amount_isForm (k + 1) a =
 (kit_Outside k a 1 5).bind fun y0 =>
 some (!y0) := by kernel_rfl
theorem strconv_Atoi_eq (k : Nat) (a : ByteArray) : strconv_Atoi k a = (Lib.atoi a.data.toList).bind fun n => cond (decide (a.size ≤ 18)) (some (n, true)) none := by kernel_rfl
theorem amount_parts_eq (k : Nat) (a : ByteArray) (b : List Int) : amount_parts (k + 1) a b =
 amount_parts_c3 k a [] b (b.length : Int) 0 := by kernel_rfl
theorem amount_parts_c3_eq (k : Nat) (s0 : ByteArray) (s6 : List Int) (s11 : List Int) (s12 : Int) (s13 : Int) : amount_parts_c3 (k + 1) s0 s6 s11 s12 s13 =
 cond (decide (s13 < s12)) (
 cond (decide (0 ≤ s13)) (
 cond (decide (s13 < (s11.length : Int))) (
 cond ((!(!(decide ((s0.size : Int) < (s11.getD s13.toNat 0))))) || (decide (0 ≤ (s11.getD s13.toNat 0)))) (
 cond ((!(!(decide ((s0.size : Int) < (s11.getD s13.toNat 0))))) || (decide ((s11.getD s13.toNat 0) ≤ (s0.size : Int)))) (
 (cond (!(decide ((s0.size : Int) < (s11.getD s13.toNat 0)))) (kit_IsDigits k (s0.extract 0 (s11.getD s13.toNat 0).toNat)) (some false)).bind fun y0 =>
 cond (cond (decide ((s0.size : Int) < (s11.getD s13.toNat 0))) true (!y0)) (
 some ([], false)) (
 cond (decide (0 ≤ (s11.getD s13.toNat 0))) (
 cond (decide ((s11.getD s13.toNat 0) ≤ (s0.size : Int))) (
 (strconv_Atoi k (s0.extract 0 (s11.getD s13.toNat 0).toNat)).bind fun y1 =>
 cond (decide (s6.length + 1 < 17592186044416)) (
 cond (decide (0 ≤ (s11.getD s13.toNat 0))) (
 cond (decide ((s11.getD s13.toNat 0) ≤ (s0.size : Int))) (
 amount_parts_c3 k (s0.extract (s11.getD s13.toNat 0).toNat s0.size) (s6 ++ [y1.1]) s11 s12 (wi64 (s13 + 1))) none) none) none) none) none)) none) none) none) none) (
 some (s6, (eqS s0 (bs [])))) := by kernel_rfl
theorem amount_isLeap_eq (k : Nat) (a : Int) : amount_isLeap (k + 1) a =
 cond ((!((a.tmod 4) == 0)) || true) (
 cond ((!(((a.tmod 4) == 0) && (!((a.tmod 100) != 0)))) || true) (
 some (cond ((a.tmod 4) == 0) (cond ((a.tmod 100) != 0) true ((a.tmod 400) == 0)) false)) none) none := by kernel_rfl
theorem amount_daysOf_eq (k : Nat) (a : Int) (b : Int) : amount_daysOf (k + 1) a b =
 (cond (b == 2) (amount_isLeap k a) (some false)).bind fun y0 =>
 cond (cond (b == 2) y0 false) (
 some 29) (
 cond (decide (0 ≤ (wi64 (b - 1)))) (
 cond (decide ((wi64 (b - 1)) < 12)) (
 some ([31, 28, 31, 30, 31, 30, 31, 31, 30, 31, 30, 31].getD (wi64 (b - 1)).toNat 0)) none) none) := by kernel_rfl
theorem amount_before_eq (k : Nat) (a : Int) : amount_before (k + 1) a =
 some (wi64 ((wi64 ((wi64 ((wi64 (365 * (wi64 (a - 1)))) + (wi64 ((wi64 (a - 1)).tdiv 4)))) - (wi64 ((wi64 (a - 1)).tdiv 100)))) + (wi64 ((wi64 (a - 1)).tdiv 400)))) := by kernel_rfl
theorem amount_dayOf_eq (k : Nat) (a : Int) (b : Int) (c : Int) : amount_dayOf (k + 1) a b c =
 (kit_Outside k a 1 9999).bind fun y0 =>
 (cond (!y0) (kit_Outside k b 1 12) (some false)).bind fun y1 =>
 (cond (!(cond y0 true y1)) (amount_daysOf k a b) (some 0)).bind fun y2 =>
 (cond (!(cond y0 true y1)) (kit_Outside k c 1 y2) (some false)).bind fun y3 =>
 cond (cond (cond y0 true y1) true y3) (
 some (0, false)) (
 (amount_before k a).bind fun y4 =>
 amount_dayOf_c5 k a b (wi64 (y4 + c)) 1) := by kernel_rfl
theorem amount_dayOf_c5_eq (k : Nat) (s0 : Int) (s1 : Int) (s8 : Int) (s9 : Int) : amount_dayOf_c5 (k + 1) s0 s1 s8 s9 =
 cond (decide (s9 < s1)) (
 (amount_daysOf k s0 s9).bind fun y5 =>
 amount_dayOf_c5 k s0 s1 (wi64 (s8 + y5)) (wi64 (s9 + 1))) (
 some (s8, true)) := by kernel_rfl
theorem amount_WeekDay_eq (k : Nat) (a : Int) : amount_WeekDay (k + 1) a =
 some ((wi64 (a - 1)).tmod 7) := by kernel_rfl
theorem kit_IsDay_eq (k : Nat) (a : Int) : kit_IsDay (k + 1) a =
 (kit_Outside k a 1 3652059).bind fun y0 =>
 some (!y0) := by kernel_rfl
theorem amount_dateOf_eq (k : Nat) (a : Int) : amount_dateOf (k + 1) a =
 amount_dateOf_c2 k a (wi64 ((wi64 (a.tdiv 366)) + 1)) := by kernel_rfl
theorem amount_dateOf_c2_eq (k : Nat) (s0 : Int) (s2 : Int) : amount_dateOf_c2 (k + 1) s0 s2 =
 (cond (decide (s2 < 9999)) (amount_before k (wi64 (s2 + 1))) (some 0)).bind fun y0 =>
 cond (cond (decide (s2 < 9999)) (decide (y0 < s0)) false) (
 amount_dateOf_c2 k s0 (wi64 (s2 + 1))) (
 (amount_before k s2).bind fun y1 =>
 amount_dateOf_c5 k s2 1 (wi64 (s0 - y1))) := by kernel_rfl
theorem amount_dateOf_c5_eq (k : Nat) (s2 : Int) (s3 : Int) (s4 : Int) : amount_dateOf_c5 (k + 1) s2 s3 s4 =
 (amount_daysOf k s2 s3).bind fun y2 =>
 cond (decide (s4 > y2)) (
 (amount_daysOf k s2 s3).bind fun y3 =>
 amount_dateOf_c5 k s2 (wi64 (s3 + 1)) (wi64 (s4 - y3))) (
 some (s2, (s3, s4))) := by kernel_rfl
theorem amount_weekOf_eq (k : Nat) (a : Int) : amount_weekOf (k + 1) a =
 (amount_WeekDay k a).bind fun y0 =>
 (amount_dateOf k (wi64 ((wi64 (a - y0)) + 3))).bind fun y1 =>
 (amount_before k y1.1).bind fun y2 =>
 some (y1.1, (wi64 ((wi64 ((wi64 ((wi64 ((wi64 ((wi64 (a - y0)) + 3)) - y2)) - 1)).tdiv 7)) + 1))) := by kernel_rfl
theorem amount_readDay_eq (k : Nat) (a : ByteArray) (b : Int) (c : Int) : amount_readDay (k + 1) a b c =
 cond (b == 1) (
 (amount_parts k a [4, 2, 2]).bind fun y0 =>
 cond (!y0.2) (
 some (0, false)) (
 cond (decide (0 < (y0.1.length : Int))) (
 cond (decide (1 < (y0.1.length : Int))) (
 cond (decide (2 < (y0.1.length : Int))) (
 (amount_dayOf k (y0.1.getD 0 0) (y0.1.getD 1 0) (y0.1.getD 2 0)).bind fun y1 =>
 some y1) none) none) none)) (
 cond (b == 2) (
 (amount_parts k a [2, 2, 2]).bind fun y2 =>
 cond (!y2.2) (
 some (0, false)) (
 cond (decide (0 < (y2.1.length : Int))) (
 cond (decide (1 < (y2.1.length : Int))) (
 cond (decide (2 < (y2.1.length : Int))) (
 (amount_dayOf k (wi64 (c + ((wi64 (((wi64 ((y2.1.getD 0 0) - c)).tmod 100) + 100)).tmod 100))) (y2.1.getD 1 0) (y2.1.getD 2 0)).bind fun y3 =>
 some y3) none) none) none)) (
 cond (b == 3) (
 (amount_parts k a [2, 2, 4]).bind fun y4 =>
 cond (!y4.2) (
 some (0, false)) (
 cond (decide (2 < (y4.1.length : Int))) (
 cond (decide (1 < (y4.1.length : Int))) (
 cond (decide (0 < (y4.1.length : Int))) (
 (amount_dayOf k (y4.1.getD 2 0) (y4.1.getD 1 0) (y4.1.getD 0 0)).bind fun y5 =>
 some y5) none) none) none)) (
 cond (b == 4) (
 (strings_ReplaceAll k a (bs [45]) (bs [])).bind fun y6 =>
 (amount_parts k y6 [4, 2, 2]).bind fun y7 =>
 cond ((!(!(!y7.2))) || true) (
 cond ((!(!(!y7.2))) || (decide (4 ≤ (y6.size : Int)))) (
 cond ((!(!(!y7.2))) || (decide ((y6.extract 0 4).size + 1 ≤ 9223372036854775807))) (
 cond ((!(!(!y7.2))) || true) (
 cond ((!(!(!y7.2))) || true) (
 cond ((!(!(!y7.2))) || (decide (6 ≤ (y6.size : Int)))) (
 cond ((!(!(!y7.2))) || (decide (((y6.extract 0 4) ++ (bs [45])).size + (y6.extract 4 6).size ≤ 9223372036854775807))) (
 cond ((!(!(!y7.2))) || (decide ((((y6.extract 0 4) ++ (bs [45])) ++ (y6.extract 4 6)).size + 1 ≤ 9223372036854775807))) (
 cond ((!(!(!y7.2))) || true) (
 cond ((!(!(!y7.2))) || (decide (6 ≤ (y6.size : Int)))) (
 cond ((!(!(!y7.2))) || (decide (((((y6.extract 0 4) ++ (bs [45])) ++ (y6.extract 4 6)) ++ (bs [45])).size + (y6.extract 6 y6.size).size ≤ 9223372036854775807))) (
 cond (cond (!y7.2) true (!(eqS a (((((y6.extract 0 4) ++ (bs [45])) ++ (y6.extract 4 6)) ++ (bs [45])) ++ (y6.extract 6 y6.size))))) (
 some (0, false)) (
 cond (decide (0 < (y7.1.length : Int))) (
 cond (decide (1 < (y7.1.length : Int))) (
 cond (decide (2 < (y7.1.length : Int))) (
 (amount_dayOf k (y7.1.getD 0 0) (y7.1.getD 1 0) (y7.1.getD 2 0)).bind fun y8 =>
 some y8) none) none) none)) none) none) none) none) none) none) none) none) none) none) none) (
 (amount_parts k a [4, 2, 1]).bind fun y9 =>
 cond (!y9.2) (
 some (0, false)) (
 cond (decide (0 < (y9.1.length : Int))) (
 cond (decide (1 < (y9.1.length : Int))) (
 cond (decide (2 < (y9.1.length : Int))) (
 (amount_weekDay k (y9.1.getD 0 0) (y9.1.getD 1 0) (y9.1.getD 2 0)).bind fun y10 =>
 some y10) none) none) none))))) := by kernel_rfl
theorem amount_ReadDay_eq (k : Nat) (a : ByteArray) (b : Int) (c : Int) : amount_ReadDay (k + 1) a b c =
 (amount_isForm k b).bind fun y0 =>
 cond (!y0) (
 some (0, 4)) (
 (kit_Outside k c 1 9900).bind fun y1 =>
 cond y1 (
 some (0, 1)) (
 (amount_readDay k a b c).bind fun y2 =>
 cond (!y2.2) (
 some (0, 10)) (
 some (y2.1, 0)))) := by kernel_rfl
theorem flat_isValue_eq (k : Nat) (a : QC) (b : ByteArray) : flat_isValue (k + 1) a b =
 cond (a.2.1 == 2) (
 (amount_ReadText k b).bind fun y0 =>
 (cond (cond (y0.2 == 0) (decide (y0.1.2 ≤ a.2.2.2.1)) false) (amount_Least k y0.1) (some (0, 0))).bind fun y1 =>
 some (cond (cond (y0.2 == 0) (decide (y0.1.2 ≤ a.2.2.2.1)) false) ((y1.1 == y0.1.1) && ((y1.2 == y0.1.2) && true)) false)) (
 cond (a.2.1 == 3) (
 (amount_ReadDay k b 1 1).bind fun y2 =>
 some (y2.2 == 0)) (
 (kit_InBytes k b 32 126).bind fun y3 =>
 (cond y3 (strings_Trim k b (bs [32])) (some (bs []))).bind fun y4 =>
 some (cond y3 (eqS y4 b) false))) := by kernel_rfl
theorem whole_Power_eq (k : Nat) (a : Int) : whole_Power (k + 1) a =
 (whole_Of k 1).bind fun y0 =>
 whole_Power_c3 k (false, []) y0 a 0 := by kernel_rfl
theorem whole_Power_c3_eq (k : Nat) (s2 : Bool × List Int) (s3 : Bool × List Int) (s5 : Int) (s6 : Int) : whole_Power_c3 (k + 1) s2 s3 s5 s6 =
 cond (decide (s6 < s5)) (
 (whole_Of k 10).bind fun y1 =>
 (whole_Int_Times k s3 y1).bind fun y2 =>
 whole_Power_c3 k s2 y2 s5 (wi64 (s6 + 1))) (
 some s3) := by kernel_rfl
theorem amount_Scaled_eq (k : Nat) (a : Int × Int) (b : Int) : amount_Scaled (k + 1) a b =
 (whole_Of k a.1).bind fun y0 =>
 (whole_Power k (wi64 (b - a.2))).bind fun y1 =>
 (whole_Int_Times k y0 y1).bind fun y2 =>
 some y2 := by kernel_rfl
theorem slices_Clone_Luint32_uint32_eq (k : Nat) (a : List Int) : slices_Clone_Luint32_uint32 (k + 1) a =
 cond a.isEmpty (
 bothA (.sl (.int .u32)) (
 some ([])) (
 cond (decide (0 + a.length < 35184372088832)) (
 some ([] ++ a)) none)) (
 cond (decide (0 + a.length < 35184372088832)) (
 some ([] ++ a)) none) := by kernel_rfl
theorem slices_Reverse_Lbyte_byte_eq (k : Nat) (a : List Int) : slices_Reverse_Lbyte_byte (k + 1) a =
 slices_Reverse_Lbyte_byte_c1 k a 0 (wi64 ((a.length : Int) - 1)) := by kernel_rfl
theorem slices_Reverse_Lbyte_byte_c1_eq (k : Nat) (s0 : List Int) (s2 : Int) (s3 : Int) : slices_Reverse_Lbyte_byte_c1 (k + 1) s0 s2 s3 =
 cond (decide (s2 < s3)) (
 cond (decide (0 ≤ s3)) (
 cond (decide (s3 < (s0.length : Int))) (
 cond (decide (0 ≤ s2)) (
 cond (decide (s2 < (s0.length : Int))) (
 cond (decide (0 ≤ s2)) (
 cond (decide (s2 < (s0.length : Int))) (
 cond (decide (0 ≤ s3)) (
 cond (decide (s3 < ((s0.set s2.toNat (s0.getD s3.toNat 0)).length : Int))) (
 slices_Reverse_Lbyte_byte_c1 k ((s0.set s2.toNat (s0.getD s3.toNat 0)).set s3.toNat (s0.getD s2.toNat 0)) (wi64 (s2 + 1)) (wi64 (s3 - 1))) none) none) none) none) none) none) none) none) (
 some s0) := by kernel_rfl
theorem bits_Div32_eq (k : Nat) (a : Int) (b : Int) (c : Int) : bits_Div32 (k + 1) a b c =
 cond (cond (c != 0) (decide (c ≤ a)) false) (
 none) (
 cond (!(decide ((wu64 c) = 0))) (
 cond (!(decide ((wu64 c) = 0))) (
 some ((wu32 (wu64 ((bitsI .or .u64 (shlI .u64 (wu64 a) 32) (wu64 b)).tdiv (wu64 c)))), (wu32 ((bitsI .or .u64 (shlI .u64 (wu64 a) 32) (wu64 b)).tmod (wu64 c))))) none) none) := by kernel_rfl
theorem whole_trimmed_1_eq (k : Nat) (a : List Int) : whole_trimmed_1 (k + 1) a =
 whole_trimmed_1_c1 k a := by kernel_rfl
theorem whole_trimmed_1_c1_eq (k : Nat) (s0 : List Int) : whole_trimmed_1_c1 (k + 1) s0 =
 cond ((!(decide ((s0.length : Int) > 0))) || (decide (0 ≤ (wi64 ((s0.length : Int) - 1))))) (
 cond ((!(decide ((s0.length : Int) > 0))) || (decide ((wi64 ((s0.length : Int) - 1)) < (s0.length : Int)))) (
 cond (cond (decide ((s0.length : Int) > 0)) ((s0.getD (wi64 ((s0.length : Int) - 1)).toNat 0) == 0) false) (
 cond (decide (0 ≤ (wi64 ((s0.length : Int) - 1)))) (
 cond (decide ((wi64 ((s0.length : Int) - 1)) ≤ (s0.length : Int))) (
 whole_trimmed_1_c1 k (s0.take (wi64 ((s0.length : Int) - 1)).toNat)) none) none) (
 some s0)) none) none := by kernel_rfl
theorem whole_Int_Text_eq (k : Nat) (a : Bool × List Int) : whole_Int_Text (k + 1) a =
 cond ((a.2.length : Int) == 0) (
 some (bs [48])) (
 (slices_Clone_Luint32_uint32 k a.2).bind fun y0 =>
 whole_Int_Text_c5 k a [] y0) := by kernel_rfl
theorem whole_Int_Text_c5_eq (k : Nat) (s1 : Bool × List Int) (s3 : List Int) (s4 : List Int) : whole_Int_Text_c5 (k + 1) s1 s3 s4 =
 cond (decide ((s4.length : Int) > 0)) (
 whole_Int_Text_c8 k s1 s3 s4 0 (wi64 ((s4.length : Int) - 1))) (
 cond s1.1 (
 cond (decide (s3.length + 1 < 140737488355328)) (
 (slices_Reverse_Lbyte_byte k (s3 ++ [45])).bind fun y1 =>
 some (strOf y1)) none) (
 (slices_Reverse_Lbyte_byte k s3).bind fun y2 =>
 some (strOf y2))) := by kernel_rfl
theorem whole_Int_Text_c8_eq (k : Nat) (s1 : Bool × List Int) (s3 : List Int) (s4 : List Int) (s5 : Int) (s6 : Int) : whole_Int_Text_c8 (k + 1) s1 s3 s4 s5 s6 =
 cond (decide (s6 ≥ 0)) (
 cond (decide (0 ≤ s6)) (
 cond (decide (s6 < (s4.length : Int))) (
 (bits_Div32 k s5 (s4.getD s6.toNat 0) 10).bind fun y3 =>
 cond (decide (0 ≤ s6)) (
 cond (decide (s6 < (s4.length : Int))) (
 whole_Int_Text_c8 k s1 s3 (s4.set s6.toNat y3.1) y3.2 (wi64 (s6 - 1))) none) none) none) none) (
 cond (decide (s3.length + 1 < 140737488355328)) (
 (whole_trimmed_1 k s4).bind fun y4 =>
 whole_Int_Text_c5 k s1 (s3 ++ [(wu8 (48 + (wu8 s5)))]) y4) none) := by kernel_rfl
theorem amount_padded_eq (k : Nat) (a : Int) (b : Int) : amount_padded (k + 1) a b =
 (strconv_Itoa k a).bind fun y0 =>
 (strings_Repeat k (bs [48]) (wi64 (b - (y0.size : Int)))).bind fun y1 =>
 cond (decide (y1.size + y0.size ≤ 9223372036854775807)) (
 some (y1 ++ y0)) none := by kernel_rfl
theorem amount_DayText_eq (k : Nat) (a : Int) (b : Int) : amount_DayText (k + 1) a b =
 (amount_isForm k b).bind fun y0 =>
 cond (!y0) (
 some ((bs []), 4)) (
 (kit_IsDay k a).bind fun y1 =>
 cond (!y1) (
 some ((bs []), 1)) (
 (amount_dateOf k a).bind fun y2 =>
 cond (b == 1) (
 (amount_padded k y2.1 4).bind fun y3 =>
 (amount_padded k y2.2.1 2).bind fun y4 =>
 cond (decide (y3.size + y4.size ≤ 9223372036854775807)) (
 (amount_padded k y2.2.2 2).bind fun y5 =>
 cond (decide ((y3 ++ y4).size + y5.size ≤ 9223372036854775807)) (
 some (((y3 ++ y4) ++ y5), 0)) none) none) (
 cond (b == 2) (
 (amount_padded k (y2.1.tmod 100) 2).bind fun y6 =>
 (amount_padded k y2.2.1 2).bind fun y7 =>
 cond (decide (y6.size + y7.size ≤ 9223372036854775807)) (
 (amount_padded k y2.2.2 2).bind fun y8 =>
 cond (decide ((y6 ++ y7).size + y8.size ≤ 9223372036854775807)) (
 some (((y6 ++ y7) ++ y8), 0)) none) none) (
 cond (b == 3) (
 (amount_padded k y2.2.2 2).bind fun y9 =>
 (amount_padded k y2.2.1 2).bind fun y10 =>
 cond (decide (y9.size + y10.size ≤ 9223372036854775807)) (
 (amount_padded k y2.1 4).bind fun y11 =>
 cond (decide ((y9 ++ y10).size + y11.size ≤ 9223372036854775807)) (
 some (((y9 ++ y10) ++ y11), 0)) none) none) (
 cond (b == 4) (
 (amount_padded k y2.1 4).bind fun y12 =>
 cond (decide (y12.size + 1 ≤ 9223372036854775807)) (
 (amount_padded k y2.2.1 2).bind fun y13 =>
 cond (decide ((y12 ++ (bs [45])).size + y13.size ≤ 9223372036854775807)) (
 cond (decide (((y12 ++ (bs [45])) ++ y13).size + 1 ≤ 9223372036854775807)) (
 (amount_padded k y2.2.2 2).bind fun y14 =>
 cond (decide ((((y12 ++ (bs [45])) ++ y13) ++ (bs [45])).size + y14.size ≤ 9223372036854775807)) (
 some (((((y12 ++ (bs [45])) ++ y13) ++ (bs [45])) ++ y14), 0)) none) none) none) none) (
 (amount_weekOf k a).bind fun y15 =>
 (amount_padded k y15.1 4).bind fun y16 =>
 (amount_padded k y15.2 2).bind fun y17 =>
 cond (decide (y16.size + y17.size ≤ 9223372036854775807)) (
 (amount_WeekDay k a).bind fun y18 =>
 (strconv_Itoa k (wi64 (y18 + 1))).bind fun y19 =>
 cond (decide ((y16 ++ y17).size + y19.size ≤ 9223372036854775807)) (
 some (((y16 ++ y17) ++ y19), 0)) none) none)))))) := by kernel_rfl
theorem flat_written_eq (k : Nat) (a : QF) (b : QC) (c : ByteArray) : flat_written (k + 1) a b c =
 cond (eqS c (bs [])) (
 some (bs [])) (
 cond (cond (b.2.1 == 2) (a.1 == 0) false) (
 (amount_ReadText k c).bind fun y0 =>
 (amount_Scaled k y0.1 b.2.2.2.1).bind fun y1 =>
 (whole_Int_Text k y1).bind fun y2 =>
 some y2) (
 cond (b.2.1 == 3) (
 (amount_ReadDay k c 1 1).bind fun y3 =>
 (amount_DayText k y3.1 b.2.2.2.2.1).bind fun y4 =>
 some y4.1) (
 some c))) := by kernel_rfl
theorem flat_valueFault_eq (k : Nat) (a : QF) (b : QC) (c : ByteArray) : flat_valueFault (k + 1) a b c =
 cond (cond (eqS c (bs [])) b.2.2.2.2.2.2.2 false) (
 some 13) (
 cond (eqS c (bs [])) (
 some 0) (
 (flat_isValue k b c).bind fun y0 =>
 cond (!y0) (
 some 6) (
 (flat_written k a b c).bind fun y1 =>
 cond (decide ((y1.size : Int) > b.2.2.1)) (
 some 16) (
 (cond (cond (a.1 != 0) (a.2.1 == 0) false) (strings_IndexByte k c a.1) (some 0)).bind fun y2 =>
 cond (cond (cond (a.1 != 0) (a.2.1 == 0) false) (decide (y2 ≥ 0)) false) (
 some 12) (
 some 0))))) := by kernel_rfl
theorem flat_checkRow_eq (k : Nat) (a : QF) (b : QR) : flat_checkRow (k + 1) a b =
 (flat_kindAt k a b.1).bind fun y0 =>
 cond (!y0.2) (
 some (0, 9)) (
 cond ((b.2.length : Int) != (y0.1.2.1.length : Int)) (
 some (0, 3)) (
 flat_checkRow_c7 k a b y0.1.2.1 (y0.1.2.1.length : Int) 0)) := by kernel_rfl
theorem flat_checkRow_c7_eq (k : Nat) (s2 : QF) (s3 : QR) (s28 : List QC) (s29 : Int) (s30 : Int) : flat_checkRow_c7 (k + 1) s2 s3 s28 s29 s30 =
 cond (decide (s30 < s29)) (
 cond (decide (0 ≤ s30)) (
 cond (decide (s30 < (s28.length : Int))) (
 cond (decide (0 ≤ s30)) (
 cond (decide (s30 < (s3.2.length : Int))) (
 (flat_valueFault k s2 (((s28.getD s30.toNat ((bs []), (0, (0, (0, (0, (false, (0, false)))))))).1), ((((s28.getD s30.toNat ((bs []), (0, (0, (0, (0, (false, (0, false)))))))).2).1), (((((s28.getD s30.toNat ((bs []), (0, (0, (0, (0, (false, (0, false)))))))).2).2).1), ((((((s28.getD s30.toNat ((bs []), (0, (0, (0, (0, (false, (0, false)))))))).2).2).2).1), (((((((s28.getD s30.toNat ((bs []), (0, (0, (0, (0, (false, (0, false)))))))).2).2).2).2).1), ((((((((s28.getD s30.toNat ((bs []), (0, (0, (0, (0, (false, (0, false)))))))).2).2).2).2).2).1), (((((((((s28.getD s30.toNat ((bs []), (0, (0, (0, (0, (false, (0, false)))))))).2).2).2).2).2).2).1), ((((((((s28.getD s30.toNat ((bs []), (0, (0, (0, (0, (false, (0, false)))))))).2).2).2).2).2).2).2)))))))) (s3.2.getD s30.toNat (bs []))).bind fun y1 =>
 cond (y1 != 0) (
 some (s30, y1)) (
 flat_checkRow_c7 k s2 s3 s28 s29 (wi64 (s30 + 1)))) none) none) none) none) (
 some (0, 0)) := by kernel_rfl
theorem flat_checkRows_eq (k : Nat) (a : QF) (b : List QR) : flat_checkRows (k + 1) a b =
 flat_checkRows_c2 k a b (b.length : Int) 0 := by kernel_rfl
theorem flat_checkRows_c2_eq (k : Nat) (s2 : QF) (s10 : List QR) (s11 : Int) (s12 : Int) : flat_checkRows_c2 (k + 1) s2 s10 s11 s12 =
 cond (decide (s12 < s11)) (
 cond (decide (0 ≤ s12)) (
 cond (decide (s12 < (s10.length : Int))) (
 (flat_checkRow k s2 (((s10.getD s12.toNat ((bs []), [])).1), ((s10.getD s12.toNat ((bs []), [])).2))).bind fun y0 =>
 cond (y0.2 != 0) (
 some (s12, y0.2)) (
 flat_checkRows_c2 k s2 s10 s11 (wi64 (s12 + 1)))) none) none) (
 some (0, 0)) := by kernel_rfl
theorem flat_isUnder_eq (k : Nat) (a : QF) (b : ByteArray) (c : ByteArray) : flat_isUnder (k + 1) a b c =
 (flat_kindAt k a b).bind fun y0 =>
 flat_isUnder_c2 k c a y0.1 y0.2 := by kernel_rfl
theorem flat_isUnder_c2_eq (k : Nat) (s2 : ByteArray) (s3 : QF) (s7 : QK) (s8 : Bool) : flat_isUnder_c2 (k + 1) s2 s3 s7 s8 =
 cond (cond s8 (!(eqS s7.2.2.2 (bs []))) false) (
 cond (eqS s7.2.2.2 s2) (
 some true) (
 flat_isUnder_c7 k s2 s3 s7)) (
 some false) := by kernel_rfl
theorem flat_isUnder_c7_eq (k : Nat) (s2 : ByteArray) (s3 : QF) (s32 : QK) : flat_isUnder_c7 (k + 1) s2 s3 s32 =
 (flat_kindAt k s3 s32.2.2.2).bind fun y1 =>
 flat_isUnder_c2 k s2 s3 y1.1 y1.2 := by kernel_rfl
theorem flat_overOf_eq (k : Nat) (a : QF) (b : List QR) (c : Int) (d : ByteArray) : flat_overOf (k + 1) a b c d =
 flat_overOf_c2 k b d a (wi64 (c - 1)) := by kernel_rfl
theorem flat_overOf_c2_eq (k : Nat) (s1 : List QR) (s3 : ByteArray) (s4 : QF) (s9 : Int) : flat_overOf_c2 (k + 1) s1 s3 s4 s9 =
 cond (decide (s9 ≥ 0)) (
 cond (decide (0 ≤ s9)) (
 cond (decide (s9 < (s1.length : Int))) (
 cond (eqS ((s1.getD s9.toNat ((bs []), [])).1) s3) (
 some s9) (
 cond (decide (0 ≤ s9)) (
 cond (decide (s9 < (s1.length : Int))) (
 (flat_isUnder k s4 ((s1.getD s9.toNat ((bs []), [])).1) s3).bind fun y0 =>
 cond (!y0) (
 some (-1)) (
 flat_overOf_c2 k s1 s3 s4 (wi64 (s9 - 1)))) none) none)) none) none) (
 some (-1)) := by kernel_rfl
theorem flat_rowOrder_eq (k : Nat) (a : QF) (b : List QR) (c : Int) : flat_rowOrder (k + 1) a b c =
 cond (decide (0 ≤ c)) (
 cond (decide (c < (b.length : Int))) (
 cond (cond (!(eqS a.2.2.2.1 (bs []))) (!((eqS ((b.getD c.toNat ((bs []), [])).1) a.2.2.2.1) == (c == 0))) false) (
 some 8) (
 cond (cond (cond (!(eqS a.2.2.2.2.1 (bs []))) (eqS ((b.getD c.toNat ((bs []), [])).1) a.2.2.2.2.1) false) (c != (wi64 ((b.length : Int) - 1))) false) (
 some 8) (
 (flat_kindAt k a ((b.getD c.toNat ((bs []), [])).1)).bind fun y0 =>
 cond (!(eqS y0.1.2.2.2 (bs []))) (
 (flat_overOf k a b c y0.1.2.2.2).bind fun y1 =>
 cond (decide (y1 < 0)) (
 some 8) (
 cond (y0.1.2.2.1 == 0) (
 some 0) (
 cond (decide (0 ≤ y1)) (
 cond (decide (y1 ≤ (wi64 (c + 1)))) (
 cond (decide ((wi64 (c + 1)) ≤ (b.length : Int))) (
 flat_rowOrder_c16 k ((b.getD c.toNat ((bs []), [])).1) y0.1 0 ((b.take (wi64 (c + 1)).toNat).drop y1.toNat) (((b.take (wi64 (c + 1)).toNat).drop y1.toNat).length : Int) 0) none) none) none))) (
 cond (y0.1.2.2.1 == 0) (
 some 0) (
 cond (decide (0 ≤ (wi64 (c + 1)))) (
 cond (decide ((wi64 (c + 1)) ≤ (b.length : Int))) (
 flat_rowOrder_c16 k ((b.getD c.toNat ((bs []), [])).1) y0.1 0 ((b.take (wi64 (c + 1)).toNat).drop 0) (((b.take (wi64 (c + 1)).toNat).drop 0).length : Int) 0) none) none))))) none) none := by kernel_rfl
theorem flat_rowOrder_c16_eq (k : Nat) (s7 : ByteArray) (s8 : QK) (s11 : Int) (s73 : List QR) (s74 : Int) (s75 : Int) : flat_rowOrder_c16 (k + 1) s7 s8 s11 s73 s74 s75 =
 cond (decide (s75 < s74)) (
 cond (decide (0 ≤ s75)) (
 cond (decide (s75 < (s73.length : Int))) (
 cond (eqS ((s73.getD s75.toNat ((bs []), [])).1) s7) (
 flat_rowOrder_c16 k s7 s8 (wi64 (s11 + 1)) s73 s74 (wi64 (s75 + 1))) (
 flat_rowOrder_c16 k s7 s8 s11 s73 s74 (wi64 (s75 + 1)))) none) none) (
 cond (decide (s11 > s8.2.2.1)) (
 some 2) (
 some 0)) := by kernel_rfl
theorem flat_checkOrder_eq (k : Nat) (a : QF) (b : List QR) : flat_checkOrder (k + 1) a b =
 (flat_checkRows k a b).bind fun y0 =>
 cond (y0.2 != 0) (
 some y0) (
 flat_checkOrder_c5 k b a (b.length : Int) 0) := by kernel_rfl
theorem flat_checkOrder_c5_eq (k : Nat) (s1 : List QR) (s2 : QF) (s21 : Int) (s22 : Int) : flat_checkOrder_c5 (k + 1) s1 s2 s21 s22 =
 cond (decide (s22 < s21)) (
 (flat_rowOrder k s2 s1 s22).bind fun y1 =>
 cond (y1 != 0) (
 some (s22, y1)) (
 flat_checkOrder_c5 k s1 s2 s21 (wi64 (s22 + 1)))) (
 cond ((!((!(eqS s2.2.2.2.2.1 (bs []))) && (!((s1.length : Int) == 0)))) || (decide (0 ≤ (wi64 ((s1.length : Int) - 1))))) (
 cond ((!((!(eqS s2.2.2.2.2.1 (bs []))) && (!((s1.length : Int) == 0)))) || (decide ((wi64 ((s1.length : Int) - 1)) < (s1.length : Int)))) (
 cond (cond (!(eqS s2.2.2.2.2.1 (bs []))) (cond ((s1.length : Int) == 0) true (!(eqS ((s1.getD (wi64 ((s1.length : Int) - 1)).toNat ((bs []), [])).1) s2.2.2.2.2.1))) false) (
 some ((s1.length : Int), 8)) (
 some (0, 0))) none) none) := by kernel_rfl
theorem flat_CheckOrder_eq (k : Nat) (a : QF) (b : List QR) : flat_CheckOrder (k + 1) a b =
 (flat_CheckFormat k a).bind fun y0 =>
 cond (y0 != 0) (
 some (0, y0)) (
 (flat_checkOrder k a b).bind fun y1 =>
 some y1) := by kernel_rfl
theorem interchangeref6_isEnd_eq (k : Nat) (a : QF) (b : QR) : interchangeref6_isEnd (k + 1) a b =
 some (cond (cond (!(eqS a.2.2.2.1 (bs []))) (eqS b.1 a.2.2.2.1) false) true (cond (!(eqS a.2.2.2.2.1 (bs []))) (eqS b.1 a.2.2.2.2.1) false)) := by kernel_rfl
theorem interchangeref6_count_eq (k : Nat) (a : QF) (b : List QR) : interchangeref6_count (k + 1) a b =
 interchangeref6_count_c3 k a 0 b (b.length : Int) 0 := by kernel_rfl
theorem interchangeref6_count_c3_eq (k : Nat) (s2 : QF) (s5 : Int) (s8 : List QR) (s9 : Int) (s10 : Int) : interchangeref6_count_c3 (k + 1) s2 s5 s8 s9 s10 =
 cond (decide (s10 < s9)) (
 cond (decide (0 ≤ s10)) (
 cond (decide (s10 < (s8.length : Int))) (
 (interchangeref6_isEnd k s2 (((s8.getD s10.toNat ((bs []), [])).1), ((s8.getD s10.toNat ((bs []), [])).2))).bind fun y0 =>
 cond (!y0) (
 interchangeref6_count_c3 k s2 (wi64 (s5 + 1)) s8 s9 (wi64 (s10 + 1))) (
 interchangeref6_count_c3 k s2 s5 s8 s9 (wi64 (s10 + 1)))) none) none) (
 some s5) := by kernel_rfl
theorem interchangeref1_Of_eq (k : Nat) (a : Int) : interchangeref1_Of (k + 1) a =
 interchangeref1_Of_c2 k a (false, []) ((decide (a < 0)), []) := by kernel_rfl
theorem interchangeref1_Of_c2_eq (k : Nat) (s0 : Int) (s2 : Bool × List Int) (s3 : Bool × List Int) : interchangeref1_Of_c2 (k + 1) s0 s2 s3 =
 cond (s0 != 0) (
 cond (decide (s3.2.length + 1 < 17592186044416)) (
 interchangeref1_Of_c2 k (wi64 (s0.tdiv 1000000)) s2 (s3.1, (s3.2 ++ [(maxI (s0.tmod 1000000) (wi64 (0 - (s0.tmod 1000000))))]))) none) (
 some s3) := by kernel_rfl
theorem interchangeref1_trimmed_eq (k : Nat) (a : Bool × List Int) : interchangeref1_trimmed (k + 1) a =
 interchangeref1_trimmed_c1 k a (false, []) := by kernel_rfl
theorem interchangeref1_trimmed_c1_eq (k : Nat) (s1 : Bool × List Int) (s2 : Bool × List Int) : interchangeref1_trimmed_c1 (k + 1) s1 s2 =
 cond ((!(decide ((s1.2.length : Int) > 0))) || (decide (0 ≤ (wi64 ((s1.2.length : Int) - 1))))) (
 cond ((!(decide ((s1.2.length : Int) > 0))) || (decide ((wi64 ((s1.2.length : Int) - 1)) < (s1.2.length : Int)))) (
 cond (cond (decide ((s1.2.length : Int) > 0)) ((s1.2.getD (wi64 ((s1.2.length : Int) - 1)).toNat 0) == 0) false) (
 cond (decide (0 ≤ (wi64 ((s1.2.length : Int) - 1)))) (
 cond (decide ((wi64 ((s1.2.length : Int) - 1)) ≤ (s1.2.length : Int))) (
 interchangeref1_trimmed_c1 k (s1.1, (s1.2.take (wi64 ((s1.2.length : Int) - 1)).toNat)) s2) none) none) (
 cond ((s1.2.length : Int) == 0) (
 some (false, s1.2)) (
 some s1))) none) none := by kernel_rfl
theorem interchangeref1_TimesOf_eq (k : Nat) (a : Bool × List Int) (b : Bool × List Int) : interchangeref1_TimesOf (k + 1) a b =
 cond (decide (0 ≤ (wi64 ((wi64 ((a.2.length : Int) + (b.2.length : Int))) + 1)))) (
 cond (decide ((wi64 ((wi64 ((a.2.length : Int) + (b.2.length : Int))) + 1)).toNat ≤ 17592186044416)) (
 interchangeref1_TimesOf_c3 k b (false, []) ((!(a.1 == b.1)), (List.replicate (wi64 ((wi64 ((a.2.length : Int) + (b.2.length : Int))) + 1)).toNat 0)) a.2 (a.2.length : Int) 0) none) none := by kernel_rfl
theorem interchangeref1_TimesOf_c3_eq (k : Nat) (s3 : Bool × List Int) (s4 : Bool × List Int) (s5 : Bool × List Int) (s27 : List Int) (s28 : Int) (s29 : Int) : interchangeref1_TimesOf_c3 (k + 1) s3 s4 s5 s27 s28 s29 =
 cond (decide (s29 < s28)) (
 cond (decide (0 ≤ s29)) (
 cond (decide (s29 < (s27.length : Int))) (
 interchangeref1_TimesOf_c6 k s3 s4 s5 s29 (s27.getD s29.toNat 0) s27 s28 s29 s3.2 (s3.2.length : Int) 0) none) none) (
 interchangeref1_TimesOf_c14 k s4 s5 (wi64 ((s5.2.length : Int) - 1)) 0) := by kernel_rfl
theorem interchangeref1_TimesOf_c6_eq (k : Nat) (s3 : Bool × List Int) (s4 : Bool × List Int) (s5 : Bool × List Int) (s6 : Int) (s7 : Int) (s27 : List Int) (s28 : Int) (s29 : Int) (s35 : List Int) (s36 : Int) (s37 : Int) : interchangeref1_TimesOf_c6 (k + 1) s3 s4 s5 s6 s7 s27 s28 s29 s35 s36 s37 =
 cond (decide (s37 < s36)) (
 cond (decide (0 ≤ s37)) (
 cond (decide (s37 < (s35.length : Int))) (
 cond (decide (0 ≤ (wi64 (s6 + s37)))) (
 cond (decide ((wi64 (s6 + s37)) < (s5.2.length : Int))) (
 cond (decide (0 ≤ (wi64 (s6 + s37)))) (
 cond (decide ((wi64 (s6 + s37)) < (s5.2.length : Int))) (
 cond (decide (0 ≤ (wi64 ((wi64 (s6 + s37)) + 1)))) (
 cond (decide ((wi64 ((wi64 (s6 + s37)) + 1)) < ((s5.2.set (wi64 (s6 + s37)).toNat (wi64 ((s5.2.getD (wi64 (s6 + s37)).toNat 0) + (wi64 (s7 * (s35.getD s37.toNat 0)))))).length : Int))) (
 cond (decide (0 ≤ (wi64 (s6 + s37)))) (
 cond (decide ((wi64 (s6 + s37)) < ((s5.2.set (wi64 (s6 + s37)).toNat (wi64 ((s5.2.getD (wi64 (s6 + s37)).toNat 0) + (wi64 (s7 * (s35.getD s37.toNat 0)))))).length : Int))) (
 cond (decide (0 ≤ (wi64 ((wi64 (s6 + s37)) + 1)))) (
 cond (decide ((wi64 ((wi64 (s6 + s37)) + 1)) < ((s5.2.set (wi64 (s6 + s37)).toNat (wi64 ((s5.2.getD (wi64 (s6 + s37)).toNat 0) + (wi64 (s7 * (s35.getD s37.toNat 0)))))).length : Int))) (
 cond (decide (0 ≤ (wi64 (s6 + s37)))) (
 cond (decide ((wi64 (s6 + s37)) < (((s5.2.set (wi64 (s6 + s37)).toNat (wi64 ((s5.2.getD (wi64 (s6 + s37)).toNat 0) + (wi64 (s7 * (s35.getD s37.toNat 0)))))).set (wi64 ((wi64 (s6 + s37)) + 1)).toNat (wi64 (((s5.2.set (wi64 (s6 + s37)).toNat (wi64 ((s5.2.getD (wi64 (s6 + s37)).toNat 0) + (wi64 (s7 * (s35.getD s37.toNat 0)))))).getD (wi64 ((wi64 (s6 + s37)) + 1)).toNat 0) + (wi64 (((s5.2.set (wi64 (s6 + s37)).toNat (wi64 ((s5.2.getD (wi64 (s6 + s37)).toNat 0) + (wi64 (s7 * (s35.getD s37.toNat 0)))))).getD (wi64 (s6 + s37)).toNat 0).tdiv 1000000))))).length : Int))) (
 cond (decide (0 ≤ (wi64 (s6 + s37)))) (
 cond (decide ((wi64 (s6 + s37)) < (((s5.2.set (wi64 (s6 + s37)).toNat (wi64 ((s5.2.getD (wi64 (s6 + s37)).toNat 0) + (wi64 (s7 * (s35.getD s37.toNat 0)))))).set (wi64 ((wi64 (s6 + s37)) + 1)).toNat (wi64 (((s5.2.set (wi64 (s6 + s37)).toNat (wi64 ((s5.2.getD (wi64 (s6 + s37)).toNat 0) + (wi64 (s7 * (s35.getD s37.toNat 0)))))).getD (wi64 ((wi64 (s6 + s37)) + 1)).toNat 0) + (wi64 (((s5.2.set (wi64 (s6 + s37)).toNat (wi64 ((s5.2.getD (wi64 (s6 + s37)).toNat 0) + (wi64 (s7 * (s35.getD s37.toNat 0)))))).getD (wi64 (s6 + s37)).toNat 0).tdiv 1000000))))).length : Int))) (
 interchangeref1_TimesOf_c6 k s3 s4 (s5.1, (((s5.2.set (wi64 (s6 + s37)).toNat (wi64 ((s5.2.getD (wi64 (s6 + s37)).toNat 0) + (wi64 (s7 * (s35.getD s37.toNat 0)))))).set (wi64 ((wi64 (s6 + s37)) + 1)).toNat (wi64 (((s5.2.set (wi64 (s6 + s37)).toNat (wi64 ((s5.2.getD (wi64 (s6 + s37)).toNat 0) + (wi64 (s7 * (s35.getD s37.toNat 0)))))).getD (wi64 ((wi64 (s6 + s37)) + 1)).toNat 0) + (wi64 (((s5.2.set (wi64 (s6 + s37)).toNat (wi64 ((s5.2.getD (wi64 (s6 + s37)).toNat 0) + (wi64 (s7 * (s35.getD s37.toNat 0)))))).getD (wi64 (s6 + s37)).toNat 0).tdiv 1000000))))).set (wi64 (s6 + s37)).toNat ((((s5.2.set (wi64 (s6 + s37)).toNat (wi64 ((s5.2.getD (wi64 (s6 + s37)).toNat 0) + (wi64 (s7 * (s35.getD s37.toNat 0)))))).set (wi64 ((wi64 (s6 + s37)) + 1)).toNat (wi64 (((s5.2.set (wi64 (s6 + s37)).toNat (wi64 ((s5.2.getD (wi64 (s6 + s37)).toNat 0) + (wi64 (s7 * (s35.getD s37.toNat 0)))))).getD (wi64 ((wi64 (s6 + s37)) + 1)).toNat 0) + (wi64 (((s5.2.set (wi64 (s6 + s37)).toNat (wi64 ((s5.2.getD (wi64 (s6 + s37)).toNat 0) + (wi64 (s7 * (s35.getD s37.toNat 0)))))).getD (wi64 (s6 + s37)).toNat 0).tdiv 1000000))))).getD (wi64 (s6 + s37)).toNat 0).tmod 1000000))) s6 s7 s27 s28 s29 s35 s36 (wi64 (s37 + 1))) none) none) none) none) none) none) none) none) none) none) none) none) none) none) none) none) (
 interchangeref1_TimesOf_c3 k s3 s4 s5 s27 s28 (wi64 (s29 + 1))) := by kernel_rfl
theorem interchangeref1_TimesOf_c14_eq (k : Nat) (s4 : Bool × List Int) (s5 : Bool × List Int) (s86 : Int) (s87 : Int) : interchangeref1_TimesOf_c14 (k + 1) s4 s5 s86 s87 =
 cond (decide (s87 < s86)) (
 cond (decide (0 ≤ (wi64 (s87 + 1)))) (
 cond (decide ((wi64 (s87 + 1)) < (s5.2.length : Int))) (
 cond (decide (0 ≤ s87)) (
 cond (decide (s87 < (s5.2.length : Int))) (
 cond (decide (0 ≤ (wi64 (s87 + 1)))) (
 cond (decide ((wi64 (s87 + 1)) < (s5.2.length : Int))) (
 cond (decide (0 ≤ s87)) (
 cond (decide (s87 < ((s5.2.set (wi64 (s87 + 1)).toNat (wi64 ((s5.2.getD (wi64 (s87 + 1)).toNat 0) + (wi64 ((s5.2.getD s87.toNat 0).tdiv 1000000))))).length : Int))) (
 cond (decide (0 ≤ s87)) (
 cond (decide (s87 < ((s5.2.set (wi64 (s87 + 1)).toNat (wi64 ((s5.2.getD (wi64 (s87 + 1)).toNat 0) + (wi64 ((s5.2.getD s87.toNat 0).tdiv 1000000))))).length : Int))) (
 interchangeref1_TimesOf_c14 k s4 (s5.1, ((s5.2.set (wi64 (s87 + 1)).toNat (wi64 ((s5.2.getD (wi64 (s87 + 1)).toNat 0) + (wi64 ((s5.2.getD s87.toNat 0).tdiv 1000000))))).set s87.toNat (((s5.2.set (wi64 (s87 + 1)).toNat (wi64 ((s5.2.getD (wi64 (s87 + 1)).toNat 0) + (wi64 ((s5.2.getD s87.toNat 0).tdiv 1000000))))).getD s87.toNat 0).tmod 1000000))) s86 (wi64 (s87 + 1))) none) none) none) none) none) none) none) none) none) none) (
 (interchangeref1_trimmed k s5).bind fun y0 =>
 some y0) := by kernel_rfl
theorem interchangeref1_Power_eq (k : Nat) (a : Int) : interchangeref1_Power (k + 1) a =
 (interchangeref1_Of k 1).bind fun y0 =>
 interchangeref1_Power_c3 k (false, []) y0 a 0 := by kernel_rfl
theorem interchangeref1_Power_c3_eq (k : Nat) (s2 : Bool × List Int) (s3 : Bool × List Int) (s5 : Int) (s6 : Int) : interchangeref1_Power_c3 (k + 1) s2 s3 s5 s6 =
 cond (decide (s6 < s5)) (
 (interchangeref1_Of k 10).bind fun y1 =>
 (interchangeref1_TimesOf k s3 y1).bind fun y2 =>
 interchangeref1_Power_c3 k s2 y2 s5 (wi64 (s6 + 1))) (
 some s3) := by kernel_rfl
theorem interchangeref1_At_eq (k : Nat) (a : Int × Int) (b : Int) : interchangeref1_At (k + 1) a b =
 (interchangeref1_Of k a.1).bind fun y0 =>
 (interchangeref1_Power k (wi64 (b - a.2))).bind fun y1 =>
 (interchangeref1_TimesOf k y0 y1).bind fun y2 =>
 some y2 := by kernel_rfl
theorem interchangeref1_sizes_eq (k : Nat) (a : List Int) (b : List Int) : interchangeref1_sizes (k + 1) a b =
 cond ((a.length : Int) != (b.length : Int)) (
 some (wi64 ((a.length : Int) - (b.length : Int)))) (
 interchangeref1_sizes_c4 k a b (wi64 ((a.length : Int) - 1))) := by kernel_rfl
theorem interchangeref1_sizes_c4_eq (k : Nat) (s0 : List Int) (s1 : List Int) (s5 : Int) : interchangeref1_sizes_c4 (k + 1) s0 s1 s5 =
 cond (decide (s5 ≥ 0)) (
 cond (decide (0 ≤ s5)) (
 cond (decide (s5 < (s0.length : Int))) (
 cond (decide (0 ≤ s5)) (
 cond (decide (s5 < (s1.length : Int))) (
 cond ((s0.getD s5.toNat 0) != (s1.getD s5.toNat 0)) (
 cond (decide (0 ≤ s5)) (
 cond (decide (s5 < (s0.length : Int))) (
 cond (decide (0 ≤ s5)) (
 cond (decide (s5 < (s1.length : Int))) (
 some (wi64 ((s0.getD s5.toNat 0) - (s1.getD s5.toNat 0)))) none) none) none) none) (
 interchangeref1_sizes_c4 k s0 s1 (wi64 (s5 - 1)))) none) none) none) none) (
 some 0) := by kernel_rfl
theorem interchangeref1_digit_eq (k : Nat) (a : List Int) (b : Int) : interchangeref1_digit (k + 1) a b =
 cond (decide (b < (a.length : Int))) (
 cond (decide (0 ≤ b)) (
 cond (decide (b < (a.length : Int))) (
 some (a.getD b.toNat 0)) none) none) (
 some 0) := by kernel_rfl
theorem interchangeref1_Plus_eq (k : Nat) (a : Bool × List Int) (b : Bool × List Int) : interchangeref1_Plus (k + 1) a b =
 cond (!(a.1 == b.1)) (
 (interchangeref1_sizes k a.2 b.2).bind fun y0 =>
 cond (decide (y0 < 0)) (
 interchangeref1_Plus_c4 k b a (false, [])) (
 interchangeref1_Plus_c4 k a b (false, []))) (
 interchangeref1_Plus_c19 k a b (false, []) (a.1, []) 0 (wi64 ((maxI (a.2.length : Int) (b.2.length : Int)) + 1)) 0) := by kernel_rfl
theorem interchangeref1_Plus_c4_eq (k : Nat) (s2 : Bool × List Int) (s3 : Bool × List Int) (s4 : Bool × List Int) : interchangeref1_Plus_c4 (k + 1) s2 s3 s4 =
 interchangeref1_Plus_c7 k s2 s3 s4 (s2.1, []) 0 (s2.2.length : Int) 0 := by kernel_rfl
theorem interchangeref1_Plus_c7_eq (k : Nat) (s2 : Bool × List Int) (s3 : Bool × List Int) (s4 : Bool × List Int) (s5 : Bool × List Int) (s6 : Int) (s31 : Int) (s32 : Int) : interchangeref1_Plus_c7 (k + 1) s2 s3 s4 s5 s6 s31 s32 =
 cond (decide (s32 < s31)) (
 cond (decide (0 ≤ s32)) (
 cond (decide (s32 < (s2.2.length : Int))) (
 (interchangeref1_digit k s3.2 s32).bind fun y4 =>
 cond (decide ((wi64 ((wi64 ((s2.2.getD s32.toNat 0) - y4)) - s6)) < 0)) (
 interchangeref1_Plus_c13 k s2 s3 s4 s5 1 (wi64 ((wi64 ((wi64 ((s2.2.getD s32.toNat 0) - y4)) - s6)) + 1000000)) s31 s32) (
 interchangeref1_Plus_c13 k s2 s3 s4 s5 0 (wi64 ((wi64 ((s2.2.getD s32.toNat 0) - y4)) - s6)) s31 s32)) none) none) (
 (interchangeref1_trimmed k s5).bind fun y5 =>
 some y5) := by kernel_rfl
theorem interchangeref1_Plus_c13_eq (k : Nat) (s2 : Bool × List Int) (s3 : Bool × List Int) (s4 : Bool × List Int) (s5 : Bool × List Int) (s6 : Int) (s8 : Int) (s31 : Int) (s32 : Int) : interchangeref1_Plus_c13 (k + 1) s2 s3 s4 s5 s6 s8 s31 s32 =
 cond (decide (s5.2.length + 1 < 17592186044416)) (
 interchangeref1_Plus_c7 k s2 s3 s4 (s5.1, (s5.2 ++ [s8])) s6 s31 (wi64 (s32 + 1))) none := by kernel_rfl
theorem interchangeref1_Plus_c19_eq (k : Nat) (s2 : Bool × List Int) (s3 : Bool × List Int) (s4 : Bool × List Int) (s9 : Bool × List Int) (s10 : Int) (s70 : Int) (s71 : Int) : interchangeref1_Plus_c19 (k + 1) s2 s3 s4 s9 s10 s70 s71 =
 cond (decide (s71 < s70)) (
 (interchangeref1_digit k s2.2 s71).bind fun y1 =>
 (interchangeref1_digit k s3.2 s71).bind fun y2 =>
 cond (decide (s9.2.length + 1 < 17592186044416)) (
 interchangeref1_Plus_c19 k s2 s3 s4 (s9.1, (s9.2 ++ [((wi64 ((wi64 (y1 + y2)) + s10)).tmod 1000000)])) (wi64 ((wi64 ((wi64 (y1 + y2)) + s10)).tdiv 1000000)) s70 (wi64 (s71 + 1))) none) (
 (interchangeref1_trimmed k s9).bind fun y3 =>
 some y3) := by kernel_rfl
theorem interchangeref6_sum_eq (k : Nat) (a : QF) (b : List QR) : interchangeref6_sum (k + 1) a b =
 interchangeref6_sum_c3 k a (false, []) (false, []) b (b.length : Int) 0 := by kernel_rfl
theorem interchangeref6_sum_c3_eq (k : Nat) (s2 : QF) (s4 : Bool × List Int) (s6 : Bool × List Int) (s13 : List QR) (s14 : Int) (s15 : Int) : interchangeref6_sum_c3 (k + 1) s2 s4 s6 s13 s14 s15 =
 cond (decide (s15 < s14)) (
 cond (decide (0 ≤ s15)) (
 cond (decide (s15 < (s13.length : Int))) (
 (interchangeref6_kindOf k s2 ((s13.getD s15.toNat ((bs []), [])).1)).bind fun y0 =>
 cond (decide (0 ≤ y0)) (
 cond (decide (y0 < (s2.2.2.1.length : Int))) (
 (interchangeref6_columnOf k (((s2.2.2.1.getD y0.toNat ((bs []), ([], (0, (bs []))))).1), ((((s2.2.2.1.getD y0.toNat ((bs []), ([], (0, (bs []))))).2).1), (((((s2.2.2.1.getD y0.toNat ((bs []), ([], (0, (bs []))))).2).2).1), ((((s2.2.2.1.getD y0.toNat ((bs []), ([], (0, (bs []))))).2).2).2)))) s2.2.2.2.2.2.2).bind fun y1 =>
 (interchangeref6_isEnd k s2 (((s13.getD s15.toNat ((bs []), [])).1), ((s13.getD s15.toNat ((bs []), [])).2))).bind fun y2 =>
 cond (cond y2 true (decide (y1 < 0))) (
 interchangeref6_sum_c3 k s2 s4 s6 s13 s14 (wi64 (s15 + 1))) (
 cond (decide (0 ≤ y1)) (
 cond (decide (y1 < ((((s2.2.2.1.getD y0.toNat ((bs []), ([], (0, (bs []))))).2).1).length : Int))) (
 cond (((((((s2.2.2.1.getD y0.toNat ((bs []), ([], (0, (bs []))))).2).1).getD y1.toNat ((bs []), (0, (0, (0, (0, (false, (0, false)))))))).2).1) != 2) (
 some (s6, 6)) (
 cond (decide (0 ≤ y1)) (
 cond (decide (y1 < (((s13.getD s15.toNat ((bs []), [])).2).length : Int))) (
 cond (!(eqS (((s13.getD s15.toNat ((bs []), [])).2).getD y1.toNat (bs [])) (bs []))) (
 cond (decide (0 ≤ y1)) (
 cond (decide (y1 < (((s13.getD s15.toNat ((bs []), [])).2).length : Int))) (
 (interchangeref1_ReadText k (((s13.getD s15.toNat ((bs []), [])).2).getD y1.toNat (bs []))).bind fun y3 =>
 (interchangeref1_At k y3.1 9).bind fun y4 =>
 (interchangeref1_Plus k s6 y4).bind fun y5 =>
 interchangeref6_sum_c3 k s2 s4 y5 s13 s14 (wi64 (s15 + 1))) none) none) (
 interchangeref6_sum_c3 k s2 s4 s6 s13 s14 (wi64 (s15 + 1)))) none) none)) none) none)) none) none) none) none) (
 some (s6, 0)) := by kernel_rfl
theorem interchangeref1_Sign_eq (k : Nat) (a : Bool × List Int) : interchangeref1_Sign (k + 1) a =
 cond ((a.2.length : Int) == 0) (
 some 0) (
 cond a.1 (
 some (-1)) (
 some 1)) := by kernel_rfl
theorem interchangeref1_half_eq (k : Nat) (a : Bool × List Int) : interchangeref1_half (k + 1) a =
 cond (decide (0 ≤ (a.2.length : Int))) (
 cond (decide ((a.2.length : Int).toNat ≤ 17592186044416)) (
 interchangeref1_half_c4 k a (false, []) (false, (List.replicate (a.2.length : Int).toNat 0)) 0 (wi64 ((a.2.length : Int) - 1))) none) none := by kernel_rfl
theorem interchangeref1_half_c4_eq (k : Nat) (s1 : Bool × List Int) (s2 : Bool × List Int) (s4 : Bool × List Int) (s5 : Int) (s6 : Int) : interchangeref1_half_c4 (k + 1) s1 s2 s4 s5 s6 =
 cond (decide (s6 ≥ 0)) (
 cond (decide (0 ≤ s6)) (
 cond (decide (s6 < (s1.2.length : Int))) (
 cond (decide (0 ≤ s6)) (
 cond (decide (s6 < (s4.2.length : Int))) (
 interchangeref1_half_c4 k s1 s2 (s4.1, (s4.2.set s6.toNat (wi64 ((wi64 ((wi64 (s5 * 1000000)) + (s1.2.getD s6.toNat 0))).tdiv 2)))) ((wi64 ((wi64 (s5 * 1000000)) + (s1.2.getD s6.toNat 0))).tmod 2) (wi64 (s6 - 1))) none) none) none) none) (
 (interchangeref1_trimmed k s4).bind fun y0 =>
 some (y0, s5)) := by kernel_rfl
theorem interchangeref1_Minus_eq (k : Nat) (a : Bool × List Int) : interchangeref1_Minus (k + 1) a =
 cond (decide ((a.2.length : Int) > 0)) (
 some ((!a.1), a.2)) (
 some a) := by kernel_rfl
theorem interchangeref1_Cmp_eq (k : Nat) (a : Bool × List Int) (b : Bool × List Int) : interchangeref1_Cmp (k + 1) a b =
 (interchangeref1_Minus k b).bind fun y0 =>
 (interchangeref1_Plus k a y0).bind fun y1 =>
 (interchangeref1_Sign k y1).bind fun y2 =>
 some y2 := by kernel_rfl
theorem interchangeref1_DivMod_eq (k : Nat) (a : Bool × List Int) (b : Bool × List Int) : interchangeref1_DivMod (k + 1) a b =
 interchangeref1_DivMod_c3 k b (false, []) (false, []) [] a := by kernel_rfl
theorem interchangeref1_DivMod_c3_eq (k : Nat) (s3 : Bool × List Int) (s4 : Bool × List Int) (s5 : Bool × List Int) (s6 : List Int) (s7 : Bool × List Int) : interchangeref1_DivMod_c3 (k + 1) s3 s4 s5 s6 s7 =
 (interchangeref1_Sign k s7).bind fun y0 =>
 cond (decide (y0 > 0)) (
 (interchangeref1_half k s7).bind fun y1 =>
 cond (decide (s6.length + 1 < 17592186044416)) (
 interchangeref1_DivMod_c7 k s3 s4 s5 (s6 ++ [y1.2]) y1.1) none) (
 (interchangeref1_Of k 2).bind fun y2 =>
 interchangeref1_DivMod_c11 k s3 s4 s5 s6 (false, []) (false, []) y2 (wi64 ((s6.length : Int) - 1))) := by kernel_rfl
theorem interchangeref1_DivMod_c7_eq (k : Nat) (s3 : Bool × List Int) (s4 : Bool × List Int) (s5 : Bool × List Int) (s6 : List Int) (s28 : Bool × List Int) : interchangeref1_DivMod_c7 (k + 1) s3 s4 s5 s6 s28 =
 interchangeref1_DivMod_c3 k s3 s4 s5 s6 s28 := by kernel_rfl
theorem interchangeref1_DivMod_c11_eq (k : Nat) (s3 : Bool × List Int) (s4 : Bool × List Int) (s5 : Bool × List Int) (s6 : List Int) (s10 : Bool × List Int) (s11 : Bool × List Int) (s12 : Bool × List Int) (s13 : Int) : interchangeref1_DivMod_c11 (k + 1) s3 s4 s5 s6 s10 s11 s12 s13 =
 cond (decide (s13 ≥ 0)) (
 (interchangeref1_TimesOf k s10 s12).bind fun y3 =>
 (interchangeref1_TimesOf k s11 s12).bind fun y4 =>
 cond (decide (0 ≤ s13)) (
 cond (decide (s13 < (s6.length : Int))) (
 (interchangeref1_Of k (s6.getD s13.toNat 0)).bind fun y5 =>
 (interchangeref1_Plus k y4 y5).bind fun y6 =>
 (interchangeref1_Cmp k y6 s3).bind fun y7 =>
 cond (decide (y7 ≥ 0)) (
 (interchangeref1_Of k 1).bind fun y8 =>
 (interchangeref1_Plus k y3 y8).bind fun y9 =>
 (interchangeref1_Minus k s3).bind fun y10 =>
 (interchangeref1_Plus k y6 y10).bind fun y11 =>
 interchangeref1_DivMod_c11 k s3 s4 s5 s6 y9 y11 s12 (wi64 (s13 - 1))) (
 interchangeref1_DivMod_c11 k s3 s4 s5 s6 y3 y6 s12 (wi64 (s13 - 1)))) none) none) (
 some (s10, s11)) := by kernel_rfl
theorem interchangeref1_Small_eq (k : Nat) (a : Bool × List Int) (b : Int) : interchangeref1_Small (k + 1) a b =
 (interchangeref1_Of k b).bind fun y0 =>
 (interchangeref1_sizes k a.2 y0.2).bind fun y1 =>
 cond (decide (y1 > 0)) (
 some (0, false)) (
 interchangeref1_Small_c5 k a 0 (wi64 ((a.2.length : Int) - 1))) := by kernel_rfl
theorem interchangeref1_Small_c5_eq (k : Nat) (s2 : Bool × List Int) (s6 : Int) (s7 : Int) : interchangeref1_Small_c5 (k + 1) s2 s6 s7 =
 cond (decide (s7 ≥ 0)) (
 cond (decide (0 ≤ s7)) (
 cond (decide (s7 < (s2.2.length : Int))) (
 interchangeref1_Small_c5 k s2 (wi64 ((wi64 (s6 * 1000000)) + (s2.2.getD s7.toNat 0))) (wi64 (s7 - 1))) none) none) (
 cond s2.1 (
 some ((wi64 (0 - s6)), true)) (
 some (s6, true))) := by kernel_rfl
theorem interchangeref1_CheckDecimal_eq (k : Nat) (a : Int × Int) : interchangeref1_CheckDecimal (k + 1) a =
 (interchangeref1_within k a.1 (-1000000000000000) 1000000000000000).bind fun y0 =>
 (cond (!(!y0)) (interchangeref1_within k a.2 0 9) (some false)).bind fun y1 =>
 cond (cond (!y0) true (!y1)) (
 some 1) (
 some 0) := by kernel_rfl
theorem interchangeref1_Text_eq (k : Nat) (a : Int × Int) : interchangeref1_Text (k + 1) a =
 (interchangeref1_CheckDecimal k a).bind fun y0 =>
 cond (y0 != 0) (
 some ((bs []), 1)) (
 (strconv_Itoa k (maxI a.1 (wi64 (0 - a.1)))).bind fun y1 =>
 (strings_Repeat k (bs [48]) (maxI 0 (wi64 ((wi64 (a.2 + 1)) - (y1.size : Int))))).bind fun y2 =>
 cond (decide (y2.size + y1.size ≤ 9223372036854775807)) (
 cond (decide (a.2 > 0)) (
 cond (decide (0 ≤ (wi64 (((y2 ++ y1).size : Int) - a.2)))) (
 cond (decide ((wi64 (((y2 ++ y1).size : Int) - a.2)) ≤ ((y2 ++ y1).size : Int))) (
 cond (decide (((y2 ++ y1).extract 0 (wi64 (((y2 ++ y1).size : Int) - a.2)).toNat).size + 1 ≤ 9223372036854775807)) (
 cond (decide (0 ≤ (wi64 (((y2 ++ y1).size : Int) - a.2)))) (
 cond (decide ((wi64 (((y2 ++ y1).size : Int) - a.2)) ≤ ((y2 ++ y1).size : Int))) (
 cond (decide ((((y2 ++ y1).extract 0 (wi64 (((y2 ++ y1).size : Int) - a.2)).toNat) ++ (bs [46])).size + ((y2 ++ y1).extract (wi64 (((y2 ++ y1).size : Int) - a.2)).toNat (y2 ++ y1).size).size ≤ 9223372036854775807)) (
 cond (decide (a.1 < 0)) (
 cond (decide (1 + ((((y2 ++ y1).extract 0 (wi64 (((y2 ++ y1).size : Int) - a.2)).toNat) ++ (bs [46])) ++ ((y2 ++ y1).extract (wi64 (((y2 ++ y1).size : Int) - a.2)).toNat (y2 ++ y1).size)).size ≤ 9223372036854775807)) (
 some (((bs [45]) ++ ((((y2 ++ y1).extract 0 (wi64 (((y2 ++ y1).size : Int) - a.2)).toNat) ++ (bs [46])) ++ ((y2 ++ y1).extract (wi64 (((y2 ++ y1).size : Int) - a.2)).toNat (y2 ++ y1).size))), 0)) none) (
 some (((((y2 ++ y1).extract 0 (wi64 (((y2 ++ y1).size : Int) - a.2)).toNat) ++ (bs [46])) ++ ((y2 ++ y1).extract (wi64 (((y2 ++ y1).size : Int) - a.2)).toNat (y2 ++ y1).size)), 0))) none) none) none) none) none) none) (
 cond (decide (a.1 < 0)) (
 cond (decide (1 + (y2 ++ y1).size ≤ 9223372036854775807)) (
 some (((bs [45]) ++ (y2 ++ y1)), 0)) none) (
 some ((y2 ++ y1), 0)))) none) := by kernel_rfl
theorem interchangeref6_told_eq (k : Nat) (a : Bool × List Int) : interchangeref6_told (k + 1) a =
 interchangeref6_told_c2 k a 9 := by kernel_rfl
theorem interchangeref6_told_c2_eq (k : Nat) (s1 : Bool × List Int) (s4 : Int) : interchangeref6_told_c2 (k + 1) s1 s4 =
 cond (decide (s4 > 0)) (
 (interchangeref1_Of k 10).bind fun y0 =>
 (interchangeref1_DivMod k (false, s1.2) y0).bind fun y1 =>
 (interchangeref1_Sign k y1.2).bind fun y2 =>
 cond (y2 != 0) (
 (interchangeref1_Small k s1 1000000000000000).bind fun y3 =>
 cond (!y3.2) (
 some ((bs []), 1)) (
 (interchangeref1_Text k (y3.1, s4)).bind fun y4 =>
 some (y4.1, 0))) (
 (cond s1.1 (interchangeref1_Sign k y1.1) (some 0)).bind fun y5 =>
 interchangeref6_told_c2 k ((cond s1.1 (y5 != 0) false), y1.1.2) (wi64 (s4 - 1)))) (
 (interchangeref1_Small k s1 1000000000000000).bind fun y6 =>
 cond (!y6.2) (
 some ((bs []), 1)) (
 (interchangeref1_Text k (y6.1, s4)).bind fun y7 =>
 some (y7.1, 0))) := by kernel_rfl
theorem interchangeref6_CheckTotals_eq (k : Nat) (a : QF) (b : List QR) : interchangeref6_CheckTotals (k + 1) a b =
 (interchangeref6_CheckOrder k a b).bind fun y0 =>
 cond (y0.2 != 0) (
 some (0, y0.2)) (
 cond (eqS a.2.2.2.2.1 (bs [])) (
 some (0, 9)) (
 (interchangeref6_kindOf k a a.2.2.2.2.1).bind fun y1 =>
 cond (decide (0 ≤ y1)) (
 cond (decide (y1 < (a.2.2.1.length : Int))) (
 cond (decide (0 ≤ (wi64 ((b.length : Int) - 1)))) (
 cond (decide ((wi64 ((b.length : Int) - 1)) < (b.length : Int))) (
 (cond (!(eqS a.2.2.2.2.2.1 (bs []))) (interchangeref6_columnOf k (((a.2.2.1.getD y1.toNat ((bs []), ([], (0, (bs []))))).1), ((((a.2.2.1.getD y1.toNat ((bs []), ([], (0, (bs []))))).2).1), (((((a.2.2.1.getD y1.toNat ((bs []), ([], (0, (bs []))))).2).2).1), ((((a.2.2.1.getD y1.toNat ((bs []), ([], (0, (bs []))))).2).2).2)))) a.2.2.2.2.2.1) (some 0)).bind fun y2 =>
 cond ((!(!(eqS a.2.2.2.2.2.1 (bs [])))) || (decide (0 ≤ y2))) (
 cond ((!(!(eqS a.2.2.2.2.2.1 (bs [])))) || (decide (y2 < (((b.getD (wi64 ((b.length : Int) - 1)).toNat ((bs []), [])).2).length : Int)))) (
 (cond (!(eqS a.2.2.2.2.2.1 (bs []))) (interchangeref6_count k a b) (some 0)).bind fun y3 =>
 (cond (!(eqS a.2.2.2.2.2.1 (bs []))) (strconv_Itoa k y3) (some (bs []))).bind fun y4 =>
 cond (cond (!(eqS a.2.2.2.2.2.1 (bs []))) (!(eqS (((b.getD (wi64 ((b.length : Int) - 1)).toNat ((bs []), [])).2).getD y2.toNat (bs [])) y4)) false) (
 some (0, 12)) (
 cond (eqS a.2.2.2.2.2.2 (bs [])) (
 some (0, 0)) (
 (interchangeref6_sum k a b).bind fun y5 =>
 cond (y5.2 != 0) (
 some (1, y5.2)) (
 (interchangeref6_told k y5.1).bind fun y6 =>
 cond (y6.2 != 0) (
 some (1, y6.2)) (
 (interchangeref6_columnOf k (((a.2.2.1.getD y1.toNat ((bs []), ([], (0, (bs []))))).1), ((((a.2.2.1.getD y1.toNat ((bs []), ([], (0, (bs []))))).2).1), (((((a.2.2.1.getD y1.toNat ((bs []), ([], (0, (bs []))))).2).2).1), ((((a.2.2.1.getD y1.toNat ((bs []), ([], (0, (bs []))))).2).2).2)))) a.2.2.2.2.2.2).bind fun y7 =>
 cond (decide (0 ≤ y7)) (
 cond (decide (y7 < (((b.getD (wi64 ((b.length : Int) - 1)).toNat ((bs []), [])).2).length : Int))) (
 cond (!(eqS (((b.getD (wi64 ((b.length : Int) - 1)).toNat ((bs []), [])).2).getD y7.toNat (bs [])) y6.1)) (
 some (1, 12)) (
 some (0, 0))) none) none))))) none) none) none) none) none) none)) := by kernel_rfl
theorem flat_inner_eq (k : Nat) (a : QF) (b : List QR) : flat_inner (k + 1) a b =
 flat_inner_c3 k a [] b (b.length : Int) 0 := by kernel_rfl
theorem flat_inner_c3_eq (k : Nat) (s2 : QF) (s5 : List QR) (s8 : List QR) (s9 : Int) (s10 : Int) : flat_inner_c3 (k + 1) s2 s5 s8 s9 s10 =
 cond (decide (s10 < s9)) (
 cond (decide (0 ≤ s10)) (
 cond (decide (s10 < (s8.length : Int))) (
 cond (cond (cond (eqS s2.2.2.2.1 (bs [])) true (!(eqS ((s8.getD s10.toNat ((bs []), [])).1) s2.2.2.2.1))) (cond (eqS s2.2.2.2.2.1 (bs [])) true (!(eqS ((s8.getD s10.toNat ((bs []), [])).1) s2.2.2.2.2.1))) false) (
 cond (decide (s5.length + 1 < 3518437208883)) (
 flat_inner_c3 k s2 (s5 ++ [(((s8.getD s10.toNat ((bs []), [])).1), ((s8.getD s10.toNat ((bs []), [])).2))]) s8 s9 (wi64 (s10 + 1))) none) (
 flat_inner_c3 k s2 s5 s8 s9 (wi64 (s10 + 1)))) none) none) (
 some s5) := by kernel_rfl
theorem flat_inner_1_eq (k : Nat) (a : QF) (b : List QR) : flat_inner_1 (k + 1) a b =
 flat_inner_1_c3 k a [] b (b.length : Int) 0 := by kernel_rfl
theorem flat_inner_1_c3_eq (k : Nat) (s2 : QF) (s5 : List QR) (s8 : List QR) (s9 : Int) (s10 : Int) : flat_inner_1_c3 (k + 1) s2 s5 s8 s9 s10 =
 cond (decide (s10 < s9)) (
 cond (decide (0 ≤ s10)) (
 cond (decide (s10 < (s8.length : Int))) (
 cond (cond (cond (eqS s2.2.2.2.1 (bs [])) true (!(eqS ((s8.getD s10.toNat ((bs []), [])).1) s2.2.2.2.1))) (cond (eqS s2.2.2.2.2.1 (bs [])) true (!(eqS ((s8.getD s10.toNat ((bs []), [])).1) s2.2.2.2.2.1))) false) (
 cond (decide (s5.length + 1 < 3518437208883)) (
 flat_inner_1_c3 k s2 (s5 ++ [(((s8.getD s10.toNat ((bs []), [])).1), ((s8.getD s10.toNat ((bs []), [])).2))]) s8 s9 (wi64 (s10 + 1))) none) (
 flat_inner_1_c3 k s2 s5 s8 s9 (wi64 (s10 + 1)))) none) none) (
 some s5) := by kernel_rfl
theorem flat_sumFault_1_r_eq (k : Nat) (a : QR) (b : QF) : flat_sumFault_1_r (k + 1) a b =
 (flat_kindAt k b a.1).bind fun y0 =>
 (flat_columnAt k y0.1 b.2.2.2.2.2.2).bind fun y1 =>
 cond ((!(decide (y1 ≥ 0))) || (decide (0 ≤ y1))) (
 cond ((!(decide (y1 ≥ 0))) || (decide (y1 < (y0.1.2.1.length : Int)))) (
 some (cond (decide (y1 ≥ 0)) ((((y0.1.2.1.getD y1.toNat ((bs []), (0, (0, (0, (0, (false, (0, false)))))))).2).1) != 2) false)) none) none := by kernel_rfl
theorem slices_IndexFunc_Lapi_Row_api_Row_of_flat_sumFault_1_eq (k : Nat) (a : List QR) (b : QF) : slices_IndexFunc_Lapi_Row_api_Row_of_flat_sumFault_1 (k + 1) a b =
 slices_IndexFunc_Lapi_Row_api_Row_of_flat_sumFault_1_c2 k a b (a.length : Int) 0 := by kernel_rfl
theorem slices_IndexFunc_Lapi_Row_api_Row_of_flat_sumFault_1_c2_eq (k : Nat) (s0 : List QR) (s1 : QF) (s7 : Int) (s8 : Int) : slices_IndexFunc_Lapi_Row_api_Row_of_flat_sumFault_1_c2 (k + 1) s0 s1 s7 s8 =
 cond (decide (s8 < s7)) (
 cond (decide (0 ≤ s8)) (
 cond (decide (s8 < (s0.length : Int))) (
 (flat_sumFault_1_r k (((s0.getD s8.toNat ((bs []), [])).1), ((s0.getD s8.toNat ((bs []), [])).2)) s1).bind fun y0 =>
 cond y0 (
 some s8) (
 slices_IndexFunc_Lapi_Row_api_Row_of_flat_sumFault_1_c2 k s0 s1 s7 (wi64 (s8 + 1)))) none) none) (
 some (-1)) := by kernel_rfl
theorem slices_ContainsFunc_Lapi_Row_api_Row_of_flat_sumFault_1_eq (k : Nat) (a : List QR) (b : QF) : slices_ContainsFunc_Lapi_Row_api_Row_of_flat_sumFault_1 (k + 1) a b =
 (slices_IndexFunc_Lapi_Row_api_Row_of_flat_sumFault_1 k a b).bind fun y0 =>
 some (decide (y0 ≥ 0)) := by kernel_rfl
theorem flat_sumFault_eq (k : Nat) (a : QF) (b : List QR) : flat_sumFault (k + 1) a b =
 (cond (!(eqS a.2.2.2.2.2.2 (bs []))) (slices_ContainsFunc_Lapi_Row_api_Row_of_flat_sumFault_1 k b a) (some false)).bind fun y0 =>
 some (cond (!(eqS a.2.2.2.2.2.2 (bs []))) y0 false) := by kernel_rfl
theorem amount_Value_eq (k : Nat) (a : Int × Int) : amount_Value (k + 1) a =
 (amount_Scaled k a 9).bind fun y0 =>
 some y0 := by kernel_rfl
theorem whole_Int_By_eq (k : Nat) (a : Bool × List Int) (b : Bool × List Int) : whole_Int_By (k + 1) a b =
 cond (decide (0 ≤ (a.2.length : Int))) (
 cond (decide ((a.2.length : Int).toNat ≤ 35184372088832)) (
 whole_Int_By_c4 k a b (false, []) (false, []) (List.replicate (a.2.length : Int).toNat 0) [] (wi64 ((wi64 ((a.2.length : Int) * 32)) - 1))) none) none := by kernel_rfl
theorem whole_Int_By_c4_eq (k : Nat) (s2 : Bool × List Int) (s3 : Bool × List Int) (s4 : Bool × List Int) (s5 : Bool × List Int) (s6 : List Int) (s7 : List Int) (s8 : Int) : whole_Int_By_c4 (k + 1) s2 s3 s4 s5 s6 s7 s8 =
 cond (decide (s8 ≥ 0)) (
 (whole_sum k s7 s7).bind fun y0 =>
 cond (decide (0 < (y0.length : Int))) (
 cond (decide (0 ≤ (wi64 (s8.tdiv 32)))) (
 cond (decide ((wi64 (s8.tdiv 32)) < (s2.2.length : Int))) (
 cond (decide (0 ≤ (s8.tmod 32))) (
 cond (decide (0 < (y0.length : Int))) (
 (whole_trimmed k (y0.set 0 (bitsI .or .u32 (y0.getD 0 0) (bitsI .and .u32 (shrI .u32 (s2.2.getD (wi64 (s8.tdiv 32)).toNat 0) (s8.tmod 32)) 1)))).bind fun y1 =>
 (whole_compare k y1 s3.2).bind fun y2 =>
 cond (decide (y2 ≥ 0)) (
 (whole_less k y1 s3.2).bind fun y3 =>
 cond (decide (0 ≤ (wi64 (s8.tdiv 32)))) (
 cond (decide ((wi64 (s8.tdiv 32)) < (s6.length : Int))) (
 cond (decide (0 ≤ (s8.tmod 32))) (
 cond (decide (0 ≤ (wi64 (s8.tdiv 32)))) (
 cond (decide ((wi64 (s8.tdiv 32)) < (s6.length : Int))) (
 whole_Int_By_c4 k s2 s3 s4 s5 (s6.set (wi64 (s8.tdiv 32)).toNat (bitsI .or .u32 (s6.getD (wi64 (s8.tdiv 32)).toNat 0) (shlI .u32 1 (s8.tmod 32)))) y3 (wi64 (s8 - 1))) none) none) none) none) none) (
 whole_Int_By_c4 k s2 s3 s4 s5 s6 y1 (wi64 (s8 - 1)))) none) none) none) none) none) (
 (whole_made k false s6).bind fun y4 =>
 (whole_made k false s7).bind fun y5 =>
 some (y4, y5)) := by kernel_rfl
theorem amount_Fewest_eq (k : Nat) (a : Bool × List Int) (b : Int) : amount_Fewest (k + 1) a b =
 (whole_Of k 10).bind fun y0 =>
 amount_Fewest_c2 k b a (0, 0) y0 := by kernel_rfl
theorem amount_Fewest_c2_eq (k : Nat) (s1 : Int) (s2 : Bool × List Int) (s4 : Int × Int) (s6 : Bool × List Int) : amount_Fewest_c2 (k + 1) s1 s2 s4 s6 =
 cond (decide (s1 > 0)) (
 (whole_Int_By k s2 s6).bind fun y1 =>
 (whole_Int_Sign k y1.2).bind fun y2 =>
 cond (y2 != 0) (
 (amount_Made k s2 s1).bind fun y3 =>
 some y3) (
 (whole_Int_Sign k s2).bind fun y4 =>
 cond (decide (y4 < 0)) (
 (whole_Int_Minus k y1.1).bind fun y5 =>
 amount_Fewest_c2 k (wi64 (s1 - 1)) y5 s4 s6) (
 amount_Fewest_c2 k (wi64 (s1 - 1)) y1.1 s4 s6))) (
 (amount_Made k s2 s1).bind fun y6 =>
 some y6) := by kernel_rfl
theorem flat_sumOf_eq (k : Nat) (a : QF) (b : List QR) (c : ByteArray) (d : ByteArray) : flat_sumOf (k + 1) a b c d =
 (whole_Of k 0).bind fun y0 =>
 flat_sumOf_c3 k c d a (0, 0) y0 b (b.length : Int) 0 := by kernel_rfl
theorem flat_sumOf_c3_eq (k : Nat) (s2 : ByteArray) (s3 : ByteArray) (s4 : QF) (s8 : Int × Int) (s10 : Bool × List Int) (s19 : List QR) (s20 : Int) (s21 : Int) : flat_sumOf_c3 (k + 1) s2 s3 s4 s8 s10 s19 s20 s21 =
 cond (decide (s21 < s20)) (
 cond (decide (0 ≤ s21)) (
 cond (decide (s21 < (s19.length : Int))) (
 (flat_kindAt k s4 ((s19.getD s21.toNat ((bs []), [])).1)).bind fun y1 =>
 (flat_columnAt k y1.1 s3).bind fun y2 =>
 cond ((!(!(cond (cond (!(eqS s2 (bs []))) (!(eqS ((s19.getD s21.toNat ((bs []), [])).1) s2)) false) true (decide (y2 < 0))))) || (decide (0 ≤ y2))) (
 cond ((!(!(cond (cond (!(eqS s2 (bs []))) (!(eqS ((s19.getD s21.toNat ((bs []), [])).1) s2)) false) true (decide (y2 < 0))))) || (decide (y2 < (((s19.getD s21.toNat ((bs []), [])).2).length : Int)))) (
 cond (cond (cond (cond (!(eqS s2 (bs []))) (!(eqS ((s19.getD s21.toNat ((bs []), [])).1) s2)) false) true (decide (y2 < 0))) true (eqS (((s19.getD s21.toNat ((bs []), [])).2).getD y2.toNat (bs [])) (bs []))) (
 flat_sumOf_c3 k s2 s3 s4 s8 s10 s19 s20 (wi64 (s21 + 1))) (
 cond (decide (0 ≤ y2)) (
 cond (decide (y2 < (((s19.getD s21.toNat ((bs []), [])).2).length : Int))) (
 (amount_ReadText k (((s19.getD s21.toNat ((bs []), [])).2).getD y2.toNat (bs []))).bind fun y3 =>
 (amount_Value k y3.1).bind fun y4 =>
 (whole_Int_Plus k s10 y4).bind fun y5 =>
 flat_sumOf_c3 k s2 s3 s4 s8 y5 s19 s20 (wi64 (s21 + 1))) none) none)) none) none) none) none) (
 (amount_Fewest k s10 9).bind fun y6 =>
 some y6) := by kernel_rfl
theorem amount_CheckDecimal_eq (k : Nat) (a : Int × Int) : amount_CheckDecimal (k + 1) a =
 (kit_Outside k a.1 (-1000000000000000) 1000000000000000).bind fun y0 =>
 (cond (!y0) (kit_Outside k a.2 0 9) (some false)).bind fun y1 =>
 cond (cond y0 true y1) (
 some 1) (
 some 0) := by kernel_rfl
theorem whole_Int_Abs_eq (k : Nat) (a : Bool × List Int) : whole_Int_Abs (k + 1) a =
 (whole_made k false a.2).bind fun y0 =>
 some y0 := by kernel_rfl
theorem amount_pointed_eq (k : Nat) (a : ByteArray) (b : Int) : amount_pointed (k + 1) a b =
 (strings_Repeat k (bs [48]) (maxI 0 (wi64 ((wi64 (b + 1)) - (a.size : Int))))).bind fun y0 =>
 cond (decide (y0.size + a.size ≤ 9223372036854775807)) (
 cond (decide (0 ≤ (wi64 (((y0 ++ a).size : Int) - b)))) (
 cond (decide ((wi64 (((y0 ++ a).size : Int) - b)) ≤ ((y0 ++ a).size : Int))) (
 cond (decide (0 ≤ (wi64 (((y0 ++ a).size : Int) - b)))) (
 cond (decide ((wi64 (((y0 ++ a).size : Int) - b)) ≤ ((y0 ++ a).size : Int))) (
 some (((y0 ++ a).extract 0 (wi64 (((y0 ++ a).size : Int) - b)).toNat), ((y0 ++ a).extract (wi64 (((y0 ++ a).size : Int) - b)).toNat (y0 ++ a).size))) none) none) none) none) none := by kernel_rfl
theorem amount_sign_eq (k : Nat) (a : Int × Int) : amount_sign (k + 1) a =
 cond (decide (a.1 < 0)) (
 some (bs [45])) (
 some (bs [])) := by kernel_rfl
theorem amount_Text_eq (k : Nat) (a : Int × Int) : amount_Text (k + 1) a =
 (amount_CheckDecimal k a).bind fun y0 =>
 cond (y0 != 0) (
 some ((bs []), y0)) (
 (whole_Of k a.1).bind fun y1 =>
 (whole_Int_Abs k y1).bind fun y2 =>
 (whole_Int_Text k y2).bind fun y3 =>
 (amount_pointed k y3 a.2).bind fun y4 =>
 cond (a.2 == 0) (
 (amount_sign k a).bind fun y5 =>
 cond (decide (y5.size + y4.1.size ≤ 9223372036854775807)) (
 some ((y5 ++ y4.1), 0)) none) (
 (amount_sign k a).bind fun y6 =>
 cond (decide (y6.size + y4.1.size ≤ 9223372036854775807)) (
 cond (decide ((y6 ++ y4.1).size + 1 ≤ 9223372036854775807)) (
 cond (decide (((y6 ++ y4.1) ++ (bs [46])).size + y4.2.size ≤ 9223372036854775807)) (
 some ((((y6 ++ y4.1) ++ (bs [46])) ++ y4.2), 0)) none) none) none)) := by kernel_rfl
theorem amount_Told_eq (k : Nat) (a : Int × Int) : amount_Told (k + 1) a =
 (amount_Text k a).bind fun y0 =>
 some y0.1 := by kernel_rfl
theorem flat_CheckTotals_eq (k : Nat) (a : QF) (b : List QR) : flat_CheckTotals (k + 1) a b =
 (flat_CheckOrder k a b).bind fun y0 =>
 cond (y0.2 != 0) (
 some (0, y0.2)) (
 cond (eqS a.2.2.2.2.1 (bs [])) (
 some (0, 9)) (
 (flat_kindAt k a a.2.2.2.2.1).bind fun y1 =>
 cond (decide (0 ≤ (wi64 ((b.length : Int) - 1)))) (
 cond (decide ((wi64 ((b.length : Int) - 1)) < (b.length : Int))) (
 (cond (!(eqS a.2.2.2.2.2.1 (bs []))) (flat_columnAt k y1.1 a.2.2.2.2.2.1) (some 0)).bind fun y2 =>
 cond ((!(!(eqS a.2.2.2.2.2.1 (bs [])))) || (decide (0 ≤ y2))) (
 cond ((!(!(eqS a.2.2.2.2.2.1 (bs [])))) || (decide (y2 < (((b.getD (wi64 ((b.length : Int) - 1)).toNat ((bs []), [])).2).length : Int)))) (
 (cond (!(eqS a.2.2.2.2.2.1 (bs []))) (flat_inner_1 k a b) (some [])).bind fun y3 =>
 (cond (!(eqS a.2.2.2.2.2.1 (bs []))) (strconv_Itoa k (y3.length : Int)) (some (bs []))).bind fun y4 =>
 cond (cond (!(eqS a.2.2.2.2.2.1 (bs []))) (!(eqS (((b.getD (wi64 ((b.length : Int) - 1)).toNat ((bs []), [])).2).getD y2.toNat (bs [])) y4)) false) (
 some (0, 12)) (
 cond (eqS a.2.2.2.2.2.2 (bs [])) (
 some (0, 0)) (
 (flat_inner k a b).bind fun y5 =>
 (flat_sumFault k a y5).bind fun y6 =>
 cond y6 (
 some (1, 6)) (
 (flat_inner k a b).bind fun y7 =>
 (flat_sumOf k a y7 (bs []) a.2.2.2.2.2.2).bind fun y8 =>
 cond (y8.2 != 0) (
 some (1, y8.2)) (
 (flat_columnAt k y1.1 a.2.2.2.2.2.2).bind fun y9 =>
 cond (decide (0 ≤ y9)) (
 cond (decide (y9 < (((b.getD (wi64 ((b.length : Int) - 1)).toNat ((bs []), [])).2).length : Int))) (
 (amount_Told k y8.1).bind fun y10 =>
 cond (!(eqS (((b.getD (wi64 ((b.length : Int) - 1)).toNat ((bs []), [])).2).getD y9.toNat (bs [])) y10)) (
 some (1, 12)) (
 some (0, 0))) none) none))))) none) none) none) none)) := by kernel_rfl
theorem slices_Clone_Lstring_string_eq (k : Nat) (a : List ByteArray) : slices_Clone_Lstring_string (k + 1) a =
 cond a.isEmpty (
 bothA (.sl .str) (
 some ([])) (
 cond (decide (0 + a.length < 8796093022208)) (
 some ([] ++ a)) none)) (
 cond (decide (0 + a.length < 8796093022208)) (
 some ([] ++ a)) none) := by kernel_rfl
theorem interchangeref6_clone_eq (k : Nat) (a : QR) : interchangeref6_clone (k + 1) a =
 (slices_Clone_Lstring_string k a.2).bind fun y0 =>
 some (a.1, y0) := by kernel_rfl
theorem slices_Clone_Lapi_Row_api_Row_eq (k : Nat) (a : List QR) : slices_Clone_Lapi_Row_api_Row (k + 1) a =
 cond a.isEmpty (
 bothA (.sl eR) (
 some ([])) (
 cond (decide (0 + a.length < 3518437208883)) (
 some ([] ++ a)) none)) (
 cond (decide (0 + a.length < 3518437208883)) (
 some ([] ++ a)) none) := by kernel_rfl
theorem interchangeref6_Closed_eq (k : Nat) (a : QF) (b : List QR) : interchangeref6_Closed (k + 1) a b =
 (interchangeref6_CheckFormat k a).bind fun y0 =>
 cond (y0 != 0) (
 some ([], y0)) (
 cond (eqS a.2.2.2.2.1 (bs [])) (
 some ([], 9)) (
 cond (decide ((b.length : Int) > 2000)) (
 some ([], 2)) (
 (interchangeref6_checkRows k a b).bind fun y1 =>
 cond (y1.2 != 0) (
 some ([], y1.2)) (
 (interchangeref6_kindOf k a a.2.2.2.2.1).bind fun y2 =>
 cond (decide (0 ≤ y2)) (
 cond (decide (y2 < (a.2.2.1.length : Int))) (
 cond (decide (0 ≤ ((((a.2.2.1.getD y2.toNat ((bs []), ([], (0, (bs []))))).2).1).length : Int))) (
 cond (decide (((((a.2.2.1.getD y2.toNat ((bs []), ([], (0, (bs []))))).2).1).length : Int).toNat ≤ 8796093022208)) (
 cond ((!(decide ((b.length : Int) > 0))) || (decide (0 ≤ (wi64 ((b.length : Int) - 1))))) (
 cond ((!(decide ((b.length : Int) > 0))) || (decide ((wi64 ((b.length : Int) - 1)) < (b.length : Int)))) (
 cond (cond (decide ((b.length : Int) > 0)) (eqS ((b.getD (wi64 ((b.length : Int) - 1)).toNat ((bs []), [])).1) a.2.2.2.2.1) false) (
 cond (decide (0 ≤ (wi64 ((b.length : Int) - 1)))) (
 cond (decide ((wi64 ((b.length : Int) - 1)) < (b.length : Int))) (
 (interchangeref6_clone k (((b.getD (wi64 ((b.length : Int) - 1)).toNat ((bs []), [])).1), ((b.getD (wi64 ((b.length : Int) - 1)).toNat ((bs []), [])).2))).bind fun y3 =>
 cond (decide (0 ≤ (wi64 ((b.length : Int) - 1)))) (
 cond (decide ((wi64 ((b.length : Int) - 1)) ≤ (b.length : Int))) (
 cond (!(eqS a.2.2.2.2.2.1 (bs []))) (
 (interchangeref6_columnOf k (((a.2.2.1.getD y2.toNat ((bs []), ([], (0, (bs []))))).1), ((((a.2.2.1.getD y2.toNat ((bs []), ([], (0, (bs []))))).2).1), (((((a.2.2.1.getD y2.toNat ((bs []), ([], (0, (bs []))))).2).2).1), ((((a.2.2.1.getD y2.toNat ((bs []), ([], (0, (bs []))))).2).2).2)))) a.2.2.2.2.2.1).bind fun y4 =>
 (interchangeref6_count k a (b.take (wi64 ((b.length : Int) - 1)).toNat)).bind fun y5 =>
 (strconv_Itoa k y5).bind fun y6 =>
 cond (decide (0 ≤ y4)) (
 cond (decide (y4 < (y3.2.length : Int))) (
 cond (!(eqS a.2.2.2.2.2.2 (bs []))) (
 (interchangeref6_sum k a (b.take (wi64 ((b.length : Int) - 1)).toNat)).bind fun y7 =>
 cond (y7.2 != 0) (
 some ([], y7.2)) (
 (interchangeref6_told k y7.1).bind fun y8 =>
 cond (y8.2 != 0) (
 some ([], y8.2)) (
 (interchangeref6_columnOf k (((a.2.2.1.getD y2.toNat ((bs []), ([], (0, (bs []))))).1), ((((a.2.2.1.getD y2.toNat ((bs []), ([], (0, (bs []))))).2).1), (((((a.2.2.1.getD y2.toNat ((bs []), ([], (0, (bs []))))).2).2).1), ((((a.2.2.1.getD y2.toNat ((bs []), ([], (0, (bs []))))).2).2).2)))) a.2.2.2.2.2.2).bind fun y9 =>
 cond (decide (0 ≤ y9)) (
 cond (decide (y9 < ((y3.2.set y4.toNat y6).length : Int))) (
 (interchangeref6_checkRow k a (y3.1, ((y3.2.set y4.toNat y6).set y9.toNat y8.1))).bind fun y10 =>
 cond (y10.2 != 0) (
 some ([], y10.2)) (
 (slices_Clone_Lapi_Row_api_Row k (b.take (wi64 ((b.length : Int) - 1)).toNat)).bind fun y11 =>
 cond (decide (y11.length + 1 < 3518437208883)) (
 cond (decide (((y11 ++ [(y3.1, ((y3.2.set y4.toNat y6).set y9.toNat y8.1))]).length : Int) > 2000)) (
 some ([], 2)) (
 some ((y11 ++ [(y3.1, ((y3.2.set y4.toNat y6).set y9.toNat y8.1))]), 0))) none)) none) none))) (
 (interchangeref6_checkRow k a (y3.1, (y3.2.set y4.toNat y6))).bind fun y12 =>
 cond (y12.2 != 0) (
 some ([], y12.2)) (
 (slices_Clone_Lapi_Row_api_Row k (b.take (wi64 ((b.length : Int) - 1)).toNat)).bind fun y13 =>
 cond (decide (y13.length + 1 < 3518437208883)) (
 cond (decide (((y13 ++ [(y3.1, (y3.2.set y4.toNat y6))]).length : Int) > 2000)) (
 some ([], 2)) (
 some ((y13 ++ [(y3.1, (y3.2.set y4.toNat y6))]), 0))) none))) none) none) (
 cond (!(eqS a.2.2.2.2.2.2 (bs []))) (
 (interchangeref6_sum k a (b.take (wi64 ((b.length : Int) - 1)).toNat)).bind fun y14 =>
 cond (y14.2 != 0) (
 some ([], y14.2)) (
 (interchangeref6_told k y14.1).bind fun y15 =>
 cond (y15.2 != 0) (
 some ([], y15.2)) (
 (interchangeref6_columnOf k (((a.2.2.1.getD y2.toNat ((bs []), ([], (0, (bs []))))).1), ((((a.2.2.1.getD y2.toNat ((bs []), ([], (0, (bs []))))).2).1), (((((a.2.2.1.getD y2.toNat ((bs []), ([], (0, (bs []))))).2).2).1), ((((a.2.2.1.getD y2.toNat ((bs []), ([], (0, (bs []))))).2).2).2)))) a.2.2.2.2.2.2).bind fun y16 =>
 cond (decide (0 ≤ y16)) (
 cond (decide (y16 < (y3.2.length : Int))) (
 (interchangeref6_checkRow k a (y3.1, (y3.2.set y16.toNat y15.1))).bind fun y17 =>
 cond (y17.2 != 0) (
 some ([], y17.2)) (
 (slices_Clone_Lapi_Row_api_Row k (b.take (wi64 ((b.length : Int) - 1)).toNat)).bind fun y18 =>
 cond (decide (y18.length + 1 < 3518437208883)) (
 cond (decide (((y18 ++ [(y3.1, (y3.2.set y16.toNat y15.1))]).length : Int) > 2000)) (
 some ([], 2)) (
 some ((y18 ++ [(y3.1, (y3.2.set y16.toNat y15.1))]), 0))) none)) none) none))) (
 (interchangeref6_checkRow k a y3).bind fun y19 =>
 cond (y19.2 != 0) (
 some ([], y19.2)) (
 (slices_Clone_Lapi_Row_api_Row k (b.take (wi64 ((b.length : Int) - 1)).toNat)).bind fun y20 =>
 cond (decide (y20.length + 1 < 3518437208883)) (
 cond (decide (((y20 ++ [y3]).length : Int) > 2000)) (
 some ([], 2)) (
 some ((y20 ++ [y3]), 0))) none)))) none) none) none) none) (
 cond (!(eqS a.2.2.2.2.2.1 (bs []))) (
 (interchangeref6_columnOf k (((a.2.2.1.getD y2.toNat ((bs []), ([], (0, (bs []))))).1), ((((a.2.2.1.getD y2.toNat ((bs []), ([], (0, (bs []))))).2).1), (((((a.2.2.1.getD y2.toNat ((bs []), ([], (0, (bs []))))).2).2).1), ((((a.2.2.1.getD y2.toNat ((bs []), ([], (0, (bs []))))).2).2).2)))) a.2.2.2.2.2.1).bind fun y21 =>
 (interchangeref6_count k a b).bind fun y22 =>
 (strconv_Itoa k y22).bind fun y23 =>
 cond (decide (0 ≤ y21)) (
 cond (decide (y21 < ((List.replicate ((((a.2.2.1.getD y2.toNat ((bs []), ([], (0, (bs []))))).2).1).length : Int).toNat (bs [])).length : Int))) (
 cond (!(eqS a.2.2.2.2.2.2 (bs []))) (
 (interchangeref6_sum k a b).bind fun y24 =>
 cond (y24.2 != 0) (
 some ([], y24.2)) (
 (interchangeref6_told k y24.1).bind fun y25 =>
 cond (y25.2 != 0) (
 some ([], y25.2)) (
 (interchangeref6_columnOf k (((a.2.2.1.getD y2.toNat ((bs []), ([], (0, (bs []))))).1), ((((a.2.2.1.getD y2.toNat ((bs []), ([], (0, (bs []))))).2).1), (((((a.2.2.1.getD y2.toNat ((bs []), ([], (0, (bs []))))).2).2).1), ((((a.2.2.1.getD y2.toNat ((bs []), ([], (0, (bs []))))).2).2).2)))) a.2.2.2.2.2.2).bind fun y26 =>
 cond (decide (0 ≤ y26)) (
 cond (decide (y26 < (((List.replicate ((((a.2.2.1.getD y2.toNat ((bs []), ([], (0, (bs []))))).2).1).length : Int).toNat (bs [])).set y21.toNat y23).length : Int))) (
 (interchangeref6_checkRow k a (a.2.2.2.2.1, (((List.replicate ((((a.2.2.1.getD y2.toNat ((bs []), ([], (0, (bs []))))).2).1).length : Int).toNat (bs [])).set y21.toNat y23).set y26.toNat y25.1))).bind fun y27 =>
 cond (y27.2 != 0) (
 some ([], y27.2)) (
 (slices_Clone_Lapi_Row_api_Row k b).bind fun y28 =>
 cond (decide (y28.length + 1 < 3518437208883)) (
 cond (decide (((y28 ++ [(a.2.2.2.2.1, (((List.replicate ((((a.2.2.1.getD y2.toNat ((bs []), ([], (0, (bs []))))).2).1).length : Int).toNat (bs [])).set y21.toNat y23).set y26.toNat y25.1))]).length : Int) > 2000)) (
 some ([], 2)) (
 some ((y28 ++ [(a.2.2.2.2.1, (((List.replicate ((((a.2.2.1.getD y2.toNat ((bs []), ([], (0, (bs []))))).2).1).length : Int).toNat (bs [])).set y21.toNat y23).set y26.toNat y25.1))]), 0))) none)) none) none))) (
 (interchangeref6_checkRow k a (a.2.2.2.2.1, ((List.replicate ((((a.2.2.1.getD y2.toNat ((bs []), ([], (0, (bs []))))).2).1).length : Int).toNat (bs [])).set y21.toNat y23))).bind fun y29 =>
 cond (y29.2 != 0) (
 some ([], y29.2)) (
 (slices_Clone_Lapi_Row_api_Row k b).bind fun y30 =>
 cond (decide (y30.length + 1 < 3518437208883)) (
 cond (decide (((y30 ++ [(a.2.2.2.2.1, ((List.replicate ((((a.2.2.1.getD y2.toNat ((bs []), ([], (0, (bs []))))).2).1).length : Int).toNat (bs [])).set y21.toNat y23))]).length : Int) > 2000)) (
 some ([], 2)) (
 some ((y30 ++ [(a.2.2.2.2.1, ((List.replicate ((((a.2.2.1.getD y2.toNat ((bs []), ([], (0, (bs []))))).2).1).length : Int).toNat (bs [])).set y21.toNat y23))]), 0))) none))) none) none) (
 cond (!(eqS a.2.2.2.2.2.2 (bs []))) (
 (interchangeref6_sum k a b).bind fun y31 =>
 cond (y31.2 != 0) (
 some ([], y31.2)) (
 (interchangeref6_told k y31.1).bind fun y32 =>
 cond (y32.2 != 0) (
 some ([], y32.2)) (
 (interchangeref6_columnOf k (((a.2.2.1.getD y2.toNat ((bs []), ([], (0, (bs []))))).1), ((((a.2.2.1.getD y2.toNat ((bs []), ([], (0, (bs []))))).2).1), (((((a.2.2.1.getD y2.toNat ((bs []), ([], (0, (bs []))))).2).2).1), ((((a.2.2.1.getD y2.toNat ((bs []), ([], (0, (bs []))))).2).2).2)))) a.2.2.2.2.2.2).bind fun y33 =>
 cond (decide (0 ≤ y33)) (
 cond (decide (y33 < ((List.replicate ((((a.2.2.1.getD y2.toNat ((bs []), ([], (0, (bs []))))).2).1).length : Int).toNat (bs [])).length : Int))) (
 (interchangeref6_checkRow k a (a.2.2.2.2.1, ((List.replicate ((((a.2.2.1.getD y2.toNat ((bs []), ([], (0, (bs []))))).2).1).length : Int).toNat (bs [])).set y33.toNat y32.1))).bind fun y34 =>
 cond (y34.2 != 0) (
 some ([], y34.2)) (
 (slices_Clone_Lapi_Row_api_Row k b).bind fun y35 =>
 cond (decide (y35.length + 1 < 3518437208883)) (
 cond (decide (((y35 ++ [(a.2.2.2.2.1, ((List.replicate ((((a.2.2.1.getD y2.toNat ((bs []), ([], (0, (bs []))))).2).1).length : Int).toNat (bs [])).set y33.toNat y32.1))]).length : Int) > 2000)) (
 some ([], 2)) (
 some ((y35 ++ [(a.2.2.2.2.1, ((List.replicate ((((a.2.2.1.getD y2.toNat ((bs []), ([], (0, (bs []))))).2).1).length : Int).toNat (bs [])).set y33.toNat y32.1))]), 0))) none)) none) none))) (
 (interchangeref6_checkRow k a (a.2.2.2.2.1, (List.replicate ((((a.2.2.1.getD y2.toNat ((bs []), ([], (0, (bs []))))).2).1).length : Int).toNat (bs [])))).bind fun y36 =>
 cond (y36.2 != 0) (
 some ([], y36.2)) (
 (slices_Clone_Lapi_Row_api_Row k b).bind fun y37 =>
 cond (decide (y37.length + 1 < 3518437208883)) (
 cond (decide (((y37 ++ [(a.2.2.2.2.1, (List.replicate ((((a.2.2.1.getD y2.toNat ((bs []), ([], (0, (bs []))))).2).1).length : Int).toNat (bs [])))]).length : Int) > 2000)) (
 some ([], 2)) (
 some ((y37 ++ [(a.2.2.2.2.1, (List.replicate ((((a.2.2.1.getD y2.toNat ((bs []), ([], (0, (bs []))))).2).1).length : Int).toNat (bs [])))]), 0))) none))))) none) none) none) none) none) none)))) := by kernel_rfl
theorem flat_cloneRows_eq (k : Nat) (a : List QR) : flat_cloneRows (k + 1) a =
 (slices_Clone_Lapi_Row_api_Row k a).bind fun y0 =>
 flat_cloneRows_c3 k y0 (y0.length : Int) 0 := by kernel_rfl
theorem flat_cloneRows_c3_eq (k : Nat) (s0 : List QR) (s8 : Int) (s9 : Int) : flat_cloneRows_c3 (k + 1) s0 s8 s9 =
 cond (decide (s9 < s8)) (
 cond (decide (0 ≤ s9)) (
 cond (decide (s9 < (s0.length : Int))) (
 (slices_Clone_Lstring_string k ((s0.getD s9.toNat ((bs []), [])).2)).bind fun y1 =>
 cond (decide (0 ≤ s9)) (
 cond (decide (s9 < (s0.length : Int))) (
 flat_cloneRows_c3 k (s0.set s9.toNat (((s0.getD s9.toNat ((bs []), [])).1), y1)) s8 (wi64 (s9 + 1))) none) none) none) none) (
 some s0) := by kernel_rfl
theorem flat_Closed_eq (k : Nat) (a : QF) (b : List QR) : flat_Closed (k + 1) a b =
 (flat_CheckFormat k a).bind fun y0 =>
 cond (y0 != 0) (
 some ([], y0)) (
 cond (eqS a.2.2.2.2.1 (bs [])) (
 some ([], 9)) (
 cond (decide ((b.length : Int) > 2000)) (
 some ([], 2)) (
 (flat_checkRows k a b).bind fun y1 =>
 cond (y1.2 != 0) (
 some ([], y1.2)) (
 (flat_inner k a b).bind fun y2 =>
 (flat_sumFault k a y2).bind fun y3 =>
 cond y3 (
 some ([], 6)) (
 (flat_kindAt k a a.2.2.2.2.1).bind fun y4 =>
 cond (decide (0 ≤ (y4.1.2.1.length : Int))) (
 cond (decide ((y4.1.2.1.length : Int).toNat ≤ 8796093022208)) (
 cond ((!(decide ((b.length : Int) > 0))) || (decide (0 ≤ (wi64 ((b.length : Int) - 1))))) (
 cond ((!(decide ((b.length : Int) > 0))) || (decide ((wi64 ((b.length : Int) - 1)) < (b.length : Int)))) (
 cond (cond (decide ((b.length : Int) > 0)) (eqS ((b.getD (wi64 ((b.length : Int) - 1)).toNat ((bs []), [])).1) a.2.2.2.2.1) false) (
 cond (decide (0 ≤ (wi64 ((b.length : Int) - 1)))) (
 cond (decide ((wi64 ((b.length : Int) - 1)) < (b.length : Int))) (
 (slices_Clone_Lstring_string k ((b.getD (wi64 ((b.length : Int) - 1)).toNat ((bs []), [])).2)).bind fun y5 =>
 cond (decide (0 ≤ (wi64 ((b.length : Int) - 1)))) (
 cond (decide ((wi64 ((b.length : Int) - 1)) ≤ (b.length : Int))) (
 flat_Closed_c19 k b a y4.1 (a.2.2.2.2.1, y5) (b.take (wi64 ((b.length : Int) - 1)).toNat)) none) none) none) none) (
 flat_Closed_c19 k b a y4.1 (a.2.2.2.2.1, (List.replicate (y4.1.2.1.length : Int).toNat (bs []))) b)) none) none) none) none))))) := by kernel_rfl
theorem flat_Closed_c19_eq (k : Nat) (s1 : List QR) (s2 : QF) (s9 : QK) (s11 : QR) (s12 : List QR) : flat_Closed_c19 (k + 1) s1 s2 s9 s11 s12 =
 cond (!(eqS s2.2.2.2.2.2.2 (bs []))) (
 (flat_inner k s2 s1).bind fun y6 =>
 (flat_sumOf k s2 y6 (bs []) s2.2.2.2.2.2.2).bind fun y7 =>
 cond (y7.2 != 0) (
 some ([], y7.2)) (
 (flat_columnAt k s9 s2.2.2.2.2.2.2).bind fun y8 =>
 (amount_Told k y7.1).bind fun y9 =>
 cond (decide (0 ≤ y8)) (
 cond (decide (y8 < (s11.2.length : Int))) (
 flat_Closed_c24 k s1 s2 s9 (s11.1, (s11.2.set y8.toNat y9)) s12) none) none)) (
 flat_Closed_c24 k s1 s2 s9 s11 s12) := by kernel_rfl
theorem flat_Closed_c24_eq (k : Nat) (s1 : List QR) (s2 : QF) (s9 : QK) (s11 : QR) (s12 : List QR) : flat_Closed_c24 (k + 1) s1 s2 s9 s11 s12 =
 cond (!(eqS s2.2.2.2.2.2.1 (bs []))) (
 (flat_columnAt k s9 s2.2.2.2.2.2.1).bind fun y10 =>
 (flat_inner k s2 s1).bind fun y11 =>
 (strconv_Itoa k (y11.length : Int)).bind fun y12 =>
 cond (decide (0 ≤ y10)) (
 cond (decide (y10 < (s11.2.length : Int))) (
 (flat_checkRow k s2 (s11.1, (s11.2.set y10.toNat y12))).bind fun y13 =>
 cond (y13.2 != 0) (
 some ([], y13.2)) (
 (flat_cloneRows k s12).bind fun y14 =>
 cond (decide (y14.length + 1 < 3518437208883)) (
 cond (decide (((y14 ++ [(s11.1, (s11.2.set y10.toNat y12))]).length : Int) > 2000)) (
 some ([], 2)) (
 some ((y14 ++ [(s11.1, (s11.2.set y10.toNat y12))]), 0))) none)) none) none) (
 (flat_checkRow k s2 s11).bind fun y15 =>
 cond (y15.2 != 0) (
 some ([], y15.2)) (
 (flat_cloneRows k s12).bind fun y16 =>
 cond (decide (y16.length + 1 < 3518437208883)) (
 cond (decide (((y16 ++ [s11]).length : Int) > 2000)) (
 some ([], 2)) (
 some ((y16 ++ [s11]), 0))) none)) := by kernel_rfl
theorem slices_Equal_Lstring_string_eq (k : Nat) (a : List ByteArray) (b : List ByteArray) : slices_Equal_Lstring_string (k + 1) a b =
 cond ((a.length : Int) != (b.length : Int)) (
 some false) (
 slices_Equal_Lstring_string_c4 k a b (a.length : Int) 0) := by kernel_rfl
theorem slices_Equal_Lstring_string_c4_eq (k : Nat) (s0 : List ByteArray) (s1 : List ByteArray) (s12 : Int) (s13 : Int) : slices_Equal_Lstring_string_c4 (k + 1) s0 s1 s12 s13 =
 cond (decide (s13 < s12)) (
 cond (decide (0 ≤ s13)) (
 cond (decide (s13 < (s0.length : Int))) (
 cond (decide (0 ≤ s13)) (
 cond (decide (s13 < (s1.length : Int))) (
 cond (!(eqS (s0.getD s13.toNat (bs [])) (s1.getD s13.toNat (bs [])))) (
 some false) (
 slices_Equal_Lstring_string_c4 k s0 s1 s12 (wi64 (s13 + 1)))) none) none) none) none) (
 some true) := by kernel_rfl
theorem interchangeref6_Same_eq (k : Nat) (a : List QR) (b : List QR) : interchangeref6_Same (k + 1) a b =
 cond ((a.length : Int) != (b.length : Int)) (
 some false) (
 interchangeref6_Same_c4 k a b (a.length : Int) 0) := by kernel_rfl
theorem interchangeref6_Same_c4_eq (k : Nat) (s0 : List QR) (s1 : List QR) (s12 : Int) (s13 : Int) : interchangeref6_Same_c4 (k + 1) s0 s1 s12 s13 =
 cond (decide (s13 < s12)) (
 cond (decide (0 ≤ s13)) (
 cond (decide (s13 < (s0.length : Int))) (
 cond (decide (0 ≤ s13)) (
 cond (decide (s13 < (s1.length : Int))) (
 cond ((!(!(!(eqS ((s0.getD s13.toNat ((bs []), [])).1) ((s1.getD s13.toNat ((bs []), [])).1))))) || (decide (0 ≤ s13))) (
 cond ((!(!(!(eqS ((s0.getD s13.toNat ((bs []), [])).1) ((s1.getD s13.toNat ((bs []), [])).1))))) || (decide (s13 < (s0.length : Int)))) (
 cond ((!(!(!(eqS ((s0.getD s13.toNat ((bs []), [])).1) ((s1.getD s13.toNat ((bs []), [])).1))))) || (decide (0 ≤ s13))) (
 cond ((!(!(!(eqS ((s0.getD s13.toNat ((bs []), [])).1) ((s1.getD s13.toNat ((bs []), [])).1))))) || (decide (s13 < (s1.length : Int)))) (
 (cond (!(!(eqS ((s0.getD s13.toNat ((bs []), [])).1) ((s1.getD s13.toNat ((bs []), [])).1)))) (slices_Equal_Lstring_string k ((s0.getD s13.toNat ((bs []), [])).2) ((s1.getD s13.toNat ((bs []), [])).2)) (some false)).bind fun y0 =>
 cond (cond (!(eqS ((s0.getD s13.toNat ((bs []), [])).1) ((s1.getD s13.toNat ((bs []), [])).1))) true (!y0)) (
 some false) (
 interchangeref6_Same_c4 k s0 s1 s12 (wi64 (s13 + 1)))) none) none) none) none) none) none) none) none) (
 some true) := by kernel_rfl
theorem interchangelaw6_FlatOrdersMatchSpec_eq (k : Nat) (a : QF) (b : List QR) : interchangelaw6_FlatOrdersMatchSpec (k + 1) a b =
 (interchangeref6_CheckOrder k a b).bind fun y0 =>
 (flat_CheckOrder k a b).bind fun y1 =>
 cond (cond (y1.2 != y0.2) true (y1.1 != y0.1)) (
 some false) (
 (interchangeref6_CheckTotals k a b).bind fun y2 =>
 (flat_CheckTotals k a b).bind fun y3 =>
 cond (cond (y3.2 != y2.2) true (y3.1 != y2.1)) (
 some false) (
 (interchangeref6_Closed k a b).bind fun y4 =>
 (flat_Closed k a b).bind fun y5 =>
 (cond (y5.2 == y4.2) (interchangeref6_Same k y5.1 y4.1) (some false)).bind fun y6 =>
 (cond (cond (y5.2 == y4.2) y6 false) (interchangelaw6_awake k) (some false)).bind fun y7 =>
 some (cond (cond (y5.2 == y4.2) y6 false) y7 false))) := by kernel_rfl

end Go.Proofs.YtpgbbmdfnmjjjaaGreatDoor.Eq
