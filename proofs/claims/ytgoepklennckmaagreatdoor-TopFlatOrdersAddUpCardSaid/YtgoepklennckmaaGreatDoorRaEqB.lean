/- What the functions of this law come to, by steps. -/
import Derived.Test.YtgoepklennckmaaGreatDoorRaEq
import Derived.Test.YtgoepklennckmaaGreatDoorK1
import Derived.Test.YtgoepklennckmaaGreatDoorProg
import Derived.KernelRfl
import Derived.Lib.Bytealg
import Derived.Lib.SlTrimSet
import Derived.Lib.ItoaNum
import Derived.Lib.Repeat
import Derived.Lib.Replace
import Derived.Lib.Atoi
namespace Go.Proofs.YtgoepklennckmaaGreatDoor.Eq
open Go Go.Ra
set_option linter.unusedVariables false
theorem strings_Trim_eq (k : Nat) (a : ByteArray) (b : ByteArray) : strings_Trim k a b = cond (decide (a.size ≤ 9223372036854775807) && decide (b.size < 4294967281) && b.data.toList.all fun x => decide (x.toNat < 128)) (some ⟨(Lib.trimS a.data.toList b.data.toList).toArray⟩) none := by kernel_rfl
theorem kit_IsName_eq (k : Nat) (a : ByteArray) : kit_IsName (k + 1) a =
 cond ((!(!(cond (decide ((a.size : Int) < 1)) true (decide ((a.size : Int) > 40))))) || true) (
 cond ((!(!(cond (decide ((a.size : Int) < 1)) true (decide ((a.size : Int) > 40))))) || (decide (0 < (a.size : Int)))) (
 cond ((!(!(cond (cond (decide ((a.size : Int) < 1)) true (decide ((a.size : Int) > 40))) true (decide ((bt a 0) < 97))))) || true) (
 cond ((!(!(cond (cond (decide ((a.size : Int) < 1)) true (decide ((a.size : Int) > 40))) true (decide ((bt a 0) < 97))))) || (decide (0 < (a.size : Int)))) (
 cond (cond (cond (cond (decide ((a.size : Int) < 1)) true (decide ((a.size : Int) > 40))) true (decide ((bt a 0) < 97))) true (decide ((bt a 0) > 122))) (
 some false) (
 (strings_Trim k a (bs [97, 98, 99, 100, 101, 102, 103, 104, 105, 106, 107, 108, 109, 110, 111, 112, 113, 114, 115, 116, 117, 118, 119, 120, 121, 122, 48, 49, 50, 51, 52, 53, 54, 55, 56, 57, 45])).bind fun y0 =>
 some (eqS y0 (bs [])))) none) none) none) none := by kernel_rfl
theorem kit_Outside_eq (k : Nat) (a : Int) (b : Int) (c : Int) : kit_Outside (k + 1) a b c =
 some (cond (decide (a < b)) true (decide (a > c))) := by kernel_rfl
theorem kit_IsDay_eq (k : Nat) (a : Int) : kit_IsDay (k + 1) a =
 (kit_Outside k a 1 3652059).bind fun y0 =>
 some (!y0) := by kernel_rfl
theorem amount_CheckDecimal_eq (k : Nat) (a : Int × Int) : amount_CheckDecimal (k + 1) a =
 (kit_Outside k a.1 (-1000000000000000) 1000000000000000).bind fun y0 =>
 (cond (!y0) (kit_Outside k a.2 0 9) (some false)).bind fun y1 =>
 cond (cond y0 true y1) (
 some 1) (
 some 0) := by kernel_rfl
theorem order_power_eq (k : Nat) (a : Int) : order_power (k + 1) a =
 order_power_c3 k 1 a 0 := by kernel_rfl
theorem order_power_c3_eq (k : Nat) (s3 : Int) (s4 : Int) (s5 : Int) : order_power_c3 (k + 1) s3 s4 s5 =
 cond (decide (s5 < s4)) (
 order_power_c3 k (wi64 (s3 * 10)) s4 (wi64 (s5 + 1))) (
 some s3) := by kernel_rfl
theorem order_within_eq (k : Nat) (a : Int × Int) (b : Int) (c : Int) : order_within (k + 1) a b c =
 (cond (cond (decide (a.2 ≤ b)) (decide (a.1 ≥ 0)) false) (order_power k a.2) (some 0)).bind fun y0 =>
 some (cond (cond (decide (a.2 ≤ b)) (decide (a.1 ≥ 0)) false) (decide (a.1 ≤ (wi64 (c * y0)))) false) := by kernel_rfl
theorem order_QuantityFault_eq (k : Nat) (a : Int × Int) (b : Bool) : order_QuantityFault (k + 1) a b =
 (amount_CheckDecimal k a).bind fun y0 =>
 cond (y0 != 0) (
 some y0) (
 (order_within k a 3 1000000000).bind fun y1 =>
 cond (cond (!y1) true (cond (a.1 == 0) (!b) false)) (
 some 1) (
 some 0)) := by kernel_rfl
theorem order_PriceFault_eq (k : Nat) (a : Int × Int) : order_PriceFault (k + 1) a =
 (amount_CheckDecimal k a).bind fun y0 =>
 cond (y0 != 0) (
 some y0) (
 (order_within k a 4 1000000000).bind fun y1 =>
 cond (!y1) (
 some 1) (
 some 0)) := by kernel_rfl
theorem order_lineFault_eq (k : Nat) (a : ByteArray × ByteArray × ByteArray × Int × Int × List (Int × ByteArray × (Int × Int) × ByteArray × (Int × Int) × Int)) (b : Int) : order_lineFault (k + 1) a b =
 cond (decide (0 ≤ b)) (
 cond (decide (b < (a.2.2.2.2.2.length : Int))) (
 (kit_Outside k ((a.2.2.2.2.2.getD b.toNat (0, ((bs []), ((0, 0), ((bs []), ((0, 0), 0)))))).1) 1 99999).bind fun y0 =>
 cond y0 (
 some 1) (
 cond ((!(decide (b > 0))) || (decide (0 ≤ (wi64 (b - 1))))) (
 cond ((!(decide (b > 0))) || (decide ((wi64 (b - 1)) < (a.2.2.2.2.2.length : Int)))) (
 cond (cond (decide (b > 0)) (decide (((a.2.2.2.2.2.getD b.toNat (0, ((bs []), ((0, 0), ((bs []), ((0, 0), 0)))))).1) ≤ ((a.2.2.2.2.2.getD (wi64 (b - 1)).toNat (0, ((bs []), ((0, 0), ((bs []), ((0, 0), 0)))))).1))) false) (
 some 8) (
 (kit_IsName k (((a.2.2.2.2.2.getD b.toNat (0, ((bs []), ((0, 0), ((bs []), ((0, 0), 0)))))).2).1)).bind fun y1 =>
 cond (!y1) (
 some 5) (
 (order_QuantityFault k ((((((a.2.2.2.2.2.getD b.toNat (0, ((bs []), ((0, 0), ((bs []), ((0, 0), 0)))))).2).2).1).1), (((((a.2.2.2.2.2.getD b.toNat (0, ((bs []), ((0, 0), ((bs []), ((0, 0), 0)))))).2).2).1).2)) false).bind fun y2 =>
 cond (y2 != 0) (
 some y2) (
 (kit_IsName k (((((a.2.2.2.2.2.getD b.toNat (0, ((bs []), ((0, 0), ((bs []), ((0, 0), 0)))))).2).2).2).1)).bind fun y3 =>
 cond (!y3) (
 some 5) (
 (order_PriceFault k ((((((((a.2.2.2.2.2.getD b.toNat (0, ((bs []), ((0, 0), ((bs []), ((0, 0), 0)))))).2).2).2).2).1).1), (((((((a.2.2.2.2.2.getD b.toNat (0, ((bs []), ((0, 0), ((bs []), ((0, 0), 0)))))).2).2).2).2).1).2))).bind fun y4 =>
 cond (y4 != 0) (
 some y4) (
 (kit_Outside k ((((((a.2.2.2.2.2.getD b.toNat (0, ((bs []), ((0, 0), ((bs []), ((0, 0), 0)))))).2).2).2).2).2) a.2.2.2.1 3652059).bind fun y5 =>
 cond y5 (
 some 1) (
 some 0))))))) none) none)) none) none := by kernel_rfl
theorem order_CheckOrder_eq (k : Nat) (a : ByteArray × ByteArray × ByteArray × Int × Int × List (Int × ByteArray × (Int × Int) × ByteArray × (Int × Int) × Int)) : order_CheckOrder (k + 1) a =
 (kit_IsName k a.1).bind fun y0 =>
 (cond (!(!y0)) (kit_IsName k a.2.1) (some false)).bind fun y1 =>
 (cond (!(cond (!y0) true (!y1))) (kit_IsName k a.2.2.1) (some false)).bind fun y2 =>
 cond (cond (cond (!y0) true (!y1)) true (!y2)) (
 some 5) (
 cond (eqS a.2.1 a.2.2.1) (
 some 12) (
 (kit_IsDay k a.2.2.2.1).bind fun y3 =>
 (cond (!(!y3)) (kit_Outside k a.2.2.2.2.1 0 1000) (some false)).bind fun y4 =>
 cond (cond (!y3) true y4) (
 some 1) (
 cond ((a.2.2.2.2.2.length : Int) == 0) (
 some 9) (
 cond (decide ((a.2.2.2.2.2.length : Int) > 500)) (
 some 2) (
 order_CheckOrder_c12 k a (a.2.2.2.2.2.length : Int) 0))))) := by kernel_rfl
theorem order_CheckOrder_c12_eq (k : Nat) (s1 : ByteArray × ByteArray × ByteArray × Int × Int × List (Int × ByteArray × (Int × Int) × ByteArray × (Int × Int) × Int)) (s50 : Int) (s51 : Int) : order_CheckOrder_c12 (k + 1) s1 s50 s51 =
 cond (decide (s51 < s50)) (
 (order_lineFault k s1 s51).bind fun y5 =>
 cond (y5 != 0) (
 some y5) (
 order_CheckOrder_c12 k s1 s50 (wi64 (s51 + 1)))) (
 some 0) := by kernel_rfl
theorem stringslite_HasPrefix_eq (k : Nat) (a : ByteArray) (b : ByteArray) : stringslite_HasPrefix (k + 1) a b =
 cond ((!(decide ((a.size : Int) ≥ (b.size : Int)))) || (decide (0 ≤ (b.size : Int)))) (
 cond ((!(decide ((a.size : Int) ≥ (b.size : Int)))) || (decide ((b.size : Int) ≤ (a.size : Int)))) (
 some (cond (decide ((a.size : Int) ≥ (b.size : Int))) (eqS (a.extract 0 (b.size : Int).toNat) b) false)) none) none := by kernel_rfl
theorem stringslite_CutPrefix_eq (k : Nat) (a : ByteArray) (b : ByteArray) : stringslite_CutPrefix (k + 1) a b =
 (stringslite_HasPrefix k a b).bind fun y0 =>
 cond (!y0) (
 some (a, false)) (
 cond (decide (0 ≤ (b.size : Int))) (
 cond (decide ((b.size : Int) ≤ (a.size : Int))) (
 some ((a.extract (b.size : Int).toNat a.size), true)) none) none) := by kernel_rfl
theorem strings_CutPrefix_eq (k : Nat) (a : ByteArray) (b : ByteArray) : strings_CutPrefix (k + 1) a b =
 (stringslite_CutPrefix k a b).bind fun y0 =>
 some y0 := by kernel_rfl
theorem stringslite_IndexByte_eq (k : Nat) (a : ByteArray) (b : Int) : stringslite_IndexByte k a b = some (Lib.indexByte a.data.toList b.toNat.toUInt8) := by kernel_rfl
theorem stringslite_Index_eq (k : Nat) (a : ByteArray) (b : ByteArray) : stringslite_Index (k + 1) a b =
 cond (cond ((b.size : Int) == 0) true (eqS b a)) (
 some 0) (
 cond ((b.size : Int) == 1) (
 cond (decide (0 < (b.size : Int))) (
 (stringslite_IndexByte k a (bt b 0)).bind fun y0 =>
 some y0) none) (
 cond (decide ((b.size : Int) ≥ (a.size : Int))) (
 some (-1)) (
 none))) := by kernel_rfl
theorem stringslite_Cut_eq (k : Nat) (a : ByteArray) (b : ByteArray) : stringslite_Cut (k + 1) a b =
 (stringslite_Index k a b).bind fun y0 =>
 cond (decide (y0 ≥ 0)) (
 cond (decide (0 ≤ y0)) (
 cond (decide (y0 ≤ (a.size : Int))) (
 cond (decide (0 ≤ (wi64 (y0 + (b.size : Int))))) (
 cond (decide ((wi64 (y0 + (b.size : Int))) ≤ (a.size : Int))) (
 some ((a.extract 0 y0.toNat), ((a.extract (wi64 (y0 + (b.size : Int))).toNat a.size), true))) none) none) none) none) (
 some (a, ((bs []), false))) := by kernel_rfl
theorem strings_Cut_eq (k : Nat) (a : ByteArray) (b : ByteArray) : strings_Cut (k + 1) a b =
 (stringslite_Cut k a b).bind fun y0 =>
 some y0 := by kernel_rfl
theorem kit_InBytes_eq (k : Nat) (a : ByteArray) (b : Int) (c : Int) : kit_InBytes (k + 1) a b c =
 kit_InBytes_c2 k a b c (a.size : Int) 0 := by kernel_rfl
theorem kit_InBytes_c2_eq (k : Nat) (s0 : ByteArray) (s1 : Int) (s2 : Int) (s9 : Int) (s10 : Int) : kit_InBytes_c2 (k + 1) s0 s1 s2 s9 s10 =
 cond (decide (s10 < s9)) (
 cond (decide (0 ≤ s10)) (
 cond (decide (s10 < (s0.size : Int))) (
 cond ((!(!(decide ((bt s0 s10) < s1)))) || (decide (0 ≤ s10))) (
 cond ((!(!(decide ((bt s0 s10) < s1)))) || (decide (s10 < (s0.size : Int)))) (
 cond (cond (decide ((bt s0 s10) < s1)) true (decide ((bt s0 s10) > s2))) (
 some false) (
 kit_InBytes_c2 k s0 s1 s2 s9 (wi64 (s10 + 1)))) none) none) none) none) (
 some true) := by kernel_rfl
theorem kit_IsDigits_eq (k : Nat) (a : ByteArray) : kit_IsDigits (k + 1) a =
 (cond (!(eqS a (bs []))) (kit_InBytes k a 48 57) (some false)).bind fun y0 =>
 some (cond (!(eqS a (bs []))) y0 false) := by kernel_rfl
theorem amount_isWhole_eq (k : Nat) (a : ByteArray) : amount_isWhole (k + 1) a =
 (kit_IsDigits k a).bind fun y0 =>
 cond ((!(y0 && (!((a.size : Int) == 1)))) || true) (
 cond ((!(y0 && (!((a.size : Int) == 1)))) || (decide (0 < (a.size : Int)))) (
 some (cond y0 (cond ((a.size : Int) == 1) true ((bt a 0) != 48)) false)) none) none := by kernel_rfl
theorem whole_trimmed_eq (k : Nat) (a : List Int) : whole_trimmed (k + 1) a =
 whole_trimmed_c1 k a := by kernel_rfl
theorem whole_trimmed_c1_eq (k : Nat) (s0 : List Int) : whole_trimmed_c1 (k + 1) s0 =
 cond ((!(decide ((s0.length : Int) > 0))) || (decide (0 ≤ (wi64 ((s0.length : Int) - 1))))) (
 cond ((!(decide ((s0.length : Int) > 0))) || (decide ((wi64 ((s0.length : Int) - 1)) < (s0.length : Int)))) (
 cond (cond (decide ((s0.length : Int) > 0)) ((s0.getD (wi64 ((s0.length : Int) - 1)).toNat 0) == 0) false) (
 cond (decide (0 ≤ (wi64 ((s0.length : Int) - 1)))) (
 cond (decide ((wi64 ((s0.length : Int) - 1)) ≤ (s0.length : Int))) (
 whole_trimmed_c1 k (s0.take (wi64 ((s0.length : Int) - 1)).toNat)) none) none) (
 some s0)) none) none := by kernel_rfl
theorem whole_made_eq (k : Nat) (a : Bool) (b : List Int) : whole_made (k + 1) a b =
 (whole_trimmed k b).bind fun y0 =>
 some ((cond a (decide ((y0.length : Int) > 0)) false), y0) := by kernel_rfl
theorem whole_Of_eq (k : Nat) (a : Int) : whole_Of (k + 1) a =
 cond (decide (a < 0)) (
 (whole_made k (decide (a < 0)) [(wu32 (wu64 (0 - (wu64 a)))), (wu32 (shrI .u64 (wu64 (0 - (wu64 a))) 32))]).bind fun y0 =>
 some y0) (
 (whole_made k (decide (a < 0)) [(wu32 (wu64 a)), (wu32 (shrI .u64 (wu64 a) 32))]).bind fun y1 =>
 some y1) := by kernel_rfl
theorem whole_Int_Times_eq (k : Nat) (a : Bool × List Int) (b : Bool × List Int) : whole_Int_Times (k + 1) a b =
 cond (decide (0 ≤ (wi64 ((a.2.length : Int) + (b.2.length : Int))))) (
 cond (decide ((wi64 ((a.2.length : Int) + (b.2.length : Int))).toNat ≤ 35184372088832)) (
 whole_Int_Times_c3 k a b (false, []) (List.replicate (wi64 ((a.2.length : Int) + (b.2.length : Int))).toNat 0) a.2 (a.2.length : Int) 0) none) none := by kernel_rfl
theorem whole_Int_Times_c3_eq (k : Nat) (s2 : Bool × List Int) (s3 : Bool × List Int) (s4 : Bool × List Int) (s5 : List Int) (s20 : List Int) (s21 : Int) (s22 : Int) : whole_Int_Times_c3 (k + 1) s2 s3 s4 s5 s20 s21 s22 =
 cond (decide (s22 < s21)) (
 cond (decide (0 ≤ s22)) (
 cond (decide (s22 < (s20.length : Int))) (
 whole_Int_Times_c7 k s2 s3 s4 s5 s22 (s20.getD s22.toNat 0) 0 s20 s21 s22 s3.2 (s3.2.length : Int) 0) none) none) (
 (whole_made k (!(s2.1 == s3.1)) s5).bind fun y0 =>
 some y0) := by kernel_rfl
theorem whole_Int_Times_c7_eq (k : Nat) (s2 : Bool × List Int) (s3 : Bool × List Int) (s4 : Bool × List Int) (s5 : List Int) (s6 : Int) (s7 : Int) (s8 : Int) (s20 : List Int) (s21 : Int) (s22 : Int) (s28 : List Int) (s29 : Int) (s30 : Int) : whole_Int_Times_c7 (k + 1) s2 s3 s4 s5 s6 s7 s8 s20 s21 s22 s28 s29 s30 =
 cond (decide (s30 < s29)) (
 cond (decide (0 ≤ s30)) (
 cond (decide (s30 < (s28.length : Int))) (
 cond (decide (0 ≤ (wi64 (s6 + s30)))) (
 cond (decide ((wi64 (s6 + s30)) < (s5.length : Int))) (
 cond (decide (0 ≤ (wi64 (s6 + s30)))) (
 cond (decide ((wi64 (s6 + s30)) < (s5.length : Int))) (
 whole_Int_Times_c7 k s2 s3 s4 (s5.set (wi64 (s6 + s30)).toNat (wu32 (wu64 (s8 + (wu64 ((wu64 (s5.getD (wi64 (s6 + s30)).toNat 0)) + (wu64 ((wu64 s7) * (wu64 (s28.getD s30.toNat 0)))))))))) s6 s7 (shrI .u64 (wu64 (s8 + (wu64 ((wu64 (s5.getD (wi64 (s6 + s30)).toNat 0)) + (wu64 ((wu64 s7) * (wu64 (s28.getD s30.toNat 0)))))))) 32) s20 s21 s22 s28 s29 (wi64 (s30 + 1))) none) none) none) none) none) none) (
 cond (decide (0 ≤ (wi64 (s6 + (s3.2.length : Int))))) (
 cond (decide ((wi64 (s6 + (s3.2.length : Int))) < (s5.length : Int))) (
 whole_Int_Times_c3 k s2 s3 s4 (s5.set (wi64 (s6 + (s3.2.length : Int))).toNat (wu32 s8)) s20 s21 (wi64 (s22 + 1))) none) none) := by kernel_rfl
theorem whole_sum_eq (k : Nat) (a : List Int) (b : List Int) : whole_sum (k + 1) a b =
 cond (decide ((a.length : Int) < (b.length : Int))) (
 whole_sum_c3 k b a) (
 whole_sum_c3 k a b) := by kernel_rfl
theorem whole_sum_c3_eq (k : Nat) (s0 : List Int) (s1 : List Int) : whole_sum_c3 (k + 1) s0 s1 =
 cond (decide (0 ≤ (wi64 ((s0.length : Int) + 1)))) (
 cond (decide ((wi64 ((s0.length : Int) + 1)).toNat ≤ 35184372088832)) (
 whole_sum_c6 k s1 (List.replicate 0 0) 0 s0 (s0.length : Int) 0) none) none := by kernel_rfl
theorem whole_sum_c6_eq (k : Nat) (s1 : List Int) (s5 : List Int) (s6 : Int) (s20 : List Int) (s21 : Int) (s22 : Int) : whole_sum_c6 (k + 1) s1 s5 s6 s20 s21 s22 =
 cond (decide (s22 < s21)) (
 cond (decide (0 ≤ s22)) (
 cond (decide (s22 < (s20.length : Int))) (
 cond (decide (s22 < (s1.length : Int))) (
 cond (decide (0 ≤ s22)) (
 cond (decide (s22 < (s1.length : Int))) (
 cond (decide (s5.length + 1 < 35184372088832)) (
 whole_sum_c6 k s1 (s5 ++ [(wu32 (wu64 ((wu64 (s6 + (wu64 (s20.getD s22.toNat 0)))) + (wu64 (s1.getD s22.toNat 0)))))]) (shrI .u64 (wu64 ((wu64 (s6 + (wu64 (s20.getD s22.toNat 0)))) + (wu64 (s1.getD s22.toNat 0)))) 32) s20 s21 (wi64 (s22 + 1))) none) none) none) (
 cond (decide (s5.length + 1 < 35184372088832)) (
 whole_sum_c6 k s1 (s5 ++ [(wu32 (wu64 (s6 + (wu64 (s20.getD s22.toNat 0)))))]) (shrI .u64 (wu64 (s6 + (wu64 (s20.getD s22.toNat 0)))) 32) s20 s21 (wi64 (s22 + 1))) none)) none) none) (
 cond (decide (s5.length + 1 < 35184372088832)) (
 some (s5 ++ [(wu32 s6)])) none) := by kernel_rfl
theorem whole_compare_eq (k : Nat) (a : List Int) (b : List Int) : whole_compare (k + 1) a b =
 cond ((a.length : Int) != (b.length : Int)) (
 some (wi64 ((a.length : Int) - (b.length : Int)))) (
 whole_compare_c4 k a b (wi64 ((a.length : Int) - 1))) := by kernel_rfl
theorem whole_compare_c4_eq (k : Nat) (s0 : List Int) (s1 : List Int) (s5 : Int) : whole_compare_c4 (k + 1) s0 s1 s5 =
 cond (decide (s5 ≥ 0)) (
 cond (decide (0 ≤ s5)) (
 cond (decide (s5 < (s0.length : Int))) (
 cond (decide (0 ≤ s5)) (
 cond (decide (s5 < (s1.length : Int))) (
 cond ((s0.getD s5.toNat 0) != (s1.getD s5.toNat 0)) (
 cond (decide (0 ≤ s5)) (
 cond (decide (s5 < (s0.length : Int))) (
 cond (decide (0 ≤ s5)) (
 cond (decide (s5 < (s1.length : Int))) (
 cond (decide ((s0.getD s5.toNat 0) < (s1.getD s5.toNat 0))) (
 some (-1)) (
 some 1)) none) none) none) none) (
 whole_compare_c4 k s0 s1 (wi64 (s5 - 1)))) none) none) none) none) (
 some 0) := by kernel_rfl
theorem whole_less_eq (k : Nat) (a : List Int) (b : List Int) : whole_less (k + 1) a b =
 cond (decide (0 ≤ (a.length : Int))) (
 cond (decide ((a.length : Int).toNat ≤ 35184372088832)) (
 whole_less_c4 k b (List.replicate 0 0) 0 a (a.length : Int) 0) none) none := by kernel_rfl
theorem whole_less_c4_eq (k : Nat) (s1 : List Int) (s5 : List Int) (s6 : Int) (s13 : List Int) (s14 : Int) (s15 : Int) : whole_less_c4 (k + 1) s1 s5 s6 s13 s14 s15 =
 cond (decide (s15 < s14)) (
 cond (decide (0 ≤ s15)) (
 cond (decide (s15 < (s13.length : Int))) (
 cond (decide (s15 < (s1.length : Int))) (
 cond (decide (0 ≤ s15)) (
 cond (decide (s15 < (s1.length : Int))) (
 cond (decide (s5.length + 1 < 35184372088832)) (
 whole_less_c4 k s1 (s5 ++ [(wu32 (wu64 ((wu64 ((wu64 (s13.getD s15.toNat 0)) - s6)) - (wu64 (s1.getD s15.toNat 0)))))]) (bitsI .and .u64 (shrI .u64 (wu64 ((wu64 ((wu64 (s13.getD s15.toNat 0)) - s6)) - (wu64 (s1.getD s15.toNat 0)))) 32) 1) s13 s14 (wi64 (s15 + 1))) none) none) none) (
 cond (decide (s5.length + 1 < 35184372088832)) (
 whole_less_c4 k s1 (s5 ++ [(wu32 (wu64 ((wu64 (s13.getD s15.toNat 0)) - s6)))]) (bitsI .and .u64 (shrI .u64 (wu64 ((wu64 (s13.getD s15.toNat 0)) - s6)) 32) 1) s13 s14 (wi64 (s15 + 1))) none)) none) none) (
 (whole_trimmed k s5).bind fun y0 =>
 some y0) := by kernel_rfl
theorem whole_Int_Plus_eq (k : Nat) (a : Bool × List Int) (b : Bool × List Int) : whole_Int_Plus (k + 1) a b =
 cond (a.1 == b.1) (
 (whole_sum k a.2 b.2).bind fun y0 =>
 (whole_made k a.1 y0).bind fun y1 =>
 some y1) (
 (whole_compare k a.2 b.2).bind fun y2 =>
 cond (decide (y2 ≥ 0)) (
 (whole_less k a.2 b.2).bind fun y3 =>
 (whole_made k a.1 y3).bind fun y4 =>
 some y4) (
 (whole_less k b.2 a.2).bind fun y5 =>
 (whole_made k b.1 y5).bind fun y6 =>
 some y6)) := by kernel_rfl
theorem whole_Int_Sign_eq (k : Nat) (a : Bool × List Int) : whole_Int_Sign (k + 1) a =
 cond a.1 (
 some (-1)) (
 cond ((a.2.length : Int) == 0) (
 some 0) (
 some 1)) := by kernel_rfl
theorem whole_Int_Minus_eq (k : Nat) (a : Bool × List Int) : whole_Int_Minus (k + 1) a =
 (whole_made k (!a.1) a.2).bind fun y0 =>
 some y0 := by kernel_rfl
theorem whole_Int_Int_eq (k : Nat) (a : Bool × List Int) (b : Int) : whole_Int_Int (k + 1) a b =
 cond (decide ((a.2.length : Int) > 2)) (
 some (0, false)) (
 whole_Int_Int_c5 k b a 0 a.2 (a.2.length : Int) 0) := by kernel_rfl
theorem whole_Int_Int_c5_eq (k : Nat) (s1 : Int) (s2 : Bool × List Int) (s6 : Int) (s14 : List Int) (s15 : Int) (s16 : Int) : whole_Int_Int_c5 (k + 1) s1 s2 s6 s14 s15 s16 =
 cond (decide (s16 < s15)) (
 cond (decide (0 ≤ s16)) (
 cond (decide (s16 < (s14.length : Int))) (
 cond (decide (0 ≤ (wi64 (32 * s16)))) (
 whole_Int_Int_c5 k s1 s2 (bitsI .or .u64 s6 (shlI .u64 (wu64 (s14.getD s16.toNat 0)) (wi64 (32 * s16)))) s14 s15 (wi64 (s16 + 1))) none) none) none) (
 cond (decide (s6 > (wu64 s1))) (
 some (0, false)) (
 cond s2.1 (
 some ((wi64 (0 - (wi64 s6))), true)) (
 some ((wi64 s6), true)))) := by kernel_rfl
theorem amount_Made_eq (k : Nat) (a : Bool × List Int) (b : Int) : amount_Made (k + 1) a b =
 (whole_Int_Int k a 1000000000000000).bind fun y0 =>
 cond (!y0.2) (
 some ((0, 0), 1)) (
 some ((y0.1, b), 0)) := by kernel_rfl
theorem amount_read_eq (k : Nat) (a : Bool) (b : ByteArray) (c : ByteArray) : amount_read (k + 1) a b c =
 (whole_Of k 0).bind fun y0 =>
 cond (decide (b.size + c.size ≤ 9223372036854775807)) (
 amount_read_c3 k a b c (0, 0) y0 ((b ++ c).size : Int) 0) none := by kernel_rfl
theorem amount_read_c3_eq (k : Nat) (s0 : Bool) (s1 : ByteArray) (s2 : ByteArray) (s6 : Int × Int) (s8 : Bool × List Int) (s14 : Int) (s15 : Int) : amount_read_c3 (k + 1) s0 s1 s2 s6 s8 s14 s15 =
 cond (decide (s15 < s14)) (
 (whole_Of k 10).bind fun y1 =>
 (whole_Int_Times k s8 y1).bind fun y2 =>
 cond (decide (s1.size + s2.size ≤ 9223372036854775807)) (
 cond (decide (0 ≤ s15)) (
 cond (decide (s15 < ((s1 ++ s2).size : Int))) (
 (whole_Of k (wi64 (wu8 ((bt (s1 ++ s2) s15) - 48)))).bind fun y3 =>
 (whole_Int_Plus k y2 y3).bind fun y4 =>
 amount_read_c3 k s0 s1 s2 s6 y4 s14 (wi64 (s15 + 1))) none) none) none) (
 cond s0 (
 (whole_Int_Sign k s8).bind fun y5 =>
 cond (y5 == 0) (
 some ((0, 0), 10)) (
 (whole_Int_Minus k s8).bind fun y6 =>
 (amount_Made k y6 (s2.size : Int)).bind fun y7 =>
 some y7)) (
 (amount_Made k s8 (s2.size : Int)).bind fun y8 =>
 some y8)) := by kernel_rfl
theorem amount_ReadText_eq (k : Nat) (a : ByteArray) : amount_ReadText (k + 1) a =
 (strings_CutPrefix k a (bs [45])).bind fun y0 =>
 (strings_Cut k y0.1 (bs [46])).bind fun y1 =>
 (cond (!(decide ((a.size : Int) > 40))) (amount_isWhole k y1.1) (some false)).bind fun y2 =>
 (cond ((!(cond (decide ((a.size : Int) > 40)) true (!y2))) && y1.2.2) (kit_IsDigits k y1.2.1) (some false)).bind fun y3 =>
 cond (cond (cond (decide ((a.size : Int) > 40)) true (!y2)) true (cond y1.2.2 (cond (!y3) true (decide ((y1.2.1.size : Int) > 9))) false)) (
 some ((0, 0), 10)) (
 (amount_read k y0.2 y1.1 y1.2.1).bind fun y4 =>
 some y4) := by kernel_rfl
theorem interchangetop_alive_eq (k : Nat) : interchangetop_alive (k + 1) =
 (amount_ReadText k (bs [50, 46, 53])).bind fun y0 =>
 some (cond (y0.2 == 0) (y0.1.1 == 25) false) := by kernel_rfl
theorem interchangeref1_Normal_eq (k : Nat) (a : Int × Int) : interchangeref1_Normal (k + 1) a =
 interchangeref1_Normal_c1 k a (0, 0) := by kernel_rfl
theorem interchangeref1_Normal_c1_eq (k : Nat) (s1 : Int × Int) (s2 : Int × Int) : interchangeref1_Normal_c1 (k + 1) s1 s2 =
 cond ((!(decide (s1.2 > 0))) || true) (
 cond (cond (decide (s1.2 > 0)) ((s1.1.tmod 10) == 0) false) (
 interchangeref1_Normal_c1 k ((wi64 (s1.1.tdiv 10)), (wi64 (s1.2 - 1))) s2) (
 some s1)) none := by kernel_rfl
theorem whole_Int_Abs_eq (k : Nat) (a : Bool × List Int) : whole_Int_Abs (k + 1) a =
 (whole_made k false a.2).bind fun y0 =>
 some y0 := by kernel_rfl
theorem slices_Clone_Luint32_uint32_eq (k : Nat) (a : List Int) : slices_Clone_Luint32_uint32 (k + 1) a =
 cond a.isEmpty (
 bothA (.sl (.int .u32)) (
 some ([])) (
 cond (decide (0 + a.length < 35184372088832)) (
 some ([] ++ a)) none)) (
 cond (decide (0 + a.length < 35184372088832)) (
 some ([] ++ a)) none) := by kernel_rfl
theorem slices_Reverse_Lbyte_byte_eq (k : Nat) (a : List Int) : slices_Reverse_Lbyte_byte (k + 1) a =
 slices_Reverse_Lbyte_byte_c1 k a 0 (wi64 ((a.length : Int) - 1)) := by kernel_rfl
theorem slices_Reverse_Lbyte_byte_c1_eq (k : Nat) (s0 : List Int) (s2 : Int) (s3 : Int) : slices_Reverse_Lbyte_byte_c1 (k + 1) s0 s2 s3 =
 cond (decide (s2 < s3)) (
 cond (decide (0 ≤ s3)) (
 cond (decide (s3 < (s0.length : Int))) (
 cond (decide (0 ≤ s2)) (
 cond (decide (s2 < (s0.length : Int))) (
 cond (decide (0 ≤ s2)) (
 cond (decide (s2 < (s0.length : Int))) (
 cond (decide (0 ≤ s3)) (
 cond (decide (s3 < ((s0.set s2.toNat (s0.getD s3.toNat 0)).length : Int))) (
 slices_Reverse_Lbyte_byte_c1 k ((s0.set s2.toNat (s0.getD s3.toNat 0)).set s3.toNat (s0.getD s2.toNat 0)) (wi64 (s2 + 1)) (wi64 (s3 - 1))) none) none) none) none) none) none) none) none) (
 some s0) := by kernel_rfl
theorem bits_Div32_eq (k : Nat) (a : Int) (b : Int) (c : Int) : bits_Div32 (k + 1) a b c =
 cond (cond (c != 0) (decide (c ≤ a)) false) (
 none) (
 cond (!(decide ((wu64 c) = 0))) (
 cond (!(decide ((wu64 c) = 0))) (
 some ((wu32 (wu64 ((bitsI .or .u64 (shlI .u64 (wu64 a) 32) (wu64 b)).tdiv (wu64 c)))), (wu32 ((bitsI .or .u64 (shlI .u64 (wu64 a) 32) (wu64 b)).tmod (wu64 c))))) none) none) := by kernel_rfl
theorem whole_trimmed_1_eq (k : Nat) (a : List Int) : whole_trimmed_1 (k + 1) a =
 whole_trimmed_1_c1 k a := by kernel_rfl
theorem whole_trimmed_1_c1_eq (k : Nat) (s0 : List Int) : whole_trimmed_1_c1 (k + 1) s0 =
 cond ((!(decide ((s0.length : Int) > 0))) || (decide (0 ≤ (wi64 ((s0.length : Int) - 1))))) (
 cond ((!(decide ((s0.length : Int) > 0))) || (decide ((wi64 ((s0.length : Int) - 1)) < (s0.length : Int)))) (
 cond (cond (decide ((s0.length : Int) > 0)) ((s0.getD (wi64 ((s0.length : Int) - 1)).toNat 0) == 0) false) (
 cond (decide (0 ≤ (wi64 ((s0.length : Int) - 1)))) (
 cond (decide ((wi64 ((s0.length : Int) - 1)) ≤ (s0.length : Int))) (
 whole_trimmed_1_c1 k (s0.take (wi64 ((s0.length : Int) - 1)).toNat)) none) none) (
 some s0)) none) none := by kernel_rfl
theorem whole_Int_Text_eq (k : Nat) (a : Bool × List Int) : whole_Int_Text (k + 1) a =
 cond ((a.2.length : Int) == 0) (
 some (bs [48])) (
 (slices_Clone_Luint32_uint32 k a.2).bind fun y0 =>
 whole_Int_Text_c5 k a [] y0) := by kernel_rfl
theorem whole_Int_Text_c5_eq (k : Nat) (s1 : Bool × List Int) (s3 : List Int) (s4 : List Int) : whole_Int_Text_c5 (k + 1) s1 s3 s4 =
 cond (decide ((s4.length : Int) > 0)) (
 whole_Int_Text_c8 k s1 s3 s4 0 (wi64 ((s4.length : Int) - 1))) (
 cond s1.1 (
 cond (decide (s3.length + 1 < 140737488355328)) (
 (slices_Reverse_Lbyte_byte k (s3 ++ [45])).bind fun y1 =>
 some (strOf y1)) none) (
 (slices_Reverse_Lbyte_byte k s3).bind fun y2 =>
 some (strOf y2))) := by kernel_rfl
theorem whole_Int_Text_c8_eq (k : Nat) (s1 : Bool × List Int) (s3 : List Int) (s4 : List Int) (s5 : Int) (s6 : Int) : whole_Int_Text_c8 (k + 1) s1 s3 s4 s5 s6 =
 cond (decide (s6 ≥ 0)) (
 cond (decide (0 ≤ s6)) (
 cond (decide (s6 < (s4.length : Int))) (
 (bits_Div32 k s5 (s4.getD s6.toNat 0) 10).bind fun y3 =>
 cond (decide (0 ≤ s6)) (
 cond (decide (s6 < (s4.length : Int))) (
 whole_Int_Text_c8 k s1 s3 (s4.set s6.toNat y3.1) y3.2 (wi64 (s6 - 1))) none) none) none) none) (
 cond (decide (s3.length + 1 < 140737488355328)) (
 (whole_trimmed_1 k s4).bind fun y4 =>
 whole_Int_Text_c5 k s1 (s3 ++ [(wu8 (48 + (wu8 s5)))]) y4) none) := by kernel_rfl
theorem strings_Repeat_eq (k : Nat) (a : ByteArray) (b : Int) : strings_Repeat k a b = cond (decide (0 ≤ b) && decide (b ≤ 9223372036854775807) && decide (a.size * b.toNat ≤ 140737488355328)) (some ⟨(Lib.repeatL a.data.toList b.toNat).toArray⟩) none := by kernel_rfl
theorem amount_pointed_eq (k : Nat) (a : ByteArray) (b : Int) : amount_pointed (k + 1) a b =
 (strings_Repeat k (bs [48]) (maxI 0 (wi64 ((wi64 (b + 1)) - (a.size : Int))))).bind fun y0 =>
 cond (decide (y0.size + a.size ≤ 9223372036854775807)) (
 cond (decide (0 ≤ (wi64 (((y0 ++ a).size : Int) - b)))) (
 cond (decide ((wi64 (((y0 ++ a).size : Int) - b)) ≤ ((y0 ++ a).size : Int))) (
 cond (decide (0 ≤ (wi64 (((y0 ++ a).size : Int) - b)))) (
 cond (decide ((wi64 (((y0 ++ a).size : Int) - b)) ≤ ((y0 ++ a).size : Int))) (
 some (((y0 ++ a).extract 0 (wi64 (((y0 ++ a).size : Int) - b)).toNat), ((y0 ++ a).extract (wi64 (((y0 ++ a).size : Int) - b)).toNat (y0 ++ a).size))) none) none) none) none) none := by kernel_rfl
theorem amount_sign_eq (k : Nat) (a : Int × Int) : amount_sign (k + 1) a =
 cond (decide (a.1 < 0)) (
 some (bs [45])) (
 some (bs [])) := by kernel_rfl
theorem amount_Text_eq (k : Nat) (a : Int × Int) : amount_Text (k + 1) a =
 (amount_CheckDecimal k a).bind fun y0 =>
 cond (y0 != 0) (
 some ((bs []), y0)) (
 (whole_Of k a.1).bind fun y1 =>
 (whole_Int_Abs k y1).bind fun y2 =>
 (whole_Int_Text k y2).bind fun y3 =>
 (amount_pointed k y3 a.2).bind fun y4 =>
 cond (a.2 == 0) (
 (amount_sign k a).bind fun y5 =>
 cond (decide (y5.size + y4.1.size ≤ 9223372036854775807)) (
 some ((y5 ++ y4.1), 0)) none) (
 (amount_sign k a).bind fun y6 =>
 cond (decide (y6.size + y4.1.size ≤ 9223372036854775807)) (
 cond (decide ((y6 ++ y4.1).size + 1 ≤ 9223372036854775807)) (
 cond (decide (((y6 ++ y4.1) ++ (bs [46])).size + y4.2.size ≤ 9223372036854775807)) (
 some ((((y6 ++ y4.1) ++ (bs [46])) ++ y4.2), 0)) none) none) none)) := by kernel_rfl
theorem interchangetop_flatFormat_eq (k : Nat) (a : Int) : interchangetop_flatFormat (k + 1) a =
 cond (a == 0) (
 some (a, (0, ([((bs [76]), ([((bs [97, 114, 116, 105, 99, 108, 101]), (1, (40, (0, (0, (false, (32, false))))))), ((bs [113, 117, 97, 110, 116, 105, 116, 121]), (2, (20, (3, (0, (true, (48, false)))))))], (0, (bs [])))), ((bs [84]), ([((bs [109, 97, 110, 121]), (2, (10, (0, (0, (true, (48, false))))))), ((bs [113, 117, 97, 110, 116, 105, 116, 121]), (2, (20, (3, (0, (true, (48, false)))))))], (0, (bs []))))], ((bs []), ((bs [84]), ((bs [109, 97, 110, 121]), (bs [113, 117, 97, 110, 116, 105, 116, 121])))))))) (
 some (a, (0, ([((bs [76]), ([((bs [97, 114, 116, 105, 99, 108, 101]), (1, (40, (0, (0, (false, (0, false))))))), ((bs [113, 117, 97, 110, 116, 105, 116, 121]), (2, (20, (3, (0, (false, (0, false)))))))], (0, (bs [])))), ((bs [84]), ([((bs [109, 97, 110, 121]), (2, (10, (0, (0, (false, (0, false))))))), ((bs [113, 117, 97, 110, 116, 105, 116, 121]), (2, (20, (3, (0, (false, (0, false)))))))], (0, (bs []))))], ((bs []), ((bs [84]), ((bs [109, 97, 110, 121]), (bs [113, 117, 97, 110, 116, 105, 116, 121])))))))) := by kernel_rfl
theorem kit_IsTagPart_eq (k : Nat) (a : ByteArray) : kit_IsTagPart (k + 1) a =
 (strings_Trim k a (bs [65, 66, 67, 68, 69, 70, 71, 72, 73, 74, 75, 76, 77, 78, 79, 80, 81, 82, 83, 84, 85, 86, 87, 88, 89, 90, 48, 49, 50, 51, 52, 53, 54, 55, 56, 57])).bind fun y0 =>
 some (eqS y0 (bs [])) := by kernel_rfl
theorem flat_markFault_eq (k : Nat) (a : Int) : flat_markFault (k + 1) a =
 (cond (!(cond (decide (a < 32)) true (decide (a > 126)))) (kit_IsTagPart k (Utf8.encode a)) (some false)).bind fun y0 =>
 (cond (!(cond (cond (decide (a < 32)) true (decide (a > 126))) true y0)) (kit_InBytes k (Utf8.encode a) 97 122) (some false)).bind fun y1 =>
 some (cond (cond (cond (cond (cond (decide (a < 32)) true (decide (a > 126))) true y0) true y1) true (a == 45)) true (a == 46)) := by kernel_rfl
theorem flat_marksFault_eq (k : Nat) (a : QF) : flat_marksFault (k + 1) a =
 (cond (a.1 != 0) (flat_markFault k a.1) (some false)).bind fun y0 =>
 (cond (((a.1 != 0) && (!y0)) && (a.2.1 != 0)) (flat_markFault k a.2.1) (some false)).bind fun y1 =>
 cond (cond (a.1 != 0) (cond (cond y0 true (cond (a.2.1 != 0) y1 false)) true (a.1 == a.2.1)) false) (
 some 12) (
 cond (cond (a.1 == 0) (a.2.1 != 0) false) (
 some 3) (
 some 0)) := by kernel_rfl
theorem flat_kindFault_1_r_eq (k : Nat) (a : QK) (b : QK) : flat_kindFault_1_r (k + 1) a b =
 some (eqS a.1 b.1) := by kernel_rfl
theorem slices_IndexFunc_Lapi_RowKind_api_RowKind_of_flat_kindFault_1_eq (k : Nat) (a : List QK) (b : QK) : slices_IndexFunc_Lapi_RowKind_api_RowKind_of_flat_kindFault_1 (k + 1) a b =
 slices_IndexFunc_Lapi_RowKind_api_RowKind_of_flat_kindFault_1_c2 k a b (a.length : Int) 0 := by kernel_rfl
theorem slices_IndexFunc_Lapi_RowKind_api_RowKind_of_flat_kindFault_1_c2_eq (k : Nat) (s0 : List QK) (s1 : QK) (s7 : Int) (s8 : Int) : slices_IndexFunc_Lapi_RowKind_api_RowKind_of_flat_kindFault_1_c2 (k + 1) s0 s1 s7 s8 =
 cond (decide (s8 < s7)) (
 cond (decide (0 ≤ s8)) (
 cond (decide (s8 < (s0.length : Int))) (
 (flat_kindFault_1_r k (((s0.getD s8.toNat ((bs []), ([], (0, (bs []))))).1), ((((s0.getD s8.toNat ((bs []), ([], (0, (bs []))))).2).1), (((((s0.getD s8.toNat ((bs []), ([], (0, (bs []))))).2).2).1), ((((s0.getD s8.toNat ((bs []), ([], (0, (bs []))))).2).2).2)))) s1).bind fun y0 =>
 cond y0 (
 some s8) (
 slices_IndexFunc_Lapi_RowKind_api_RowKind_of_flat_kindFault_1_c2 k s0 s1 s7 (wi64 (s8 + 1)))) none) none) (
 some (-1)) := by kernel_rfl
theorem slices_ContainsFunc_Lapi_RowKind_api_RowKind_of_flat_kindFault_1_eq (k : Nat) (a : List QK) (b : QK) : slices_ContainsFunc_Lapi_RowKind_api_RowKind_of_flat_kindFault_1 (k + 1) a b =
 (slices_IndexFunc_Lapi_RowKind_api_RowKind_of_flat_kindFault_1 k a b).bind fun y0 =>
 some (decide (y0 ≥ 0)) := by kernel_rfl
theorem flat_columnFault_1_r_eq (k : Nat) (a : QC) (b : QC) : flat_columnFault_1_r (k + 1) a b =
 some (eqS a.1 b.1) := by kernel_rfl
theorem slices_IndexFunc_Lapi_Column_api_Column_of_flat_columnFault_1_eq (k : Nat) (a : List QC) (b : QC) : slices_IndexFunc_Lapi_Column_api_Column_of_flat_columnFault_1 (k + 1) a b =
 slices_IndexFunc_Lapi_Column_api_Column_of_flat_columnFault_1_c2 k a b (a.length : Int) 0 := by kernel_rfl
theorem slices_IndexFunc_Lapi_Column_api_Column_of_flat_columnFault_1_c2_eq (k : Nat) (s0 : List QC) (s1 : QC) (s7 : Int) (s8 : Int) : slices_IndexFunc_Lapi_Column_api_Column_of_flat_columnFault_1_c2 (k + 1) s0 s1 s7 s8 =
 cond (decide (s8 < s7)) (
 cond (decide (0 ≤ s8)) (
 cond (decide (s8 < (s0.length : Int))) (
 (flat_columnFault_1_r k (((s0.getD s8.toNat ((bs []), (0, (0, (0, (0, (false, (0, false)))))))).1), ((((s0.getD s8.toNat ((bs []), (0, (0, (0, (0, (false, (0, false)))))))).2).1), (((((s0.getD s8.toNat ((bs []), (0, (0, (0, (0, (false, (0, false)))))))).2).2).1), ((((((s0.getD s8.toNat ((bs []), (0, (0, (0, (0, (false, (0, false)))))))).2).2).2).1), (((((((s0.getD s8.toNat ((bs []), (0, (0, (0, (0, (false, (0, false)))))))).2).2).2).2).1), ((((((((s0.getD s8.toNat ((bs []), (0, (0, (0, (0, (false, (0, false)))))))).2).2).2).2).2).1), (((((((((s0.getD s8.toNat ((bs []), (0, (0, (0, (0, (false, (0, false)))))))).2).2).2).2).2).2).1), ((((((((s0.getD s8.toNat ((bs []), (0, (0, (0, (0, (false, (0, false)))))))).2).2).2).2).2).2).2)))))))) s1).bind fun y0 =>
 cond y0 (
 some s8) (
 slices_IndexFunc_Lapi_Column_api_Column_of_flat_columnFault_1_c2 k s0 s1 s7 (wi64 (s8 + 1)))) none) none) (
 some (-1)) := by kernel_rfl
theorem slices_ContainsFunc_Lapi_Column_api_Column_of_flat_columnFault_1_eq (k : Nat) (a : List QC) (b : QC) : slices_ContainsFunc_Lapi_Column_api_Column_of_flat_columnFault_1 (k + 1) a b =
 (slices_IndexFunc_Lapi_Column_api_Column_of_flat_columnFault_1 k a b).bind fun y0 =>
 some (decide (y0 ≥ 0)) := by kernel_rfl
theorem flat_formWidth_eq (k : Nat) (a : Int) : flat_formWidth (k + 1) a =
 cond (a == 1) (
 cond (a == 1) (
 some 8) (
 cond (a == 4) (
 some 10) (
 cond (a == 5) (
 some 7) (
 some 0)))) (
 cond (a == 3) (
 some 8) (
 cond (a == 4) (
 some 10) (
 cond (a == 5) (
 some 7) (
 some 0)))) := by kernel_rfl
theorem flat_idle_eq (k : Nat) (a : QF) (b : QC) : flat_idle (k + 1) a b =
 some (cond (cond (cond (b.2.1 == 2) true (b.2.2.2.1 == 0)) (cond (b.2.1 == 3) true (b.2.2.2.2.1 == 0)) false) (cond (cond (!(b.2.1 == 3)) (a.1 == 0) false) true (cond (!b.2.2.2.2.2.1) (b.2.2.2.2.2.2.1 == 0) false)) false) := by kernel_rfl
theorem flat_columnFault_eq (k : Nat) (a : QF) (b : QC) (c : List QC) : flat_columnFault (k + 1) a b c =
 (kit_IsName k b.1).bind fun y0 =>
 cond (!y0) (
 some 5) (
 (slices_ContainsFunc_Lapi_Column_api_Column_of_flat_columnFault_1 k c b).bind fun y1 =>
 cond y1 (
 some 7) (
 (kit_Outside k b.2.1 1 3).bind fun y2 =>
 cond y2 (
 some 4) (
 (kit_Outside k b.2.2.1 1 100).bind fun y3 =>
 cond y3 (
 some 1) (
 (cond (b.2.1 == 2) (kit_Outside k b.2.2.2.1 0 9) (some false)).bind fun y4 =>
 cond (cond (b.2.1 == 2) y4 false) (
 some 1) (
 (cond (b.2.1 == 3) (flat_formWidth k b.2.2.2.2.1) (some 0)).bind fun y5 =>
 cond (cond (b.2.1 == 3) (y5 == 0) false) (
 some 4) (
 (flat_idle k a b).bind fun y6 =>
 cond (!y6) (
 some 3) (
 cond (a.1 != 0) (
 some 0) (
 cond (cond (cond (!(b.2.1 == 3)) (b.2.2.2.2.2.2.1 != 32) false) (!(cond (cond (b.2.1 == 2) (b.2.2.2.2.2.2.1 == 48) false) b.2.2.2.2.2.1 false)) false) (
 some 3) (
 (cond (b.2.1 == 3) (flat_formWidth k b.2.2.2.2.1) (some 0)).bind fun y7 =>
 cond (cond (b.2.1 == 3) (b.2.2.1 != y7) false) (
 some 12) (
 some 0)))))))))) := by kernel_rfl
theorem flat_kindFault_2_r_eq (k : Nat) (a : QK) (b : QK) : flat_kindFault_2_r (k + 1) a b =
 some (eqS a.1 b.2.2.2) := by kernel_rfl
theorem slices_IndexFunc_Lapi_RowKind_api_RowKind_of_flat_kindFault_2_eq (k : Nat) (a : List QK) (b : QK) : slices_IndexFunc_Lapi_RowKind_api_RowKind_of_flat_kindFault_2 (k + 1) a b =
 slices_IndexFunc_Lapi_RowKind_api_RowKind_of_flat_kindFault_2_c2 k a b (a.length : Int) 0 := by kernel_rfl
theorem slices_IndexFunc_Lapi_RowKind_api_RowKind_of_flat_kindFault_2_c2_eq (k : Nat) (s0 : List QK) (s1 : QK) (s7 : Int) (s8 : Int) : slices_IndexFunc_Lapi_RowKind_api_RowKind_of_flat_kindFault_2_c2 (k + 1) s0 s1 s7 s8 =
 cond (decide (s8 < s7)) (
 cond (decide (0 ≤ s8)) (
 cond (decide (s8 < (s0.length : Int))) (
 (flat_kindFault_2_r k (((s0.getD s8.toNat ((bs []), ([], (0, (bs []))))).1), ((((s0.getD s8.toNat ((bs []), ([], (0, (bs []))))).2).1), (((((s0.getD s8.toNat ((bs []), ([], (0, (bs []))))).2).2).1), ((((s0.getD s8.toNat ((bs []), ([], (0, (bs []))))).2).2).2)))) s1).bind fun y0 =>
 cond y0 (
 some s8) (
 slices_IndexFunc_Lapi_RowKind_api_RowKind_of_flat_kindFault_2_c2 k s0 s1 s7 (wi64 (s8 + 1)))) none) none) (
 some (-1)) := by kernel_rfl
theorem slices_ContainsFunc_Lapi_RowKind_api_RowKind_of_flat_kindFault_2_eq (k : Nat) (a : List QK) (b : QK) : slices_ContainsFunc_Lapi_RowKind_api_RowKind_of_flat_kindFault_2 (k + 1) a b =
 (slices_IndexFunc_Lapi_RowKind_api_RowKind_of_flat_kindFault_2 k a b).bind fun y0 =>
 some (decide (y0 ≥ 0)) := by kernel_rfl
theorem flat_kindFault_eq (k : Nat) (a : QF) (b : Int) : flat_kindFault (k + 1) a b =
 cond (decide (0 ≤ b)) (
 cond (decide (b < (a.2.2.1.length : Int))) (
 (cond (!(cond (decide ((((a.2.2.1.getD b.toNat ((bs []), ([], (0, (bs []))))).1).size : Int) < 1)) true (decide ((((a.2.2.1.getD b.toNat ((bs []), ([], (0, (bs []))))).1).size : Int) > 6)))) (kit_IsTagPart k ((a.2.2.1.getD b.toNat ((bs []), ([], (0, (bs []))))).1)) (some false)).bind fun y0 =>
 cond (cond (cond (decide ((((a.2.2.1.getD b.toNat ((bs []), ([], (0, (bs []))))).1).size : Int) < 1)) true (decide ((((a.2.2.1.getD b.toNat ((bs []), ([], (0, (bs []))))).1).size : Int) > 6))) true (!y0)) (
 some 3) (
 cond (decide (0 ≤ b)) (
 cond (decide (b ≤ (a.2.2.1.length : Int))) (
 (slices_ContainsFunc_Lapi_RowKind_api_RowKind_of_flat_kindFault_1 k (a.2.2.1.take b.toNat) (((a.2.2.1.getD b.toNat ((bs []), ([], (0, (bs []))))).1), ((((a.2.2.1.getD b.toNat ((bs []), ([], (0, (bs []))))).2).1), (((((a.2.2.1.getD b.toNat ((bs []), ([], (0, (bs []))))).2).2).1), ((((a.2.2.1.getD b.toNat ((bs []), ([], (0, (bs []))))).2).2).2))))).bind fun y1 =>
 cond y1 (
 some 7) (
 cond ((!(a.1 == 0)) || true) (
 cond ((!(a.1 == 0)) || (decide (0 < (a.2.2.1.length : Int)))) (
 cond (cond (a.1 == 0) ((((a.2.2.1.getD b.toNat ((bs []), ([], (0, (bs []))))).1).size : Int) != (((a.2.2.1.getD 0 ((bs []), ([], (0, (bs []))))).1).size : Int)) false) (
 some 3) (
 cond (decide (((((a.2.2.1.getD b.toNat ((bs []), ([], (0, (bs []))))).2).1).length : Int) > 50)) (
 some 2) (
 flat_kindFault_c12 k b a (((a.2.2.1.getD b.toNat ((bs []), ([], (0, (bs []))))).1), ((((a.2.2.1.getD b.toNat ((bs []), ([], (0, (bs []))))).2).1), (((((a.2.2.1.getD b.toNat ((bs []), ([], (0, (bs []))))).2).2).1), ((((a.2.2.1.getD b.toNat ((bs []), ([], (0, (bs []))))).2).2).2)))) (((a.2.2.1.getD b.toNat ((bs []), ([], (0, (bs []))))).2).1) ((((a.2.2.1.getD b.toNat ((bs []), ([], (0, (bs []))))).2).1).length : Int) 0))) none) none)) none) none)) none) none := by kernel_rfl
theorem flat_kindFault_c12_eq (k : Nat) (s1 : Int) (s2 : QF) (s5 : QK) (s62 : List QC) (s63 : Int) (s64 : Int) : flat_kindFault_c12 (k + 1) s1 s2 s5 s62 s63 s64 =
 cond (decide (s64 < s63)) (
 cond (decide (0 ≤ s64)) (
 cond (decide (s64 < (s62.length : Int))) (
 cond (decide (0 ≤ s64)) (
 cond (decide (s64 ≤ (s5.2.1.length : Int))) (
 (flat_columnFault k s2 (((s62.getD s64.toNat ((bs []), (0, (0, (0, (0, (false, (0, false)))))))).1), ((((s62.getD s64.toNat ((bs []), (0, (0, (0, (0, (false, (0, false)))))))).2).1), (((((s62.getD s64.toNat ((bs []), (0, (0, (0, (0, (false, (0, false)))))))).2).2).1), ((((((s62.getD s64.toNat ((bs []), (0, (0, (0, (0, (false, (0, false)))))))).2).2).2).1), (((((((s62.getD s64.toNat ((bs []), (0, (0, (0, (0, (false, (0, false)))))))).2).2).2).2).1), ((((((((s62.getD s64.toNat ((bs []), (0, (0, (0, (0, (false, (0, false)))))))).2).2).2).2).2).1), (((((((((s62.getD s64.toNat ((bs []), (0, (0, (0, (0, (false, (0, false)))))))).2).2).2).2).2).2).1), ((((((((s62.getD s64.toNat ((bs []), (0, (0, (0, (0, (false, (0, false)))))))).2).2).2).2).2).2).2)))))))) (s5.2.1.take s64.toNat)).bind fun y2 =>
 cond (y2 != 0) (
 some y2) (
 flat_kindFault_c12 k s1 s2 s5 s62 s63 (wi64 (s64 + 1)))) none) none) none) none) (
 (kit_Outside k s5.2.2.1 0 2000).bind fun y3 =>
 cond y3 (
 some 1) (
 cond ((!(!(eqS s5.2.2.2 (bs [])))) || (decide (0 ≤ s1))) (
 cond ((!(!(eqS s5.2.2.2 (bs [])))) || (decide (s1 ≤ (s2.2.2.1.length : Int)))) (
 (cond (!(eqS s5.2.2.2 (bs []))) (slices_ContainsFunc_Lapi_RowKind_api_RowKind_of_flat_kindFault_2 k (s2.2.2.1.take s1.toNat) s5) (some false)).bind fun y4 =>
 cond (cond (!(eqS s5.2.2.2 (bs []))) (!y4) false) (
 some 5) (
 some 0)) none) none)) := by kernel_rfl
theorem flat_kindAt_1_r_eq (k : Nat) (a : QK) (b : ByteArray) : flat_kindAt_1_r (k + 1) a b =
 some (eqS a.1 b) := by kernel_rfl
theorem slices_IndexFunc_Lapi_RowKind_api_RowKind_of_flat_kindAt_1_eq (k : Nat) (a : List QK) (b : ByteArray) : slices_IndexFunc_Lapi_RowKind_api_RowKind_of_flat_kindAt_1 (k + 1) a b =
 slices_IndexFunc_Lapi_RowKind_api_RowKind_of_flat_kindAt_1_c2 k a b (a.length : Int) 0 := by kernel_rfl
theorem slices_IndexFunc_Lapi_RowKind_api_RowKind_of_flat_kindAt_1_c2_eq (k : Nat) (s0 : List QK) (s1 : ByteArray) (s7 : Int) (s8 : Int) : slices_IndexFunc_Lapi_RowKind_api_RowKind_of_flat_kindAt_1_c2 (k + 1) s0 s1 s7 s8 =
 cond (decide (s8 < s7)) (
 cond (decide (0 ≤ s8)) (
 cond (decide (s8 < (s0.length : Int))) (
 (flat_kindAt_1_r k (((s0.getD s8.toNat ((bs []), ([], (0, (bs []))))).1), ((((s0.getD s8.toNat ((bs []), ([], (0, (bs []))))).2).1), (((((s0.getD s8.toNat ((bs []), ([], (0, (bs []))))).2).2).1), ((((s0.getD s8.toNat ((bs []), ([], (0, (bs []))))).2).2).2)))) s1).bind fun y0 =>
 cond y0 (
 some s8) (
 slices_IndexFunc_Lapi_RowKind_api_RowKind_of_flat_kindAt_1_c2 k s0 s1 s7 (wi64 (s8 + 1)))) none) none) (
 some (-1)) := by kernel_rfl
theorem flat_kindAt_eq (k : Nat) (a : QF) (b : ByteArray) : flat_kindAt (k + 1) a b =
 (slices_IndexFunc_Lapi_RowKind_api_RowKind_of_flat_kindAt_1 k a.2.2.1 b).bind fun y0 =>
 cond (decide (y0 < 0)) (
 some (((bs []), ([], (0, (bs [])))), false)) (
 cond (decide (0 ≤ y0)) (
 cond (decide (y0 < (a.2.2.1.length : Int))) (
 some ((((a.2.2.1.getD y0.toNat ((bs []), ([], (0, (bs []))))).1), ((((a.2.2.1.getD y0.toNat ((bs []), ([], (0, (bs []))))).2).1), (((((a.2.2.1.getD y0.toNat ((bs []), ([], (0, (bs []))))).2).2).1), ((((a.2.2.1.getD y0.toNat ((bs []), ([], (0, (bs []))))).2).2).2)))), true)) none) none) := by kernel_rfl
theorem flat_columnAt_1_r_eq (k : Nat) (a : QC) (b : ByteArray) : flat_columnAt_1_r (k + 1) a b =
 some (eqS a.1 b) := by kernel_rfl
theorem slices_IndexFunc_Lapi_Column_api_Column_of_flat_columnAt_1_eq (k : Nat) (a : List QC) (b : ByteArray) : slices_IndexFunc_Lapi_Column_api_Column_of_flat_columnAt_1 (k + 1) a b =
 slices_IndexFunc_Lapi_Column_api_Column_of_flat_columnAt_1_c2 k a b (a.length : Int) 0 := by kernel_rfl
theorem slices_IndexFunc_Lapi_Column_api_Column_of_flat_columnAt_1_c2_eq (k : Nat) (s0 : List QC) (s1 : ByteArray) (s7 : Int) (s8 : Int) : slices_IndexFunc_Lapi_Column_api_Column_of_flat_columnAt_1_c2 (k + 1) s0 s1 s7 s8 =
 cond (decide (s8 < s7)) (
 cond (decide (0 ≤ s8)) (
 cond (decide (s8 < (s0.length : Int))) (
 (flat_columnAt_1_r k (((s0.getD s8.toNat ((bs []), (0, (0, (0, (0, (false, (0, false)))))))).1), ((((s0.getD s8.toNat ((bs []), (0, (0, (0, (0, (false, (0, false)))))))).2).1), (((((s0.getD s8.toNat ((bs []), (0, (0, (0, (0, (false, (0, false)))))))).2).2).1), ((((((s0.getD s8.toNat ((bs []), (0, (0, (0, (0, (false, (0, false)))))))).2).2).2).1), (((((((s0.getD s8.toNat ((bs []), (0, (0, (0, (0, (false, (0, false)))))))).2).2).2).2).1), ((((((((s0.getD s8.toNat ((bs []), (0, (0, (0, (0, (false, (0, false)))))))).2).2).2).2).2).1), (((((((((s0.getD s8.toNat ((bs []), (0, (0, (0, (0, (false, (0, false)))))))).2).2).2).2).2).2).1), ((((((((s0.getD s8.toNat ((bs []), (0, (0, (0, (0, (false, (0, false)))))))).2).2).2).2).2).2).2)))))))) s1).bind fun y0 =>
 cond y0 (
 some s8) (
 slices_IndexFunc_Lapi_Column_api_Column_of_flat_columnAt_1_c2 k s0 s1 s7 (wi64 (s8 + 1)))) none) none) (
 some (-1)) := by kernel_rfl
theorem flat_columnAt_eq (k : Nat) (a : QK) (b : ByteArray) : flat_columnAt (k + 1) a b =
 (slices_IndexFunc_Lapi_Column_api_Column_of_flat_columnAt_1 k a.2.1 b).bind fun y0 =>
 some y0 := by kernel_rfl
theorem flat_endsFault_eq (k : Nat) (a : QF) : flat_endsFault (k + 1) a =
 flat_endsFault_c2 k a [a.2.2.2.1, a.2.2.2.2.1] 2 0 := by kernel_rfl
theorem flat_endsFault_c2_eq (k : Nat) (s1 : QF) (s16 : List ByteArray) (s17 : Int) (s18 : Int) : flat_endsFault_c2 (k + 1) s1 s16 s17 s18 =
 cond (decide (s18 < s17)) (
 cond (decide (0 ≤ s18)) (
 cond (decide (s18 < (s16.length : Int))) (
 (flat_kindAt k s1 (s16.getD s18.toNat (bs []))).bind fun y0 =>
 cond (cond (!(eqS (s16.getD s18.toNat (bs [])) (bs []))) (!y0.2) false) (
 some 5) (
 flat_endsFault_c2 k s1 s16 s17 (wi64 (s18 + 1)))) none) none) (
 cond (cond (eqS s1.2.2.2.1 s1.2.2.2.2.1) (!(eqS s1.2.2.2.1 (bs []))) false) (
 some 12) (
 cond (cond (eqS s1.2.2.2.2.1 (bs [])) (cond (!(eqS s1.2.2.2.2.2.1 (bs []))) true (!(eqS s1.2.2.2.2.2.2 (bs [])))) false) (
 some 3) (
 (flat_kindAt k s1 s1.2.2.2.2.1).bind fun y1 =>
 flat_endsFault_c14 k s1 y1.1 [s1.2.2.2.2.2.1, s1.2.2.2.2.2.2] 2 0))) := by kernel_rfl
theorem flat_endsFault_c14_eq (k : Nat) (s1 : QF) (s7 : QK) (s69 : List ByteArray) (s70 : Int) (s71 : Int) : flat_endsFault_c14 (k + 1) s1 s7 s69 s70 s71 =
 cond (decide (s71 < s70)) (
 cond (decide (0 ≤ s71)) (
 cond (decide (s71 < (s69.length : Int))) (
 cond (eqS (s69.getD s71.toNat (bs [])) (bs [])) (
 flat_endsFault_c14 k s1 s7 s69 s70 (wi64 (s71 + 1))) (
 (flat_columnAt k s7 (s69.getD s71.toNat (bs []))).bind fun y2 =>
 cond ((!(!(decide (y2 < 0)))) || (decide (0 ≤ y2))) (
 cond ((!(!(decide (y2 < 0)))) || (decide (y2 < (s7.2.1.length : Int)))) (
 cond ((!((!(cond (decide (y2 < 0)) true ((((s7.2.1.getD y2.toNat ((bs []), (0, (0, (0, (0, (false, (0, false)))))))).2).1) != 2))) && (s71 == 0))) || (decide (0 ≤ y2))) (
 cond ((!((!(cond (decide (y2 < 0)) true ((((s7.2.1.getD y2.toNat ((bs []), (0, (0, (0, (0, (false, (0, false)))))))).2).1) != 2))) && (s71 == 0))) || (decide (y2 < (s7.2.1.length : Int)))) (
 cond (cond (cond (decide (y2 < 0)) true ((((s7.2.1.getD y2.toNat ((bs []), (0, (0, (0, (0, (false, (0, false)))))))).2).1) != 2)) true (cond (s71 == 0) ((((((s7.2.1.getD y2.toNat ((bs []), (0, (0, (0, (0, (false, (0, false)))))))).2).2).2).1) != 0) false)) (
 some 5) (
 flat_endsFault_c14 k s1 s7 s69 s70 (wi64 (s71 + 1)))) none) none) none) none)) none) none) (
 cond (cond (eqS s1.2.2.2.2.2.1 s1.2.2.2.2.2.2) (!(eqS s1.2.2.2.2.2.1 (bs []))) false) (
 some 12) (
 some 0)) := by kernel_rfl
theorem flat_CheckFormat_eq (k : Nat) (a : QF) : flat_CheckFormat (k + 1) a =
 (flat_marksFault k a).bind fun y0 =>
 cond (y0 != 0) (
 some y0) (
 cond ((a.2.2.1.length : Int) == 0) (
 some 9) (
 cond (decide ((a.2.2.1.length : Int) > 30)) (
 some 2) (
 flat_CheckFormat_c9 k a (a.2.2.1.length : Int) 0))) := by kernel_rfl
theorem flat_CheckFormat_c9_eq (k : Nat) (s1 : QF) (s21 : Int) (s22 : Int) : flat_CheckFormat_c9 (k + 1) s1 s21 s22 =
 cond (decide (s22 < s21)) (
 (flat_kindFault k s1 s22).bind fun y1 =>
 cond (y1 != 0) (
 some y1) (
 flat_CheckFormat_c9 k s1 s21 (wi64 (s22 + 1)))) (
 (flat_endsFault k s1).bind fun y2 =>
 some y2) := by kernel_rfl
theorem amount_Least_eq (k : Nat) (a : Int × Int) : amount_Least (k + 1) a =
 amount_Least_c1 k a (0, 0) := by kernel_rfl
theorem amount_Least_c1_eq (k : Nat) (s1 : Int × Int) (s2 : Int × Int) : amount_Least_c1 (k + 1) s1 s2 =
 cond ((!(decide (s1.2 > 0))) || true) (
 cond (cond (decide (s1.2 > 0)) ((s1.1.tmod 10) == 0) false) (
 amount_Least_c1 k ((wi64 (s1.1.tdiv 10)), (wi64 (s1.2 - 1))) s2) (
 some s1)) none := by kernel_rfl
theorem amount_isForm_eq (k : Nat) (a : Int) : amount_isForm (k + 1) a =
 (kit_Outside k a 1 5).bind fun y0 =>
 some (!y0) := by kernel_rfl
theorem strconv_Atoi_eq (k : Nat) (a : ByteArray) : strconv_Atoi k a = (Lib.atoi a.data.toList).bind fun n => cond (decide (a.size ≤ 18)) (some (n, true)) none := by kernel_rfl
theorem amount_parts_eq (k : Nat) (a : ByteArray) (b : List Int) : amount_parts (k + 1) a b =
 amount_parts_c3 k a [] b (b.length : Int) 0 := by kernel_rfl
theorem amount_parts_c3_eq (k : Nat) (s0 : ByteArray) (s6 : List Int) (s11 : List Int) (s12 : Int) (s13 : Int) : amount_parts_c3 (k + 1) s0 s6 s11 s12 s13 =
 cond (decide (s13 < s12)) (
 cond (decide (0 ≤ s13)) (
 cond (decide (s13 < (s11.length : Int))) (
 cond ((!(!(decide ((s0.size : Int) < (s11.getD s13.toNat 0))))) || (decide (0 ≤ (s11.getD s13.toNat 0)))) (
 cond ((!(!(decide ((s0.size : Int) < (s11.getD s13.toNat 0))))) || (decide ((s11.getD s13.toNat 0) ≤ (s0.size : Int)))) (
 (cond (!(decide ((s0.size : Int) < (s11.getD s13.toNat 0)))) (kit_IsDigits k (s0.extract 0 (s11.getD s13.toNat 0).toNat)) (some false)).bind fun y0 =>
 cond (cond (decide ((s0.size : Int) < (s11.getD s13.toNat 0))) true (!y0)) (
 some ([], false)) (
 cond (decide (0 ≤ (s11.getD s13.toNat 0))) (
 cond (decide ((s11.getD s13.toNat 0) ≤ (s0.size : Int))) (
 (strconv_Atoi k (s0.extract 0 (s11.getD s13.toNat 0).toNat)).bind fun y1 =>
 cond (decide (s6.length + 1 < 17592186044416)) (
 cond (decide (0 ≤ (s11.getD s13.toNat 0))) (
 cond (decide ((s11.getD s13.toNat 0) ≤ (s0.size : Int))) (
 amount_parts_c3 k (s0.extract (s11.getD s13.toNat 0).toNat s0.size) (s6 ++ [y1.1]) s11 s12 (wi64 (s13 + 1))) none) none) none) none) none)) none) none) none) none) (
 some (s6, (eqS s0 (bs [])))) := by kernel_rfl
theorem amount_isLeap_eq (k : Nat) (a : Int) : amount_isLeap (k + 1) a =
 cond ((!((a.tmod 4) == 0)) || true) (
 cond ((!(((a.tmod 4) == 0) && (!((a.tmod 100) != 0)))) || true) (
 some (cond ((a.tmod 4) == 0) (cond ((a.tmod 100) != 0) true ((a.tmod 400) == 0)) false)) none) none := by kernel_rfl
theorem amount_daysOf_eq (k : Nat) (a : Int) (b : Int) : amount_daysOf (k + 1) a b =
 (cond (b == 2) (amount_isLeap k a) (some false)).bind fun y0 =>
 cond (cond (b == 2) y0 false) (
 some 29) (
 cond (decide (0 ≤ (wi64 (b - 1)))) (
 cond (decide ((wi64 (b - 1)) < 12)) (
 some ([31, 28, 31, 30, 31, 30, 31, 31, 30, 31, 30, 31].getD (wi64 (b - 1)).toNat 0)) none) none) := by kernel_rfl
theorem amount_before_eq (k : Nat) (a : Int) : amount_before (k + 1) a =
 some (wi64 ((wi64 ((wi64 ((wi64 (365 * (wi64 (a - 1)))) + (wi64 ((wi64 (a - 1)).tdiv 4)))) - (wi64 ((wi64 (a - 1)).tdiv 100)))) + (wi64 ((wi64 (a - 1)).tdiv 400)))) := by kernel_rfl
theorem amount_dayOf_eq (k : Nat) (a : Int) (b : Int) (c : Int) : amount_dayOf (k + 1) a b c =
 (kit_Outside k a 1 9999).bind fun y0 =>
 (cond (!y0) (kit_Outside k b 1 12) (some false)).bind fun y1 =>
 (cond (!(cond y0 true y1)) (amount_daysOf k a b) (some 0)).bind fun y2 =>
 (cond (!(cond y0 true y1)) (kit_Outside k c 1 y2) (some false)).bind fun y3 =>
 cond (cond (cond y0 true y1) true y3) (
 some (0, false)) (
 (amount_before k a).bind fun y4 =>
 amount_dayOf_c5 k a b (wi64 (y4 + c)) 1) := by kernel_rfl
theorem amount_dayOf_c5_eq (k : Nat) (s0 : Int) (s1 : Int) (s8 : Int) (s9 : Int) : amount_dayOf_c5 (k + 1) s0 s1 s8 s9 =
 cond (decide (s9 < s1)) (
 (amount_daysOf k s0 s9).bind fun y5 =>
 amount_dayOf_c5 k s0 s1 (wi64 (s8 + y5)) (wi64 (s9 + 1))) (
 some (s8, true)) := by kernel_rfl
theorem amount_WeekDay_eq (k : Nat) (a : Int) : amount_WeekDay (k + 1) a =
 some ((wi64 (a - 1)).tmod 7) := by kernel_rfl
theorem amount_dateOf_eq (k : Nat) (a : Int) : amount_dateOf (k + 1) a =
 amount_dateOf_c2 k a (wi64 ((wi64 (a.tdiv 366)) + 1)) := by kernel_rfl
theorem amount_dateOf_c2_eq (k : Nat) (s0 : Int) (s2 : Int) : amount_dateOf_c2 (k + 1) s0 s2 =
 (cond (decide (s2 < 9999)) (amount_before k (wi64 (s2 + 1))) (some 0)).bind fun y0 =>
 cond (cond (decide (s2 < 9999)) (decide (y0 < s0)) false) (
 amount_dateOf_c2 k s0 (wi64 (s2 + 1))) (
 (amount_before k s2).bind fun y1 =>
 amount_dateOf_c5 k s2 1 (wi64 (s0 - y1))) := by kernel_rfl
theorem amount_dateOf_c5_eq (k : Nat) (s2 : Int) (s3 : Int) (s4 : Int) : amount_dateOf_c5 (k + 1) s2 s3 s4 =
 (amount_daysOf k s2 s3).bind fun y2 =>
 cond (decide (s4 > y2)) (
 (amount_daysOf k s2 s3).bind fun y3 =>
 amount_dateOf_c5 k s2 (wi64 (s3 + 1)) (wi64 (s4 - y3))) (
 some (s2, (s3, s4))) := by kernel_rfl
theorem amount_weekOf_eq (k : Nat) (a : Int) : amount_weekOf (k + 1) a =
 (amount_WeekDay k a).bind fun y0 =>
 (amount_dateOf k (wi64 ((wi64 (a - y0)) + 3))).bind fun y1 =>
 (amount_before k y1.1).bind fun y2 =>
 some (y1.1, (wi64 ((wi64 ((wi64 ((wi64 ((wi64 ((wi64 (a - y0)) + 3)) - y2)) - 1)).tdiv 7)) + 1))) := by kernel_rfl
theorem amount_readDay_eq (k : Nat) (a : ByteArray) (b : Int) (c : Int) : amount_readDay (k + 1) a b c =
 cond (b == 1) (
 (amount_parts k a [4, 2, 2]).bind fun y0 =>
 cond (!y0.2) (
 some (0, false)) (
 cond (decide (0 < (y0.1.length : Int))) (
 cond (decide (1 < (y0.1.length : Int))) (
 cond (decide (2 < (y0.1.length : Int))) (
 (amount_dayOf k (y0.1.getD 0 0) (y0.1.getD 1 0) (y0.1.getD 2 0)).bind fun y1 =>
 some y1) none) none) none)) (
 cond (b == 2) (
 (amount_parts k a [2, 2, 2]).bind fun y2 =>
 cond (!y2.2) (
 some (0, false)) (
 cond (decide (0 < (y2.1.length : Int))) (
 cond (decide (1 < (y2.1.length : Int))) (
 cond (decide (2 < (y2.1.length : Int))) (
 (amount_dayOf k (wi64 (c + ((wi64 (((wi64 ((y2.1.getD 0 0) - c)).tmod 100) + 100)).tmod 100))) (y2.1.getD 1 0) (y2.1.getD 2 0)).bind fun y3 =>
 some y3) none) none) none)) (
 cond (b == 3) (
 (amount_parts k a [2, 2, 4]).bind fun y4 =>
 cond (!y4.2) (
 some (0, false)) (
 cond (decide (2 < (y4.1.length : Int))) (
 cond (decide (1 < (y4.1.length : Int))) (
 cond (decide (0 < (y4.1.length : Int))) (
 (amount_dayOf k (y4.1.getD 2 0) (y4.1.getD 1 0) (y4.1.getD 0 0)).bind fun y5 =>
 some y5) none) none) none)) (
 cond (b == 4) (
 (strings_ReplaceAll k a (bs [45]) (bs [])).bind fun y6 =>
 (amount_parts k y6 [4, 2, 2]).bind fun y7 =>
 cond ((!(!(!y7.2))) || true) (
 cond ((!(!(!y7.2))) || (decide (4 ≤ (y6.size : Int)))) (
 cond ((!(!(!y7.2))) || (decide ((y6.extract 0 4).size + 1 ≤ 9223372036854775807))) (
 cond ((!(!(!y7.2))) || true) (
 cond ((!(!(!y7.2))) || true) (
 cond ((!(!(!y7.2))) || (decide (6 ≤ (y6.size : Int)))) (
 cond ((!(!(!y7.2))) || (decide (((y6.extract 0 4) ++ (bs [45])).size + (y6.extract 4 6).size ≤ 9223372036854775807))) (
 cond ((!(!(!y7.2))) || (decide ((((y6.extract 0 4) ++ (bs [45])) ++ (y6.extract 4 6)).size + 1 ≤ 9223372036854775807))) (
 cond ((!(!(!y7.2))) || true) (
 cond ((!(!(!y7.2))) || (decide (6 ≤ (y6.size : Int)))) (
 cond ((!(!(!y7.2))) || (decide (((((y6.extract 0 4) ++ (bs [45])) ++ (y6.extract 4 6)) ++ (bs [45])).size + (y6.extract 6 y6.size).size ≤ 9223372036854775807))) (
 cond (cond (!y7.2) true (!(eqS a (((((y6.extract 0 4) ++ (bs [45])) ++ (y6.extract 4 6)) ++ (bs [45])) ++ (y6.extract 6 y6.size))))) (
 some (0, false)) (
 cond (decide (0 < (y7.1.length : Int))) (
 cond (decide (1 < (y7.1.length : Int))) (
 cond (decide (2 < (y7.1.length : Int))) (
 (amount_dayOf k (y7.1.getD 0 0) (y7.1.getD 1 0) (y7.1.getD 2 0)).bind fun y8 =>
 some y8) none) none) none)) none) none) none) none) none) none) none) none) none) none) none) (
 (amount_parts k a [4, 2, 1]).bind fun y9 =>
 cond (!y9.2) (
 some (0, false)) (
 cond (decide (0 < (y9.1.length : Int))) (
 cond (decide (1 < (y9.1.length : Int))) (
 cond (decide (2 < (y9.1.length : Int))) (
 (amount_weekDay k (y9.1.getD 0 0) (y9.1.getD 1 0) (y9.1.getD 2 0)).bind fun y10 =>
 some y10) none) none) none))))) := by kernel_rfl
theorem amount_ReadDay_eq (k : Nat) (a : ByteArray) (b : Int) (c : Int) : amount_ReadDay (k + 1) a b c =
 (amount_isForm k b).bind fun y0 =>
 cond (!y0) (
 some (0, 4)) (
 (kit_Outside k c 1 9900).bind fun y1 =>
 cond y1 (
 some (0, 1)) (
 (amount_readDay k a b c).bind fun y2 =>
 cond (!y2.2) (
 some (0, 10)) (
 some (y2.1, 0)))) := by kernel_rfl
theorem flat_isValue_eq (k : Nat) (a : QC) (b : ByteArray) : flat_isValue (k + 1) a b =
 cond (a.2.1 == 2) (
 (amount_ReadText k b).bind fun y0 =>
 (cond (cond (y0.2 == 0) (decide (y0.1.2 ≤ a.2.2.2.1)) false) (amount_Least k y0.1) (some (0, 0))).bind fun y1 =>
 some (cond (cond (y0.2 == 0) (decide (y0.1.2 ≤ a.2.2.2.1)) false) ((y1.1 == y0.1.1) && ((y1.2 == y0.1.2) && true)) false)) (
 cond (a.2.1 == 3) (
 (amount_ReadDay k b 1 1).bind fun y2 =>
 some (y2.2 == 0)) (
 (kit_InBytes k b 32 126).bind fun y3 =>
 (cond y3 (strings_Trim k b (bs [32])) (some (bs []))).bind fun y4 =>
 some (cond y3 (eqS y4 b) false))) := by kernel_rfl
theorem whole_Power_eq (k : Nat) (a : Int) : whole_Power (k + 1) a =
 (whole_Of k 1).bind fun y0 =>
 whole_Power_c3 k (false, []) y0 a 0 := by kernel_rfl
theorem whole_Power_c3_eq (k : Nat) (s2 : Bool × List Int) (s3 : Bool × List Int) (s5 : Int) (s6 : Int) : whole_Power_c3 (k + 1) s2 s3 s5 s6 =
 cond (decide (s6 < s5)) (
 (whole_Of k 10).bind fun y1 =>
 (whole_Int_Times k s3 y1).bind fun y2 =>
 whole_Power_c3 k s2 y2 s5 (wi64 (s6 + 1))) (
 some s3) := by kernel_rfl
theorem amount_Scaled_eq (k : Nat) (a : Int × Int) (b : Int) : amount_Scaled (k + 1) a b =
 (whole_Of k a.1).bind fun y0 =>
 (whole_Power k (wi64 (b - a.2))).bind fun y1 =>
 (whole_Int_Times k y0 y1).bind fun y2 =>
 some y2 := by kernel_rfl
theorem strconv_Itoa_eq (k : Nat) (a : Int) : strconv_Itoa k a = cond (decide (-9223372036854775808 ≤ a) && decide (a ≤ 9223372036854775807)) (some ⟨(Lib.itoa a).toArray⟩) none := by kernel_rfl
theorem amount_padded_eq (k : Nat) (a : Int) (b : Int) : amount_padded (k + 1) a b =
 (strconv_Itoa k a).bind fun y0 =>
 (strings_Repeat k (bs [48]) (wi64 (b - (y0.size : Int)))).bind fun y1 =>
 cond (decide (y1.size + y0.size ≤ 9223372036854775807)) (
 some (y1 ++ y0)) none := by kernel_rfl
theorem amount_DayText_eq (k : Nat) (a : Int) (b : Int) : amount_DayText (k + 1) a b =
 (amount_isForm k b).bind fun y0 =>
 cond (!y0) (
 some ((bs []), 4)) (
 (kit_IsDay k a).bind fun y1 =>
 cond (!y1) (
 some ((bs []), 1)) (
 (amount_dateOf k a).bind fun y2 =>
 cond (b == 1) (
 (amount_padded k y2.1 4).bind fun y3 =>
 (amount_padded k y2.2.1 2).bind fun y4 =>
 cond (decide (y3.size + y4.size ≤ 9223372036854775807)) (
 (amount_padded k y2.2.2 2).bind fun y5 =>
 cond (decide ((y3 ++ y4).size + y5.size ≤ 9223372036854775807)) (
 some (((y3 ++ y4) ++ y5), 0)) none) none) (
 cond (b == 2) (
 (amount_padded k (y2.1.tmod 100) 2).bind fun y6 =>
 (amount_padded k y2.2.1 2).bind fun y7 =>
 cond (decide (y6.size + y7.size ≤ 9223372036854775807)) (
 (amount_padded k y2.2.2 2).bind fun y8 =>
 cond (decide ((y6 ++ y7).size + y8.size ≤ 9223372036854775807)) (
 some (((y6 ++ y7) ++ y8), 0)) none) none) (
 cond (b == 3) (
 (amount_padded k y2.2.2 2).bind fun y9 =>
 (amount_padded k y2.2.1 2).bind fun y10 =>
 cond (decide (y9.size + y10.size ≤ 9223372036854775807)) (
 (amount_padded k y2.1 4).bind fun y11 =>
 cond (decide ((y9 ++ y10).size + y11.size ≤ 9223372036854775807)) (
 some (((y9 ++ y10) ++ y11), 0)) none) none) (
 cond (b == 4) (
 (amount_padded k y2.1 4).bind fun y12 =>
 cond (decide (y12.size + 1 ≤ 9223372036854775807)) (
 (amount_padded k y2.2.1 2).bind fun y13 =>
 cond (decide ((y12 ++ (bs [45])).size + y13.size ≤ 9223372036854775807)) (
 cond (decide (((y12 ++ (bs [45])) ++ y13).size + 1 ≤ 9223372036854775807)) (
 (amount_padded k y2.2.2 2).bind fun y14 =>
 cond (decide ((((y12 ++ (bs [45])) ++ y13) ++ (bs [45])).size + y14.size ≤ 9223372036854775807)) (
 some (((((y12 ++ (bs [45])) ++ y13) ++ (bs [45])) ++ y14), 0)) none) none) none) none) (
 (amount_weekOf k a).bind fun y15 =>
 (amount_padded k y15.1 4).bind fun y16 =>
 (amount_padded k y15.2 2).bind fun y17 =>
 cond (decide (y16.size + y17.size ≤ 9223372036854775807)) (
 (amount_WeekDay k a).bind fun y18 =>
 (strconv_Itoa k (wi64 (y18 + 1))).bind fun y19 =>
 cond (decide ((y16 ++ y17).size + y19.size ≤ 9223372036854775807)) (
 some (((y16 ++ y17) ++ y19), 0)) none) none)))))) := by kernel_rfl
theorem flat_written_eq (k : Nat) (a : QF) (b : QC) (c : ByteArray) : flat_written (k + 1) a b c =
 cond (eqS c (bs [])) (
 some (bs [])) (
 cond (cond (b.2.1 == 2) (a.1 == 0) false) (
 (amount_ReadText k c).bind fun y0 =>
 (amount_Scaled k y0.1 b.2.2.2.1).bind fun y1 =>
 (whole_Int_Text k y1).bind fun y2 =>
 some y2) (
 cond (b.2.1 == 3) (
 (amount_ReadDay k c 1 1).bind fun y3 =>
 (amount_DayText k y3.1 b.2.2.2.2.1).bind fun y4 =>
 some y4.1) (
 some c))) := by kernel_rfl
theorem strings_IndexByte_eq (k : Nat) (a : ByteArray) (b : Int) : strings_IndexByte (k + 1) a b =
 (stringslite_IndexByte k a b).bind fun y0 =>
 some y0 := by kernel_rfl
theorem flat_valueFault_eq (k : Nat) (a : QF) (b : QC) (c : ByteArray) : flat_valueFault (k + 1) a b c =
 cond (cond (eqS c (bs [])) b.2.2.2.2.2.2.2 false) (
 some 13) (
 cond (eqS c (bs [])) (
 some 0) (
 (flat_isValue k b c).bind fun y0 =>
 cond (!y0) (
 some 6) (
 (flat_written k a b c).bind fun y1 =>
 cond (decide ((y1.size : Int) > b.2.2.1)) (
 some 16) (
 (cond (cond (a.1 != 0) (a.2.1 == 0) false) (strings_IndexByte k c a.1) (some 0)).bind fun y2 =>
 cond (cond (cond (a.1 != 0) (a.2.1 == 0) false) (decide (y2 ≥ 0)) false) (
 some 12) (
 some 0))))) := by kernel_rfl
theorem flat_checkRow_eq (k : Nat) (a : QF) (b : QR) : flat_checkRow (k + 1) a b =
 (flat_kindAt k a b.1).bind fun y0 =>
 cond (!y0.2) (
 some (0, 9)) (
 cond ((b.2.length : Int) != (y0.1.2.1.length : Int)) (
 some (0, 3)) (
 flat_checkRow_c7 k a b y0.1.2.1 (y0.1.2.1.length : Int) 0)) := by kernel_rfl
theorem flat_checkRow_c7_eq (k : Nat) (s2 : QF) (s3 : QR) (s28 : List QC) (s29 : Int) (s30 : Int) : flat_checkRow_c7 (k + 1) s2 s3 s28 s29 s30 =
 cond (decide (s30 < s29)) (
 cond (decide (0 ≤ s30)) (
 cond (decide (s30 < (s28.length : Int))) (
 cond (decide (0 ≤ s30)) (
 cond (decide (s30 < (s3.2.length : Int))) (
 (flat_valueFault k s2 (((s28.getD s30.toNat ((bs []), (0, (0, (0, (0, (false, (0, false)))))))).1), ((((s28.getD s30.toNat ((bs []), (0, (0, (0, (0, (false, (0, false)))))))).2).1), (((((s28.getD s30.toNat ((bs []), (0, (0, (0, (0, (false, (0, false)))))))).2).2).1), ((((((s28.getD s30.toNat ((bs []), (0, (0, (0, (0, (false, (0, false)))))))).2).2).2).1), (((((((s28.getD s30.toNat ((bs []), (0, (0, (0, (0, (false, (0, false)))))))).2).2).2).2).1), ((((((((s28.getD s30.toNat ((bs []), (0, (0, (0, (0, (false, (0, false)))))))).2).2).2).2).2).1), (((((((((s28.getD s30.toNat ((bs []), (0, (0, (0, (0, (false, (0, false)))))))).2).2).2).2).2).2).1), ((((((((s28.getD s30.toNat ((bs []), (0, (0, (0, (0, (false, (0, false)))))))).2).2).2).2).2).2).2)))))))) (s3.2.getD s30.toNat (bs []))).bind fun y1 =>
 cond (y1 != 0) (
 some (s30, y1)) (
 flat_checkRow_c7 k s2 s3 s28 s29 (wi64 (s30 + 1)))) none) none) none) none) (
 some (0, 0)) := by kernel_rfl
theorem flat_checkRows_eq (k : Nat) (a : QF) (b : List QR) : flat_checkRows (k + 1) a b =
 flat_checkRows_c2 k a b (b.length : Int) 0 := by kernel_rfl
theorem flat_checkRows_c2_eq (k : Nat) (s2 : QF) (s10 : List QR) (s11 : Int) (s12 : Int) : flat_checkRows_c2 (k + 1) s2 s10 s11 s12 =
 cond (decide (s12 < s11)) (
 cond (decide (0 ≤ s12)) (
 cond (decide (s12 < (s10.length : Int))) (
 (flat_checkRow k s2 (((s10.getD s12.toNat ((bs []), [])).1), ((s10.getD s12.toNat ((bs []), [])).2))).bind fun y0 =>
 cond (y0.2 != 0) (
 some (s12, y0.2)) (
 flat_checkRows_c2 k s2 s10 s11 (wi64 (s12 + 1)))) none) none) (
 some (0, 0)) := by kernel_rfl
theorem flat_inner_eq (k : Nat) (a : QF) (b : List QR) : flat_inner (k + 1) a b =
 flat_inner_c3 k a [] b (b.length : Int) 0 := by kernel_rfl
theorem flat_inner_c3_eq (k : Nat) (s2 : QF) (s5 : List QR) (s8 : List QR) (s9 : Int) (s10 : Int) : flat_inner_c3 (k + 1) s2 s5 s8 s9 s10 =
 cond (decide (s10 < s9)) (
 cond (decide (0 ≤ s10)) (
 cond (decide (s10 < (s8.length : Int))) (
 cond (cond (cond (eqS s2.2.2.2.1 (bs [])) true (!(eqS ((s8.getD s10.toNat ((bs []), [])).1) s2.2.2.2.1))) (cond (eqS s2.2.2.2.2.1 (bs [])) true (!(eqS ((s8.getD s10.toNat ((bs []), [])).1) s2.2.2.2.2.1))) false) (
 cond (decide (s5.length + 1 < 3518437208883)) (
 flat_inner_c3 k s2 (s5 ++ [(((s8.getD s10.toNat ((bs []), [])).1), ((s8.getD s10.toNat ((bs []), [])).2))]) s8 s9 (wi64 (s10 + 1))) none) (
 flat_inner_c3 k s2 s5 s8 s9 (wi64 (s10 + 1)))) none) none) (
 some s5) := by kernel_rfl
theorem flat_sumFault_1_r_eq (k : Nat) (a : QR) (b : QF) : flat_sumFault_1_r (k + 1) a b =
 (flat_kindAt k b a.1).bind fun y0 =>
 (flat_columnAt k y0.1 b.2.2.2.2.2.2).bind fun y1 =>
 cond ((!(decide (y1 ≥ 0))) || (decide (0 ≤ y1))) (
 cond ((!(decide (y1 ≥ 0))) || (decide (y1 < (y0.1.2.1.length : Int)))) (
 some (cond (decide (y1 ≥ 0)) ((((y0.1.2.1.getD y1.toNat ((bs []), (0, (0, (0, (0, (false, (0, false)))))))).2).1) != 2) false)) none) none := by kernel_rfl
theorem slices_IndexFunc_Lapi_Row_api_Row_of_flat_sumFault_1_eq (k : Nat) (a : List QR) (b : QF) : slices_IndexFunc_Lapi_Row_api_Row_of_flat_sumFault_1 (k + 1) a b =
 slices_IndexFunc_Lapi_Row_api_Row_of_flat_sumFault_1_c2 k a b (a.length : Int) 0 := by kernel_rfl
theorem slices_IndexFunc_Lapi_Row_api_Row_of_flat_sumFault_1_c2_eq (k : Nat) (s0 : List QR) (s1 : QF) (s7 : Int) (s8 : Int) : slices_IndexFunc_Lapi_Row_api_Row_of_flat_sumFault_1_c2 (k + 1) s0 s1 s7 s8 =
 cond (decide (s8 < s7)) (
 cond (decide (0 ≤ s8)) (
 cond (decide (s8 < (s0.length : Int))) (
 (flat_sumFault_1_r k (((s0.getD s8.toNat ((bs []), [])).1), ((s0.getD s8.toNat ((bs []), [])).2)) s1).bind fun y0 =>
 cond y0 (
 some s8) (
 slices_IndexFunc_Lapi_Row_api_Row_of_flat_sumFault_1_c2 k s0 s1 s7 (wi64 (s8 + 1)))) none) none) (
 some (-1)) := by kernel_rfl
theorem slices_ContainsFunc_Lapi_Row_api_Row_of_flat_sumFault_1_eq (k : Nat) (a : List QR) (b : QF) : slices_ContainsFunc_Lapi_Row_api_Row_of_flat_sumFault_1 (k + 1) a b =
 (slices_IndexFunc_Lapi_Row_api_Row_of_flat_sumFault_1 k a b).bind fun y0 =>
 some (decide (y0 ≥ 0)) := by kernel_rfl
theorem flat_sumFault_eq (k : Nat) (a : QF) (b : List QR) : flat_sumFault (k + 1) a b =
 (cond (!(eqS a.2.2.2.2.2.2 (bs []))) (slices_ContainsFunc_Lapi_Row_api_Row_of_flat_sumFault_1 k b a) (some false)).bind fun y0 =>
 some (cond (!(eqS a.2.2.2.2.2.2 (bs []))) y0 false) := by kernel_rfl
theorem slices_Clone_Lstring_string_eq (k : Nat) (a : List ByteArray) : slices_Clone_Lstring_string (k + 1) a =
 cond a.isEmpty (
 bothA (.sl .str) (
 some ([])) (
 cond (decide (0 + a.length < 8796093022208)) (
 some ([] ++ a)) none)) (
 cond (decide (0 + a.length < 8796093022208)) (
 some ([] ++ a)) none) := by kernel_rfl
theorem amount_Value_eq (k : Nat) (a : Int × Int) : amount_Value (k + 1) a =
 (amount_Scaled k a 9).bind fun y0 =>
 some y0 := by kernel_rfl
theorem whole_Int_By_eq (k : Nat) (a : Bool × List Int) (b : Bool × List Int) : whole_Int_By (k + 1) a b =
 cond (decide (0 ≤ (a.2.length : Int))) (
 cond (decide ((a.2.length : Int).toNat ≤ 35184372088832)) (
 whole_Int_By_c4 k a b (false, []) (false, []) (List.replicate (a.2.length : Int).toNat 0) [] (wi64 ((wi64 ((a.2.length : Int) * 32)) - 1))) none) none := by kernel_rfl
theorem whole_Int_By_c4_eq (k : Nat) (s2 : Bool × List Int) (s3 : Bool × List Int) (s4 : Bool × List Int) (s5 : Bool × List Int) (s6 : List Int) (s7 : List Int) (s8 : Int) : whole_Int_By_c4 (k + 1) s2 s3 s4 s5 s6 s7 s8 =
 cond (decide (s8 ≥ 0)) (
 (whole_sum k s7 s7).bind fun y0 =>
 cond (decide (0 < (y0.length : Int))) (
 cond (decide (0 ≤ (wi64 (s8.tdiv 32)))) (
 cond (decide ((wi64 (s8.tdiv 32)) < (s2.2.length : Int))) (
 cond (decide (0 ≤ (s8.tmod 32))) (
 cond (decide (0 < (y0.length : Int))) (
 (whole_trimmed k (y0.set 0 (bitsI .or .u32 (y0.getD 0 0) (bitsI .and .u32 (shrI .u32 (s2.2.getD (wi64 (s8.tdiv 32)).toNat 0) (s8.tmod 32)) 1)))).bind fun y1 =>
 (whole_compare k y1 s3.2).bind fun y2 =>
 cond (decide (y2 ≥ 0)) (
 (whole_less k y1 s3.2).bind fun y3 =>
 cond (decide (0 ≤ (wi64 (s8.tdiv 32)))) (
 cond (decide ((wi64 (s8.tdiv 32)) < (s6.length : Int))) (
 cond (decide (0 ≤ (s8.tmod 32))) (
 cond (decide (0 ≤ (wi64 (s8.tdiv 32)))) (
 cond (decide ((wi64 (s8.tdiv 32)) < (s6.length : Int))) (
 whole_Int_By_c4 k s2 s3 s4 s5 (s6.set (wi64 (s8.tdiv 32)).toNat (bitsI .or .u32 (s6.getD (wi64 (s8.tdiv 32)).toNat 0) (shlI .u32 1 (s8.tmod 32)))) y3 (wi64 (s8 - 1))) none) none) none) none) none) (
 whole_Int_By_c4 k s2 s3 s4 s5 s6 y1 (wi64 (s8 - 1)))) none) none) none) none) none) (
 (whole_made k false s6).bind fun y4 =>
 (whole_made k false s7).bind fun y5 =>
 some (y4, y5)) := by kernel_rfl
theorem amount_Fewest_eq (k : Nat) (a : Bool × List Int) (b : Int) : amount_Fewest (k + 1) a b =
 (whole_Of k 10).bind fun y0 =>
 amount_Fewest_c2 k b a (0, 0) y0 := by kernel_rfl
theorem amount_Fewest_c2_eq (k : Nat) (s1 : Int) (s2 : Bool × List Int) (s4 : Int × Int) (s6 : Bool × List Int) : amount_Fewest_c2 (k + 1) s1 s2 s4 s6 =
 cond (decide (s1 > 0)) (
 (whole_Int_By k s2 s6).bind fun y1 =>
 (whole_Int_Sign k y1.2).bind fun y2 =>
 cond (y2 != 0) (
 (amount_Made k s2 s1).bind fun y3 =>
 some y3) (
 (whole_Int_Sign k s2).bind fun y4 =>
 cond (decide (y4 < 0)) (
 (whole_Int_Minus k y1.1).bind fun y5 =>
 amount_Fewest_c2 k (wi64 (s1 - 1)) y5 s4 s6) (
 amount_Fewest_c2 k (wi64 (s1 - 1)) y1.1 s4 s6))) (
 (amount_Made k s2 s1).bind fun y6 =>
 some y6) := by kernel_rfl
theorem flat_sumOf_eq (k : Nat) (a : QF) (b : List QR) (c : ByteArray) (d : ByteArray) : flat_sumOf (k + 1) a b c d =
 (whole_Of k 0).bind fun y0 =>
 flat_sumOf_c3 k c d a (0, 0) y0 b (b.length : Int) 0 := by kernel_rfl
theorem flat_sumOf_c3_eq (k : Nat) (s2 : ByteArray) (s3 : ByteArray) (s4 : QF) (s8 : Int × Int) (s10 : Bool × List Int) (s19 : List QR) (s20 : Int) (s21 : Int) : flat_sumOf_c3 (k + 1) s2 s3 s4 s8 s10 s19 s20 s21 =
 cond (decide (s21 < s20)) (
 cond (decide (0 ≤ s21)) (
 cond (decide (s21 < (s19.length : Int))) (
 (flat_kindAt k s4 ((s19.getD s21.toNat ((bs []), [])).1)).bind fun y1 =>
 (flat_columnAt k y1.1 s3).bind fun y2 =>
 cond ((!(!(cond (cond (!(eqS s2 (bs []))) (!(eqS ((s19.getD s21.toNat ((bs []), [])).1) s2)) false) true (decide (y2 < 0))))) || (decide (0 ≤ y2))) (
 cond ((!(!(cond (cond (!(eqS s2 (bs []))) (!(eqS ((s19.getD s21.toNat ((bs []), [])).1) s2)) false) true (decide (y2 < 0))))) || (decide (y2 < (((s19.getD s21.toNat ((bs []), [])).2).length : Int)))) (
 cond (cond (cond (cond (!(eqS s2 (bs []))) (!(eqS ((s19.getD s21.toNat ((bs []), [])).1) s2)) false) true (decide (y2 < 0))) true (eqS (((s19.getD s21.toNat ((bs []), [])).2).getD y2.toNat (bs [])) (bs []))) (
 flat_sumOf_c3 k s2 s3 s4 s8 s10 s19 s20 (wi64 (s21 + 1))) (
 cond (decide (0 ≤ y2)) (
 cond (decide (y2 < (((s19.getD s21.toNat ((bs []), [])).2).length : Int))) (
 (amount_ReadText k (((s19.getD s21.toNat ((bs []), [])).2).getD y2.toNat (bs []))).bind fun y3 =>
 (amount_Value k y3.1).bind fun y4 =>
 (whole_Int_Plus k s10 y4).bind fun y5 =>
 flat_sumOf_c3 k s2 s3 s4 s8 y5 s19 s20 (wi64 (s21 + 1))) none) none)) none) none) none) none) (
 (amount_Fewest k s10 9).bind fun y6 =>
 some y6) := by kernel_rfl
theorem amount_Told_eq (k : Nat) (a : Int × Int) : amount_Told (k + 1) a =
 (amount_Text k a).bind fun y0 =>
 some y0.1 := by kernel_rfl
theorem slices_Clone_Lapi_Row_api_Row_eq (k : Nat) (a : List QR) : slices_Clone_Lapi_Row_api_Row (k + 1) a =
 cond a.isEmpty (
 bothA (.sl eR) (
 some ([])) (
 cond (decide (0 + a.length < 3518437208883)) (
 some ([] ++ a)) none)) (
 cond (decide (0 + a.length < 3518437208883)) (
 some ([] ++ a)) none) := by kernel_rfl
theorem flat_cloneRows_eq (k : Nat) (a : List QR) : flat_cloneRows (k + 1) a =
 (slices_Clone_Lapi_Row_api_Row k a).bind fun y0 =>
 flat_cloneRows_c3 k y0 (y0.length : Int) 0 := by kernel_rfl
theorem flat_cloneRows_c3_eq (k : Nat) (s0 : List QR) (s8 : Int) (s9 : Int) : flat_cloneRows_c3 (k + 1) s0 s8 s9 =
 cond (decide (s9 < s8)) (
 cond (decide (0 ≤ s9)) (
 cond (decide (s9 < (s0.length : Int))) (
 (slices_Clone_Lstring_string k ((s0.getD s9.toNat ((bs []), [])).2)).bind fun y1 =>
 cond (decide (0 ≤ s9)) (
 cond (decide (s9 < (s0.length : Int))) (
 flat_cloneRows_c3 k (s0.set s9.toNat (((s0.getD s9.toNat ((bs []), [])).1), y1)) s8 (wi64 (s9 + 1))) none) none) none) none) (
 some s0) := by kernel_rfl
theorem flat_Closed_eq (k : Nat) (a : QF) (b : List QR) : flat_Closed (k + 1) a b =
 (flat_CheckFormat k a).bind fun y0 =>
 cond (y0 != 0) (
 some ([], y0)) (
 cond (eqS a.2.2.2.2.1 (bs [])) (
 some ([], 9)) (
 cond (decide ((b.length : Int) > 2000)) (
 some ([], 2)) (
 (flat_checkRows k a b).bind fun y1 =>
 cond (y1.2 != 0) (
 some ([], y1.2)) (
 (flat_inner k a b).bind fun y2 =>
 (flat_sumFault k a y2).bind fun y3 =>
 cond y3 (
 some ([], 6)) (
 (flat_kindAt k a a.2.2.2.2.1).bind fun y4 =>
 cond (decide (0 ≤ (y4.1.2.1.length : Int))) (
 cond (decide ((y4.1.2.1.length : Int).toNat ≤ 8796093022208)) (
 cond ((!(decide ((b.length : Int) > 0))) || (decide (0 ≤ (wi64 ((b.length : Int) - 1))))) (
 cond ((!(decide ((b.length : Int) > 0))) || (decide ((wi64 ((b.length : Int) - 1)) < (b.length : Int)))) (
 cond (cond (decide ((b.length : Int) > 0)) (eqS ((b.getD (wi64 ((b.length : Int) - 1)).toNat ((bs []), [])).1) a.2.2.2.2.1) false) (
 cond (decide (0 ≤ (wi64 ((b.length : Int) - 1)))) (
 cond (decide ((wi64 ((b.length : Int) - 1)) < (b.length : Int))) (
 (slices_Clone_Lstring_string k ((b.getD (wi64 ((b.length : Int) - 1)).toNat ((bs []), [])).2)).bind fun y5 =>
 cond (decide (0 ≤ (wi64 ((b.length : Int) - 1)))) (
 cond (decide ((wi64 ((b.length : Int) - 1)) ≤ (b.length : Int))) (
 flat_Closed_c19 k b a y4.1 (a.2.2.2.2.1, y5) (b.take (wi64 ((b.length : Int) - 1)).toNat)) none) none) none) none) (
 flat_Closed_c19 k b a y4.1 (a.2.2.2.2.1, (List.replicate (y4.1.2.1.length : Int).toNat (bs []))) b)) none) none) none) none))))) := by kernel_rfl
theorem flat_Closed_c19_eq (k : Nat) (s1 : List QR) (s2 : QF) (s9 : QK) (s11 : QR) (s12 : List QR) : flat_Closed_c19 (k + 1) s1 s2 s9 s11 s12 =
 cond (!(eqS s2.2.2.2.2.2.2 (bs []))) (
 (flat_inner k s2 s1).bind fun y6 =>
 (flat_sumOf k s2 y6 (bs []) s2.2.2.2.2.2.2).bind fun y7 =>
 cond (y7.2 != 0) (
 some ([], y7.2)) (
 (flat_columnAt k s9 s2.2.2.2.2.2.2).bind fun y8 =>
 (amount_Told k y7.1).bind fun y9 =>
 cond (decide (0 ≤ y8)) (
 cond (decide (y8 < (s11.2.length : Int))) (
 flat_Closed_c24 k s1 s2 s9 (s11.1, (s11.2.set y8.toNat y9)) s12) none) none)) (
 flat_Closed_c24 k s1 s2 s9 s11 s12) := by kernel_rfl
theorem flat_Closed_c24_eq (k : Nat) (s1 : List QR) (s2 : QF) (s9 : QK) (s11 : QR) (s12 : List QR) : flat_Closed_c24 (k + 1) s1 s2 s9 s11 s12 =
 cond (!(eqS s2.2.2.2.2.2.1 (bs []))) (
 (flat_columnAt k s9 s2.2.2.2.2.2.1).bind fun y10 =>
 (flat_inner k s2 s1).bind fun y11 =>
 (strconv_Itoa k (y11.length : Int)).bind fun y12 =>
 cond (decide (0 ≤ y10)) (
 cond (decide (y10 < (s11.2.length : Int))) (
 (flat_checkRow k s2 (s11.1, (s11.2.set y10.toNat y12))).bind fun y13 =>
 cond (y13.2 != 0) (
 some ([], y13.2)) (
 (flat_cloneRows k s12).bind fun y14 =>
 cond (decide (y14.length + 1 < 3518437208883)) (
 cond (decide (((y14 ++ [(s11.1, (s11.2.set y10.toNat y12))]).length : Int) > 2000)) (
 some ([], 2)) (
 some ((y14 ++ [(s11.1, (s11.2.set y10.toNat y12))]), 0))) none)) none) none) (
 (flat_checkRow k s2 s11).bind fun y15 =>
 cond (y15.2 != 0) (
 some ([], y15.2)) (
 (flat_cloneRows k s12).bind fun y16 =>
 cond (decide (y16.length + 1 < 3518437208883)) (
 cond (decide (((y16 ++ [s11]).length : Int) > 2000)) (
 some ([], 2)) (
 some ((y16 ++ [s11]), 0))) none)) := by kernel_rfl
theorem strings_HasPrefix_eq (k : Nat) (a : ByteArray) (b : ByteArray) : strings_HasPrefix (k + 1) a b =
 (stringslite_HasPrefix k a b).bind fun y0 =>
 some y0 := by kernel_rfl
theorem flat_filled_eq (k : Nat) (a : QF) (b : QC) (c : ByteArray) : flat_filled (k + 1) a b c =
 (flat_written k a b c).bind fun y0 =>
 cond (eqS c (bs [])) (
 (strings_Repeat k (bs [32]) b.2.2.1).bind fun y1 =>
 some y1) (
 (cond (cond b.2.2.2.2.2.1 (b.2.2.2.2.2.2.1 == 48) false) (strings_HasPrefix k y0 (bs [45])) (some false)).bind fun y2 =>
 cond (cond (cond b.2.2.2.2.2.1 (b.2.2.2.2.2.2.1 == 48) false) y2 false) (
 (strings_Repeat k (bs [48]) (maxI 0 (wi64 (b.2.2.1 - (y0.size : Int))))).bind fun y3 =>
 cond (decide (1 + y3.size ≤ 9223372036854775807)) (
 cond (decide (1 ≤ (y0.size : Int))) (
 cond (decide (((bs [45]) ++ y3).size + (y0.extract 1 y0.size).size ≤ 9223372036854775807)) (
 some (((bs [45]) ++ y3) ++ (y0.extract 1 y0.size))) none) none) none) (
 cond b.2.2.2.2.2.1 (
 (strings_Repeat k (Utf8.encode b.2.2.2.2.2.2.1) (maxI 0 (wi64 (b.2.2.1 - (y0.size : Int))))).bind fun y4 =>
 cond (decide (y4.size + y0.size ≤ 9223372036854775807)) (
 some (y4 ++ y0)) none) (
 cond (b.2.1 == 3) (
 some y0) (
 (strings_Repeat k (Utf8.encode b.2.2.2.2.2.2.1) (maxI 0 (wi64 (b.2.2.1 - (y0.size : Int))))).bind fun y5 =>
 cond (decide (y0.size + y5.size ≤ 9223372036854775807)) (
 some (y0 ++ y5)) none)))) := by kernel_rfl
theorem flat_lineOf_eq (k : Nat) (a : QF) (b : QR) : flat_lineOf (k + 1) a b =
 (flat_kindAt k a b.1).bind fun y0 =>
 cond (decide (0 + b.1.size ≤ 140737488355328)) (
 flat_lineOf_c5 k a b ((bs []) ++ b.1) y0.1.2.1 (y0.1.2.1.length : Int) 0) none := by kernel_rfl
theorem flat_lineOf_c5_eq (k : Nat) (s2 : QF) (s3 : QR) (s7 : ByteArray) (s21 : List QC) (s22 : Int) (s23 : Int) : flat_lineOf_c5 (k + 1) s2 s3 s7 s21 s22 s23 =
 cond (decide (s23 < s22)) (
 cond (decide (0 ≤ s23)) (
 cond (decide (s23 < (s21.length : Int))) (
 cond (s2.1 == 0) (
 cond (decide (0 ≤ s23)) (
 cond (decide (s23 < (s3.2.length : Int))) (
 (flat_filled k s2 (((s21.getD s23.toNat ((bs []), (0, (0, (0, (0, (false, (0, false)))))))).1), ((((s21.getD s23.toNat ((bs []), (0, (0, (0, (0, (false, (0, false)))))))).2).1), (((((s21.getD s23.toNat ((bs []), (0, (0, (0, (0, (false, (0, false)))))))).2).2).1), ((((((s21.getD s23.toNat ((bs []), (0, (0, (0, (0, (false, (0, false)))))))).2).2).2).1), (((((((s21.getD s23.toNat ((bs []), (0, (0, (0, (0, (false, (0, false)))))))).2).2).2).2).1), ((((((((s21.getD s23.toNat ((bs []), (0, (0, (0, (0, (false, (0, false)))))))).2).2).2).2).2).1), (((((((((s21.getD s23.toNat ((bs []), (0, (0, (0, (0, (false, (0, false)))))))).2).2).2).2).2).2).1), ((((((((s21.getD s23.toNat ((bs []), (0, (0, (0, (0, (false, (0, false)))))))).2).2).2).2).2).2).2)))))))) (s3.2.getD s23.toNat (bs []))).bind fun y1 =>
 cond (decide (s7.size + y1.size ≤ 140737488355328)) (
 flat_lineOf_c5 k s2 s3 (s7 ++ y1) s21 s22 (wi64 (s23 + 1))) none) none) none) (
 cond (decide (0 ≤ s23)) (
 cond (decide (s23 < (s3.2.length : Int))) (
 (flat_marked k s2 (((s21.getD s23.toNat ((bs []), (0, (0, (0, (0, (false, (0, false)))))))).1), ((((s21.getD s23.toNat ((bs []), (0, (0, (0, (0, (false, (0, false)))))))).2).1), (((((s21.getD s23.toNat ((bs []), (0, (0, (0, (0, (false, (0, false)))))))).2).2).1), ((((((s21.getD s23.toNat ((bs []), (0, (0, (0, (0, (false, (0, false)))))))).2).2).2).1), (((((((s21.getD s23.toNat ((bs []), (0, (0, (0, (0, (false, (0, false)))))))).2).2).2).2).1), ((((((((s21.getD s23.toNat ((bs []), (0, (0, (0, (0, (false, (0, false)))))))).2).2).2).2).2).1), (((((((((s21.getD s23.toNat ((bs []), (0, (0, (0, (0, (false, (0, false)))))))).2).2).2).2).2).2).1), ((((((((s21.getD s23.toNat ((bs []), (0, (0, (0, (0, (false, (0, false)))))))).2).2).2).2).2).2).2)))))))) (s3.2.getD s23.toNat (bs []))).bind fun y2 =>
 cond (decide ((Utf8.encode s2.1).size + y2.size ≤ 9223372036854775807)) (
 cond (decide (s7.size + ((Utf8.encode s2.1) ++ y2).size ≤ 140737488355328)) (
 flat_lineOf_c5 k s2 s3 (s7 ++ ((Utf8.encode s2.1) ++ y2)) s21 s22 (wi64 (s23 + 1))) none) none) none) none)) none) none) (
 some s7) := by kernel_rfl
theorem flat_Write_eq (k : Nat) (a : QF) (b : List QR) : flat_Write (k + 1) a b =
 (flat_CheckFormat k a).bind fun y0 =>
 cond (y0 != 0) (
 some ((bs []), (0, (0, y0)))) (
 cond (decide ((b.length : Int) > 2000)) (
 some ((bs []), (0, (0, 2)))) (
 flat_Write_c8 k a (bs []) b (b.length : Int) 0)) := by kernel_rfl
theorem flat_Write_c8_eq (k : Nat) (s2 : QF) (s9 : ByteArray) (s22 : List QR) (s23 : Int) (s24 : Int) : flat_Write_c8 (k + 1) s2 s9 s22 s23 s24 =
 cond (decide (s24 < s23)) (
 cond (decide (0 ≤ s24)) (
 cond (decide (s24 < (s22.length : Int))) (
 (flat_checkRow k s2 (((s22.getD s24.toNat ((bs []), [])).1), ((s22.getD s24.toNat ((bs []), [])).2))).bind fun y1 =>
 cond (y1.2 != 0) (
 some ((bs []), (s24, y1))) (
 cond (decide ((s9.size : Int) ≤ 500000)) (
 (flat_lineOf k s2 (((s22.getD s24.toNat ((bs []), [])).1), ((s22.getD s24.toNat ((bs []), [])).2))).bind fun y2 =>
 cond (decide (y2.size + 1 ≤ 9223372036854775807)) (
 cond (decide (s9.size + (y2 ++ (bs [10])).size ≤ 140737488355328)) (
 flat_Write_c8 k s2 (s9 ++ (y2 ++ (bs [10]))) s22 s23 (wi64 (s24 + 1))) none) none) (
 flat_Write_c8 k s2 s9 s22 s23 (wi64 (s24 + 1))))) none) none) (
 cond (decide ((s9.size : Int) > 500000)) (
 some ((bs []), (0, (0, 2)))) (
 some (s9, (0, (0, 0))))) := by kernel_rfl
theorem flat_reader_tag_eq (k : Nat) (a : QF × ByteArray × Int) : flat_reader_tag (k + 1) a =
 cond (a.1.1 == 0) (
 cond (decide (0 < (a.1.2.2.1.length : Int))) (
 cond (decide (0 ≤ (minI (((a.1.2.2.1.getD 0 ((bs []), ([], (0, (bs []))))).1).size : Int) (a.2.1.size : Int)))) (
 cond (decide ((minI (((a.1.2.2.1.getD 0 ((bs []), ([], (0, (bs []))))).1).size : Int) (a.2.1.size : Int)) ≤ (a.2.1.size : Int))) (
 (flat_kindAt k a.1 (a.2.1.extract 0 (minI (((a.1.2.2.1.getD 0 ((bs []), ([], (0, (bs []))))).1).size : Int) (a.2.1.size : Int)).toNat)).bind fun y0 =>
 some (y0.1, (y0.2, (a.1, (a.2.1, (minI (((a.1.2.2.1.getD 0 ((bs []), ([], (0, (bs []))))).1).size : Int) (a.2.1.size : Int))))))) none) none) none) (
 (strings_IndexByte k a.2.1 a.1.1).bind fun y1 =>
 cond (decide (y1 < 0)) (
 cond (decide (0 ≤ (a.2.1.size : Int))) (
 cond (decide ((a.2.1.size : Int) ≤ (a.2.1.size : Int))) (
 (flat_kindAt k a.1 (a.2.1.extract 0 (a.2.1.size : Int).toNat)).bind fun y2 =>
 some (y2.1, (y2.2, (a.1, (a.2.1, (a.2.1.size : Int)))))) none) none) (
 cond (decide (0 ≤ y1)) (
 cond (decide (y1 ≤ (a.2.1.size : Int))) (
 (flat_kindAt k a.1 (a.2.1.extract 0 y1.toNat)).bind fun y3 =>
 some (y3.1, (y3.2, (a.1, (a.2.1, y1))))) none) none)) := by kernel_rfl
theorem strings_trimLeftByte_eq (k : Nat) (a : ByteArray) (b : Int) : strings_trimLeftByte (k + 1) a b =
 strings_trimLeftByte_c1 k a b := by kernel_rfl
theorem strings_trimLeftByte_c1_eq (k : Nat) (s0 : ByteArray) (s1 : Int) : strings_trimLeftByte_c1 (k + 1) s0 s1 =
 cond ((!(decide ((s0.size : Int) > 0))) || true) (
 cond ((!(decide ((s0.size : Int) > 0))) || (decide (0 < (s0.size : Int)))) (
 cond (cond (decide ((s0.size : Int) > 0)) ((bt s0 0) == s1) false) (
 cond (decide (1 ≤ (s0.size : Int))) (
 strings_trimLeftByte_c1 k (s0.extract 1 s0.size) s1) none) (
 some s0)) none) none := by kernel_rfl
theorem strings_TrimLeft_eq (k : Nat) (a : ByteArray) (b : ByteArray) : strings_TrimLeft (k + 1) a b =
 cond (cond (eqS a (bs [])) true (eqS b (bs []))) (
 some a) (
 cond ((!((b.size : Int) == 1)) || true) (
 cond ((!((b.size : Int) == 1)) || (decide (0 < (b.size : Int)))) (
 cond (cond ((b.size : Int) == 1) (decide ((bt b 0) < 128)) false) (
 cond (decide (0 < (b.size : Int))) (
 (strings_trimLeftByte k a (bt b 0)).bind fun y0 =>
 some y0) none) (
 none)) none) none) := by kernel_rfl
theorem amount_ReadImplied_eq (k : Nat) (a : ByteArray) (b : Int) : amount_ReadImplied (k + 1) a b =
 (kit_Outside k b 0 9).bind fun y0 =>
 cond y0 (
 some ((0, 0), 1)) (
 (strings_CutPrefix k a (bs [45])).bind fun y1 =>
 (cond (!(decide ((a.size : Int) > 30))) (kit_IsDigits k y1.1) (some false)).bind fun y2 =>
 cond (cond (decide ((a.size : Int) > 30)) true (!y2)) (
 some ((0, 0), 10)) (
 (amount_read k false y1.1 (bs [])).bind fun y3 =>
 cond (y3.2 != 0) (
 some ((0, 0), y3.2)) (
 cond y1.2 (
 some (((wi64 (0 - y3.1.1)), b), 0)) (
 some ((y3.1.1, b), 0))))) := by kernel_rfl
theorem flat_valueOf_eq (k : Nat) (a : QF) (b : QC) (c : ByteArray) : flat_valueOf (k + 1) a b c =
 cond (eqS c (bs [])) (
 some ((bs []), true)) (
 cond (cond (b.2.1 == 2) (a.1 == 0) false) (
 (amount_ReadImplied k c b.2.2.2.1).bind fun y0 =>
 cond (y0.2 != 0) (
 some ((bs []), false)) (
 (amount_Least k y0.1).bind fun y1 =>
 (amount_Told k y1).bind fun y2 =>
 (flat_isValue k b y2).bind fun y3 =>
 some (y2, y3))) (
 cond (b.2.1 == 3) (
 (amount_ReadDay k c b.2.2.2.2.1 1).bind fun y4 =>
 cond (y4.2 != 0) (
 some ((bs []), false)) (
 (amount_DayText k y4.1 1).bind fun y5 =>
 (flat_isValue k b y5.1).bind fun y6 =>
 some (y5.1, y6))) (
 (flat_isValue k b c).bind fun y7 =>
 some (c, y7)))) := by kernel_rfl
theorem flat_fromFilled_eq (k : Nat) (a : QF) (b : QC) (c : ByteArray) : flat_fromFilled (k + 1) a b c =
 (strings_Trim k c (bs [32])).bind fun y0 =>
 cond (cond (cond (b.2.1 == 2) (b.2.2.2.2.2.2.1 == 48) false) (!(eqS y0 (bs []))) false) (
 (strings_CutPrefix k y0 (bs [45])).bind fun y1 =>
 (strings_TrimLeft k y1.1 (bs [48])).bind fun y2 =>
 cond (eqS y2 (bs [])) (
 cond y1.2 (
 (flat_valueOf k a b (bs [45, 48])).bind fun y3 =>
 (cond y3.2 (flat_filled k a b y3.1) (some (bs []))).bind fun y4 =>
 some (y3.1, (cond y3.2 (eqS y4 c) false))) (
 (flat_valueOf k a b (bs [48])).bind fun y5 =>
 (cond y5.2 (flat_filled k a b y5.1) (some (bs []))).bind fun y6 =>
 some (y5.1, (cond y5.2 (eqS y6 c) false)))) (
 cond y1.2 (
 cond (decide (1 + y2.size ≤ 9223372036854775807)) (
 (flat_valueOf k a b ((bs [45]) ++ y2)).bind fun y7 =>
 (cond y7.2 (flat_filled k a b y7.1) (some (bs []))).bind fun y8 =>
 some (y7.1, (cond y7.2 (eqS y8 c) false))) none) (
 (flat_valueOf k a b y2).bind fun y9 =>
 (cond y9.2 (flat_filled k a b y9.1) (some (bs []))).bind fun y10 =>
 some (y9.1, (cond y9.2 (eqS y10 c) false))))) (
 (flat_valueOf k a b y0).bind fun y11 =>
 (cond y11.2 (flat_filled k a b y11.1) (some (bs []))).bind fun y12 =>
 some (y11.1, (cond y11.2 (eqS y12 c) false))) := by kernel_rfl
theorem flat_reader_fixed_eq (k : Nat) (a : QF × ByteArray × Int) (b : QC) : flat_reader_fixed (k + 1) a b =
 cond (decide ((wi64 ((a.2.1.size : Int) - a.2.2)) < b.2.2.1)) (
 some ((bs []), (false, a))) (
 cond (decide (0 ≤ a.2.2)) (
 cond (decide (a.2.2 ≤ (wi64 (a.2.2 + b.2.2.1)))) (
 cond (decide ((wi64 (a.2.2 + b.2.2.1)) ≤ (a.2.1.size : Int))) (
 (flat_fromFilled k a.1 b (a.2.1.extract a.2.2.toNat (wi64 (a.2.2 + b.2.2.1)).toNat)).bind fun y0 =>
 some (y0.1, (y0.2, (a.1, (a.2.1, (wi64 (a.2.2 + b.2.2.1))))))) none) none) none) := by kernel_rfl
theorem flat_readLine_eq (k : Nat) (a : QF) (b : ByteArray) : flat_readLine (k + 1) a b =
 cond (decide ((b.size : Int) > 6000)) (
 some (((bs []), []), (0, 2))) (
 (flat_reader_tag k (a, (b, 0))).bind fun y0 =>
 cond (!y0.2.1) (
 some (((bs []), []), (0, 9))) (
 flat_readLine_c9 k b a ((bs []), []) y0.1 (y0.1.1, []) (y0.2.2.1.1, (y0.2.2.1.2.1, (y0.2.2.1.2.2.1, (y0.2.2.1.2.2.2.1, (y0.2.2.1.2.2.2.2.1, (y0.2.2.1.2.2.2.2.2.1, (y0.2.2.1.2.2.2.2.2.2, y0.2.2.2))))))) y0.1.2.1 (y0.1.2.1.length : Int) 0)) := by kernel_rfl
theorem flat_readLine_c9_eq (k : Nat) (s1 : ByteArray) (s2 : QF) (s4 : QR) (s8 : QK) (s10 : QR) (s25 : Int × Int × (List QK) × ByteArray × ByteArray × ByteArray × ByteArray × ByteArray × Int) (s38 : List QC) (s39 : Int) (s40 : Int) : flat_readLine_c9 (k + 1) s1 s2 s4 s8 s10 s25 s38 s39 s40 =
 cond (decide (s40 < s39)) (
 cond (decide (0 ≤ s40)) (
 cond (decide (s40 < (s38.length : Int))) (
 cond (s2.1 == 0) (
 (flat_reader_fixed k ((s25.1, (s25.2.1, (s25.2.2.1, (s25.2.2.2.1, (s25.2.2.2.2.1, (s25.2.2.2.2.2.1, s25.2.2.2.2.2.2.1)))))), s25.2.2.2.2.2.2.2) (((s38.getD s40.toNat ((bs []), (0, (0, (0, (0, (false, (0, false)))))))).1), ((((s38.getD s40.toNat ((bs []), (0, (0, (0, (0, (false, (0, false)))))))).2).1), (((((s38.getD s40.toNat ((bs []), (0, (0, (0, (0, (false, (0, false)))))))).2).2).1), ((((((s38.getD s40.toNat ((bs []), (0, (0, (0, (0, (false, (0, false)))))))).2).2).2).1), (((((((s38.getD s40.toNat ((bs []), (0, (0, (0, (0, (false, (0, false)))))))).2).2).2).2).1), ((((((((s38.getD s40.toNat ((bs []), (0, (0, (0, (0, (false, (0, false)))))))).2).2).2).2).2).1), (((((((((s38.getD s40.toNat ((bs []), (0, (0, (0, (0, (false, (0, false)))))))).2).2).2).2).2).2).1), ((((((((s38.getD s40.toNat ((bs []), (0, (0, (0, (0, (false, (0, false)))))))).2).2).2).2).2).2).2))))))))).bind fun y1 =>
 cond (!y1.2.1) (
 some (((bs []), []), (s40, 10))) (
 cond (decide (s10.2.length + 1 < 8796093022208)) (
 flat_readLine_c9 k s1 s2 s4 s8 (s10.1, (s10.2 ++ [y1.1])) (y1.2.2.1.1, (y1.2.2.1.2.1, (y1.2.2.1.2.2.1, (y1.2.2.1.2.2.2.1, (y1.2.2.1.2.2.2.2.1, (y1.2.2.1.2.2.2.2.2.1, (y1.2.2.1.2.2.2.2.2.2, y1.2.2.2))))))) s38 s39 (wi64 (s40 + 1))) none)) (
 (flat_reader_separated k ((s25.1, (s25.2.1, (s25.2.2.1, (s25.2.2.2.1, (s25.2.2.2.2.1, (s25.2.2.2.2.2.1, s25.2.2.2.2.2.2.1)))))), s25.2.2.2.2.2.2.2) (((s38.getD s40.toNat ((bs []), (0, (0, (0, (0, (false, (0, false)))))))).1), ((((s38.getD s40.toNat ((bs []), (0, (0, (0, (0, (false, (0, false)))))))).2).1), (((((s38.getD s40.toNat ((bs []), (0, (0, (0, (0, (false, (0, false)))))))).2).2).1), ((((((s38.getD s40.toNat ((bs []), (0, (0, (0, (0, (false, (0, false)))))))).2).2).2).1), (((((((s38.getD s40.toNat ((bs []), (0, (0, (0, (0, (false, (0, false)))))))).2).2).2).2).1), ((((((((s38.getD s40.toNat ((bs []), (0, (0, (0, (0, (false, (0, false)))))))).2).2).2).2).2).1), (((((((((s38.getD s40.toNat ((bs []), (0, (0, (0, (0, (false, (0, false)))))))).2).2).2).2).2).2).1), ((((((((s38.getD s40.toNat ((bs []), (0, (0, (0, (0, (false, (0, false)))))))).2).2).2).2).2).2).2))))))))).bind fun y2 =>
 cond (!y2.2.1) (
 some (((bs []), []), (s40, 10))) (
 cond (decide (s10.2.length + 1 < 8796093022208)) (
 flat_readLine_c9 k s1 s2 s4 s8 (s10.1, (s10.2 ++ [y2.1])) (y2.2.2.1.1, (y2.2.2.1.2.1, (y2.2.2.1.2.2.1, (y2.2.2.1.2.2.2.1, (y2.2.2.1.2.2.2.2.1, (y2.2.2.1.2.2.2.2.2.1, (y2.2.2.1.2.2.2.2.2.2, y2.2.2.2))))))) s38 s39 (wi64 (s40 + 1))) none))) none) none) (
 cond (decide (s25.2.2.2.2.2.2.2.2 < (s1.size : Int))) (
 some (((bs []), []), ((s8.2.1.length : Int), 10))) (
 (flat_checkRow k s2 s10).bind fun y3 =>
 cond (y3.2 != 0) (
 some (((bs []), []), y3)) (
 some (s10, (0, 0))))) := by kernel_rfl
theorem flat_Read_eq (k : Nat) (a : QF) (b : ByteArray) : flat_Read (k + 1) a b =
 (flat_CheckFormat k a).bind fun y0 =>
 cond (y0 != 0) (
 some ([], (0, (0, y0)))) (
 cond (decide ((b.size : Int) > 500000)) (
 some ([], (0, (0, 2)))) (
 flat_Read_c7 k b a [])) := by kernel_rfl
theorem flat_Read_c7_eq (k : Nat) (s1 : ByteArray) (s2 : QF) (s9 : List QR) : flat_Read_c7 (k + 1) s1 s2 s9 =
 cond (!(eqS s1 (bs []))) (
 (strings_Cut k s1 (bs [10])).bind fun y1 =>
 cond ((s9.length : Int) == 2000) (
 some ([], ((s9.length : Int), (0, 2)))) (
 cond (!y1.2.2) (
 some ([], ((s9.length : Int), (0, 10)))) (
 (flat_readLine k s2 y1.1).bind fun y2 =>
 cond (y2.2.2 != 0) (
 some ([], ((s9.length : Int), y2.2))) (
 cond (decide (s9.length + 1 < 3518437208883)) (
 flat_Read_c7 k y1.2.1 s2 (s9 ++ [y2.1])) none)))) (
 some (s9, (0, (0, 0)))) := by kernel_rfl
theorem flat_rowsFault_eq (k : Nat) (a : QF) (b : List QR) : flat_rowsFault (k + 1) a b =
 (flat_CheckFormat k a).bind fun y0 =>
 cond (y0 != 0) (
 some y0) (
 cond (decide ((b.length : Int) > 2000)) (
 some 2) (
 (flat_checkRows k a b).bind fun y1 =>
 some y1.2)) := by kernel_rfl
theorem flat_typeFault_eq (k : Nat) (a : QF) (b : QF) : flat_typeFault (k + 1) a b =
 flat_typeFault_c2 k b a.2.2.1 (a.2.2.1.length : Int) 0 := by kernel_rfl
theorem flat_typeFault_c2_eq (k : Nat) (s3 : QF) (s13 : List QK) (s14 : Int) (s15 : Int) : flat_typeFault_c2 (k + 1) s3 s13 s14 s15 =
 cond (decide (s15 < s14)) (
 cond (decide (0 ≤ s15)) (
 cond (decide (s15 < (s13.length : Int))) (
 (flat_kindAt k s3 ((s13.getD s15.toNat ((bs []), ([], (0, (bs []))))).1)).bind fun y0 =>
 flat_typeFault_c6 k s3 y0.1 s13 s14 s15 (((s13.getD s15.toNat ((bs []), ([], (0, (bs []))))).2).1) ((((s13.getD s15.toNat ((bs []), ([], (0, (bs []))))).2).1).length : Int) 0) none) none) (
 some false) := by kernel_rfl
theorem flat_typeFault_c6_eq (k : Nat) (s3 : QF) (s7 : QK) (s13 : List QK) (s14 : Int) (s15 : Int) (s27 : List QC) (s28 : Int) (s29 : Int) : flat_typeFault_c6 (k + 1) s3 s7 s13 s14 s15 s27 s28 s29 =
 cond (decide (s29 < s28)) (
 cond (decide (0 ≤ s29)) (
 cond (decide (s29 < (s27.length : Int))) (
 (flat_columnAt k s7 ((s27.getD s29.toNat ((bs []), (0, (0, (0, (0, (false, (0, false)))))))).1)).bind fun y1 =>
 cond ((!(decide (y1 ≥ 0))) || (decide (0 ≤ y1))) (
 cond ((!(decide (y1 ≥ 0))) || (decide (y1 < (s7.2.1.length : Int)))) (
 cond (cond (decide (y1 ≥ 0)) ((((s7.2.1.getD y1.toNat ((bs []), (0, (0, (0, (0, (false, (0, false)))))))).2).1) != (((s27.getD s29.toNat ((bs []), (0, (0, (0, (0, (false, (0, false)))))))).2).1)) false) (
 some true) (
 flat_typeFault_c6 k s3 s7 s13 s14 s15 s27 s28 (wi64 (s29 + 1)))) none) none) none) none) (
 flat_typeFault_c2 k s3 s13 s14 (wi64 (s15 + 1))) := by kernel_rfl
theorem flat_turned_eq (k : Nat) (a : QK) (b : QK) (c : QR) : flat_turned (k + 1) a b c =
 flat_turned_c3 k a b c ((bs []), []) (c.1, []) b.2.1 (b.2.1.length : Int) 0 := by kernel_rfl
theorem flat_turned_c3_eq (k : Nat) (s3 : QK) (s4 : QK) (s5 : QR) (s6 : QR) (s8 : QR) (s20 : List QC) (s21 : Int) (s22 : Int) : flat_turned_c3 (k + 1) s3 s4 s5 s6 s8 s20 s21 s22 =
 cond (decide (s22 < s21)) (
 cond (decide (0 ≤ s22)) (
 cond (decide (s22 < (s20.length : Int))) (
 (flat_columnAt k s3 ((s20.getD s22.toNat ((bs []), (0, (0, (0, (0, (false, (0, false)))))))).1)).bind fun y0 =>
 cond (decide (y0 ≥ 0)) (
 cond (decide (0 ≤ y0)) (
 cond (decide (y0 < (s5.2.length : Int))) (
 flat_turned_c9 k s3 s4 s5 s6 s8 (s5.2.getD y0.toNat (bs [])) s20 s21 s22) none) none) (
 flat_turned_c9 k s3 s4 s5 s6 s8 (bs []) s20 s21 s22)) none) none) (
 flat_turned_c13 k s4 s5 s6 s8 0 s3.2.1 (s3.2.1.length : Int) 0) := by kernel_rfl
theorem flat_turned_c9_eq (k : Nat) (s3 : QK) (s4 : QK) (s5 : QR) (s6 : QR) (s8 : QR) (s11 : ByteArray) (s20 : List QC) (s21 : Int) (s22 : Int) : flat_turned_c9 (k + 1) s3 s4 s5 s6 s8 s11 s20 s21 s22 =
 cond (decide (s8.2.length + 1 < 8796093022208)) (
 flat_turned_c3 k s3 s4 s5 s6 (s8.1, (s8.2 ++ [s11])) s20 s21 (wi64 (s22 + 1))) none := by kernel_rfl
theorem flat_turned_c13_eq (k : Nat) (s4 : QK) (s5 : QR) (s6 : QR) (s8 : QR) (s13 : Int) (s45 : List QC) (s46 : Int) (s47 : Int) : flat_turned_c13 (k + 1) s4 s5 s6 s8 s13 s45 s46 s47 =
 cond (decide (s47 < s46)) (
 cond (decide (0 ≤ s47)) (
 cond (decide (s47 < (s45.length : Int))) (
 cond (decide (0 ≤ s47)) (
 cond (decide (s47 < (s5.2.length : Int))) (
 (cond (!(eqS (s5.2.getD s47.toNat (bs [])) (bs []))) (flat_columnAt k s4 ((s45.getD s47.toNat ((bs []), (0, (0, (0, (0, (false, (0, false)))))))).1)) (some 0)).bind fun y1 =>
 cond (cond (!(eqS (s5.2.getD s47.toNat (bs [])) (bs []))) (decide (y1 < 0)) false) (
 flat_turned_c13 k s4 s5 s6 s8 (wi64 (s13 + 1)) s45 s46 (wi64 (s47 + 1))) (
 flat_turned_c13 k s4 s5 s6 s8 s13 s45 s46 (wi64 (s47 + 1)))) none) none) none) none) (
 some (s8, s13)) := by kernel_rfl
theorem flat_Turned_eq (k : Nat) (a : QF) (b : QF) (c : List QR) : flat_Turned (k + 1) a b c =
 flat_Turned_c2 k c a b [a, b] 2 0 := by kernel_rfl
theorem flat_Turned_c2_eq (k : Nat) (s2 : List QR) (s3 : QF) (s4 : QF) (s27 : List QF) (s28 : Int) (s29 : Int) : flat_Turned_c2 (k + 1) s2 s3 s4 s27 s28 s29 =
 cond (decide (s29 < s28)) (
 cond (decide (0 ≤ s29)) (
 cond (decide (s29 < (s27.length : Int))) (
 (flat_CheckFormat k (((s27.getD s29.toNat (0, (0, ([], ((bs []), ((bs []), ((bs []), (bs [])))))))).1), ((((s27.getD s29.toNat (0, (0, ([], ((bs []), ((bs []), ((bs []), (bs [])))))))).2).1), (((((s27.getD s29.toNat (0, (0, ([], ((bs []), ((bs []), ((bs []), (bs [])))))))).2).2).1), ((((((s27.getD s29.toNat (0, (0, ([], ((bs []), ((bs []), ((bs []), (bs [])))))))).2).2).2).1), (((((((s27.getD s29.toNat (0, (0, ([], ((bs []), ((bs []), ((bs []), (bs [])))))))).2).2).2).2).1), ((((((((s27.getD s29.toNat (0, (0, ([], ((bs []), ((bs []), ((bs []), (bs [])))))))).2).2).2).2).2).1), (((((((s27.getD s29.toNat (0, (0, ([], ((bs []), ((bs []), ((bs []), (bs [])))))))).2).2).2).2).2).2)))))))).bind fun y0 =>
 cond (y0 != 0) (
 some ([], (0, y0))) (
 flat_Turned_c2 k s2 s3 s4 s27 s28 (wi64 (s29 + 1)))) none) none) (
 (flat_rowsFault k s3 s2).bind fun y1 =>
 cond (y1 != 0) (
 some ([], (0, y1))) (
 (flat_typeFault k s3 s4).bind fun y2 =>
 cond y2 (
 some ([], (0, 6))) (
 flat_Turned_c16 k s3 s4 [] 0 s2 (s2.length : Int) 0))) := by kernel_rfl
theorem flat_Turned_c16_eq (k : Nat) (s3 : QF) (s4 : QF) (s13 : List QR) (s14 : Int) (s48 : List QR) (s49 : Int) (s50 : Int) : flat_Turned_c16 (k + 1) s3 s4 s13 s14 s48 s49 s50 =
 cond (decide (s50 < s49)) (
 cond (decide (0 ≤ s50)) (
 cond (decide (s50 < (s48.length : Int))) (
 (flat_kindAt k s3 ((s48.getD s50.toNat ((bs []), [])).1)).bind fun y3 =>
 (flat_kindAt k s4 ((s48.getD s50.toNat ((bs []), [])).1)).bind fun y4 =>
 cond (!y4.2) (
 flat_Turned_c16 k s3 s4 s13 (wi64 (s14 + 1)) s48 s49 (wi64 (s50 + 1))) (
 (flat_turned k y3.1 y4.1 (((s48.getD s50.toNat ((bs []), [])).1), ((s48.getD s50.toNat ((bs []), [])).2))).bind fun y5 =>
 cond (decide (s13.length + 1 < 3518437208883)) (
 flat_Turned_c16 k s3 s4 (s13 ++ [y5.1]) (wi64 (s14 + y5.2)) s48 s49 (wi64 (s50 + 1))) none)) none) none) (
 (flat_checkRows k s4 s13).bind fun y6 =>
 cond (y6.2 != 0) (
 some ([], (0, y6.2))) (
 some (s13, (s14, 0)))) := by kernel_rfl
theorem flat_isUnder_eq (k : Nat) (a : QF) (b : ByteArray) (c : ByteArray) : flat_isUnder (k + 1) a b c =
 (flat_kindAt k a b).bind fun y0 =>
 flat_isUnder_c2 k c a y0.1 y0.2 := by kernel_rfl
theorem flat_isUnder_c2_eq (k : Nat) (s2 : ByteArray) (s3 : QF) (s7 : QK) (s8 : Bool) : flat_isUnder_c2 (k + 1) s2 s3 s7 s8 =
 cond (cond s8 (!(eqS s7.2.2.2 (bs []))) false) (
 cond (eqS s7.2.2.2 s2) (
 some true) (
 flat_isUnder_c7 k s2 s3 s7)) (
 some false) := by kernel_rfl
theorem flat_isUnder_c7_eq (k : Nat) (s2 : ByteArray) (s3 : QF) (s32 : QK) : flat_isUnder_c7 (k + 1) s2 s3 s32 =
 (flat_kindAt k s3 s32.2.2.2).bind fun y1 =>
 flat_isUnder_c2 k s2 s3 y1.1 y1.2 := by kernel_rfl
theorem flat_overOf_eq (k : Nat) (a : QF) (b : List QR) (c : Int) (d : ByteArray) : flat_overOf (k + 1) a b c d =
 flat_overOf_c2 k b d a (wi64 (c - 1)) := by kernel_rfl
theorem flat_overOf_c2_eq (k : Nat) (s1 : List QR) (s3 : ByteArray) (s4 : QF) (s9 : Int) : flat_overOf_c2 (k + 1) s1 s3 s4 s9 =
 cond (decide (s9 ≥ 0)) (
 cond (decide (0 ≤ s9)) (
 cond (decide (s9 < (s1.length : Int))) (
 cond (eqS ((s1.getD s9.toNat ((bs []), [])).1) s3) (
 some s9) (
 cond (decide (0 ≤ s9)) (
 cond (decide (s9 < (s1.length : Int))) (
 (flat_isUnder k s4 ((s1.getD s9.toNat ((bs []), [])).1) s3).bind fun y0 =>
 cond (!y0) (
 some (-1)) (
 flat_overOf_c2 k s1 s3 s4 (wi64 (s9 - 1)))) none) none)) none) none) (
 some (-1)) := by kernel_rfl
theorem flat_rowOrder_eq (k : Nat) (a : QF) (b : List QR) (c : Int) : flat_rowOrder (k + 1) a b c =
 cond (decide (0 ≤ c)) (
 cond (decide (c < (b.length : Int))) (
 cond (cond (!(eqS a.2.2.2.1 (bs []))) (!((eqS ((b.getD c.toNat ((bs []), [])).1) a.2.2.2.1) == (c == 0))) false) (
 some 8) (
 cond (cond (cond (!(eqS a.2.2.2.2.1 (bs []))) (eqS ((b.getD c.toNat ((bs []), [])).1) a.2.2.2.2.1) false) (c != (wi64 ((b.length : Int) - 1))) false) (
 some 8) (
 (flat_kindAt k a ((b.getD c.toNat ((bs []), [])).1)).bind fun y0 =>
 cond (!(eqS y0.1.2.2.2 (bs []))) (
 (flat_overOf k a b c y0.1.2.2.2).bind fun y1 =>
 cond (decide (y1 < 0)) (
 some 8) (
 cond (y0.1.2.2.1 == 0) (
 some 0) (
 cond (decide (0 ≤ y1)) (
 cond (decide (y1 ≤ (wi64 (c + 1)))) (
 cond (decide ((wi64 (c + 1)) ≤ (b.length : Int))) (
 flat_rowOrder_c16 k ((b.getD c.toNat ((bs []), [])).1) y0.1 0 ((b.take (wi64 (c + 1)).toNat).drop y1.toNat) (((b.take (wi64 (c + 1)).toNat).drop y1.toNat).length : Int) 0) none) none) none))) (
 cond (y0.1.2.2.1 == 0) (
 some 0) (
 cond (decide (0 ≤ (wi64 (c + 1)))) (
 cond (decide ((wi64 (c + 1)) ≤ (b.length : Int))) (
 flat_rowOrder_c16 k ((b.getD c.toNat ((bs []), [])).1) y0.1 0 ((b.take (wi64 (c + 1)).toNat).drop 0) (((b.take (wi64 (c + 1)).toNat).drop 0).length : Int) 0) none) none))))) none) none := by kernel_rfl
theorem flat_rowOrder_c16_eq (k : Nat) (s7 : ByteArray) (s8 : QK) (s11 : Int) (s73 : List QR) (s74 : Int) (s75 : Int) : flat_rowOrder_c16 (k + 1) s7 s8 s11 s73 s74 s75 =
 cond (decide (s75 < s74)) (
 cond (decide (0 ≤ s75)) (
 cond (decide (s75 < (s73.length : Int))) (
 cond (eqS ((s73.getD s75.toNat ((bs []), [])).1) s7) (
 flat_rowOrder_c16 k s7 s8 (wi64 (s11 + 1)) s73 s74 (wi64 (s75 + 1))) (
 flat_rowOrder_c16 k s7 s8 s11 s73 s74 (wi64 (s75 + 1)))) none) none) (
 cond (decide (s11 > s8.2.2.1)) (
 some 2) (
 some 0)) := by kernel_rfl
theorem flat_checkOrder_eq (k : Nat) (a : QF) (b : List QR) : flat_checkOrder (k + 1) a b =
 (flat_checkRows k a b).bind fun y0 =>
 cond (y0.2 != 0) (
 some y0) (
 flat_checkOrder_c5 k b a (b.length : Int) 0) := by kernel_rfl
theorem flat_checkOrder_c5_eq (k : Nat) (s1 : List QR) (s2 : QF) (s21 : Int) (s22 : Int) : flat_checkOrder_c5 (k + 1) s1 s2 s21 s22 =
 cond (decide (s22 < s21)) (
 (flat_rowOrder k s2 s1 s22).bind fun y1 =>
 cond (y1 != 0) (
 some (s22, y1)) (
 flat_checkOrder_c5 k s1 s2 s21 (wi64 (s22 + 1)))) (
 cond ((!((!(eqS s2.2.2.2.2.1 (bs []))) && (!((s1.length : Int) == 0)))) || (decide (0 ≤ (wi64 ((s1.length : Int) - 1))))) (
 cond ((!((!(eqS s2.2.2.2.2.1 (bs []))) && (!((s1.length : Int) == 0)))) || (decide ((wi64 ((s1.length : Int) - 1)) < (s1.length : Int)))) (
 cond (cond (!(eqS s2.2.2.2.2.1 (bs []))) (cond ((s1.length : Int) == 0) true (!(eqS ((s1.getD (wi64 ((s1.length : Int) - 1)).toNat ((bs []), [])).1) s2.2.2.2.2.1))) false) (
 some ((s1.length : Int), 8)) (
 some (0, 0))) none) none) := by kernel_rfl
theorem flat_CheckOrder_eq (k : Nat) (a : QF) (b : List QR) : flat_CheckOrder (k + 1) a b =
 (flat_CheckFormat k a).bind fun y0 =>
 cond (y0 != 0) (
 some (0, y0)) (
 (flat_checkOrder k a b).bind fun y1 =>
 some y1) := by kernel_rfl
theorem flat_inner_1_eq (k : Nat) (a : QF) (b : List QR) : flat_inner_1 (k + 1) a b =
 flat_inner_1_c3 k a [] b (b.length : Int) 0 := by kernel_rfl
theorem flat_inner_1_c3_eq (k : Nat) (s2 : QF) (s5 : List QR) (s8 : List QR) (s9 : Int) (s10 : Int) : flat_inner_1_c3 (k + 1) s2 s5 s8 s9 s10 =
 cond (decide (s10 < s9)) (
 cond (decide (0 ≤ s10)) (
 cond (decide (s10 < (s8.length : Int))) (
 cond (cond (cond (eqS s2.2.2.2.1 (bs [])) true (!(eqS ((s8.getD s10.toNat ((bs []), [])).1) s2.2.2.2.1))) (cond (eqS s2.2.2.2.2.1 (bs [])) true (!(eqS ((s8.getD s10.toNat ((bs []), [])).1) s2.2.2.2.2.1))) false) (
 cond (decide (s5.length + 1 < 3518437208883)) (
 flat_inner_1_c3 k s2 (s5 ++ [(((s8.getD s10.toNat ((bs []), [])).1), ((s8.getD s10.toNat ((bs []), [])).2))]) s8 s9 (wi64 (s10 + 1))) none) (
 flat_inner_1_c3 k s2 s5 s8 s9 (wi64 (s10 + 1)))) none) none) (
 some s5) := by kernel_rfl
theorem flat_CheckTotals_eq (k : Nat) (a : QF) (b : List QR) : flat_CheckTotals (k + 1) a b =
 (flat_CheckOrder k a b).bind fun y0 =>
 cond (y0.2 != 0) (
 some (0, y0.2)) (
 cond (eqS a.2.2.2.2.1 (bs [])) (
 some (0, 9)) (
 (flat_kindAt k a a.2.2.2.2.1).bind fun y1 =>
 cond (decide (0 ≤ (wi64 ((b.length : Int) - 1)))) (
 cond (decide ((wi64 ((b.length : Int) - 1)) < (b.length : Int))) (
 (cond (!(eqS a.2.2.2.2.2.1 (bs []))) (flat_columnAt k y1.1 a.2.2.2.2.2.1) (some 0)).bind fun y2 =>
 cond ((!(!(eqS a.2.2.2.2.2.1 (bs [])))) || (decide (0 ≤ y2))) (
 cond ((!(!(eqS a.2.2.2.2.2.1 (bs [])))) || (decide (y2 < (((b.getD (wi64 ((b.length : Int) - 1)).toNat ((bs []), [])).2).length : Int)))) (
 (cond (!(eqS a.2.2.2.2.2.1 (bs []))) (flat_inner_1 k a b) (some [])).bind fun y3 =>
 (cond (!(eqS a.2.2.2.2.2.1 (bs []))) (strconv_Itoa k (y3.length : Int)) (some (bs []))).bind fun y4 =>
 cond (cond (!(eqS a.2.2.2.2.2.1 (bs []))) (!(eqS (((b.getD (wi64 ((b.length : Int) - 1)).toNat ((bs []), [])).2).getD y2.toNat (bs [])) y4)) false) (
 some (0, 12)) (
 cond (eqS a.2.2.2.2.2.2 (bs [])) (
 some (0, 0)) (
 (flat_inner k a b).bind fun y5 =>
 (flat_sumFault k a y5).bind fun y6 =>
 cond y6 (
 some (1, 6)) (
 (flat_inner k a b).bind fun y7 =>
 (flat_sumOf k a y7 (bs []) a.2.2.2.2.2.2).bind fun y8 =>
 cond (y8.2 != 0) (
 some (1, y8.2)) (
 (flat_columnAt k y1.1 a.2.2.2.2.2.2).bind fun y9 =>
 cond (decide (0 ≤ y9)) (
 cond (decide (y9 < (((b.getD (wi64 ((b.length : Int) - 1)).toNat ((bs []), [])).2).length : Int))) (
 (amount_Told k y8.1).bind fun y10 =>
 cond (!(eqS (((b.getD (wi64 ((b.length : Int) - 1)).toNat ((bs []), [])).2).getD y9.toNat (bs [])) y10)) (
 some (1, 12)) (
 some (0, 0))) none) none))))) none) none) none) none)) := by kernel_rfl
theorem flat_columnOf_eq (k : Nat) (a : QF) (b : List QR) (c : ByteArray) (d : ByteArray) : flat_columnOf (k + 1) a b c d =
 (flat_rowsFault k a b).bind fun y0 =>
 cond (y0 != 0) (
 some (0, (((bs []), (0, (0, (0, (0, (false, (0, false))))))), y0))) (
 (flat_kindAt k a c).bind fun y1 =>
 cond (!y1.2) (
 some (0, (((bs []), (0, (0, (0, (0, (false, (0, false))))))), 5))) (
 (flat_columnAt k y1.1 d).bind fun y2 =>
 cond (decide (y2 < 0)) (
 some (0, (((bs []), (0, (0, (0, (0, (false, (0, false))))))), 5))) (
 cond (decide (0 ≤ y2)) (
 cond (decide (y2 < (y1.1.2.1.length : Int))) (
 some (y2, ((((y1.1.2.1.getD y2.toNat ((bs []), (0, (0, (0, (0, (false, (0, false)))))))).1), ((((y1.1.2.1.getD y2.toNat ((bs []), (0, (0, (0, (0, (false, (0, false)))))))).2).1), (((((y1.1.2.1.getD y2.toNat ((bs []), (0, (0, (0, (0, (false, (0, false)))))))).2).2).1), ((((((y1.1.2.1.getD y2.toNat ((bs []), (0, (0, (0, (0, (false, (0, false)))))))).2).2).2).1), (((((((y1.1.2.1.getD y2.toNat ((bs []), (0, (0, (0, (0, (false, (0, false)))))))).2).2).2).2).1), ((((((((y1.1.2.1.getD y2.toNat ((bs []), (0, (0, (0, (0, (false, (0, false)))))))).2).2).2).2).2).1), (((((((((y1.1.2.1.getD y2.toNat ((bs []), (0, (0, (0, (0, (false, (0, false)))))))).2).2).2).2).2).2).1), ((((((((y1.1.2.1.getD y2.toNat ((bs []), (0, (0, (0, (0, (false, (0, false)))))))).2).2).2).2).2).2).2)))))))), 0))) none) none))) := by kernel_rfl
theorem flat_SumOf_eq (k : Nat) (a : QF) (b : List QR) (c : ByteArray) (d : ByteArray) : flat_SumOf (k + 1) a b c d =
 (flat_columnOf k a b c d).bind fun y0 =>
 cond (y0.2.2 != 0) (
 some ((0, 0), y0.2.2)) (
 cond (y0.2.1.2.1 != 2) (
 some ((0, 0), 6)) (
 (flat_sumOf k a b c d).bind fun y1 =>
 some y1)) := by kernel_rfl
theorem amount_CheckDecimals_eq (k : Nat) (a : List (Int × Int)) : amount_CheckDecimals (k + 1) a =
 amount_CheckDecimals_c2 k a (a.length : Int) 0 := by kernel_rfl
theorem amount_CheckDecimals_c2_eq (k : Nat) (s6 : List (Int × Int)) (s7 : Int) (s8 : Int) : amount_CheckDecimals_c2 (k + 1) s6 s7 s8 =
 cond (decide (s8 < s7)) (
 cond (decide (0 ≤ s8)) (
 cond (decide (s8 < (s6.length : Int))) (
 (amount_CheckDecimal k (((s6.getD s8.toNat (0, 0)).1), ((s6.getD s8.toNat (0, 0)).2))).bind fun y0 =>
 cond (y0 != 0) (
 some y0) (
 amount_CheckDecimals_c2 k s6 s7 (wi64 (s8 + 1)))) none) none) (
 some 0) := by kernel_rfl
theorem amount_Sum_eq (k : Nat) (a : List (Int × Int)) : amount_Sum (k + 1) a =
 cond (decide ((a.length : Int) > 1000)) (
 some ((0, 0), 2)) (
 (amount_CheckDecimals k a).bind fun y0 =>
 cond (y0 != 0) (
 some ((0, 0), y0)) (
 amount_Sum_c8 k a (0, 0) 0 a (a.length : Int) 0)) := by kernel_rfl
theorem amount_Sum_c8_eq (k : Nat) (s0 : List (Int × Int)) (s2 : Int × Int) (s5 : Int) (s21 : List (Int × Int)) (s22 : Int) (s23 : Int) : amount_Sum_c8 (k + 1) s0 s2 s5 s21 s22 s23 =
 cond (decide (s23 < s22)) (
 cond (decide (0 ≤ s23)) (
 cond (decide (s23 < (s21.length : Int))) (
 amount_Sum_c8 k s0 s2 (maxI s5 ((s21.getD s23.toNat (0, 0)).2)) s21 s22 (wi64 (s23 + 1))) none) none) (
 (whole_Of k 0).bind fun y1 =>
 amount_Sum_c14 k s2 s5 y1 s0 (s0.length : Int) 0) := by kernel_rfl
theorem amount_Sum_c14_eq (k : Nat) (s2 : Int × Int) (s5 : Int) (s8 : Bool × List Int) (s33 : List (Int × Int)) (s34 : Int) (s35 : Int) : amount_Sum_c14 (k + 1) s2 s5 s8 s33 s34 s35 =
 cond (decide (s35 < s34)) (
 cond (decide (0 ≤ s35)) (
 cond (decide (s35 < (s33.length : Int))) (
 (amount_Scaled k (((s33.getD s35.toNat (0, 0)).1), ((s33.getD s35.toNat (0, 0)).2)) s5).bind fun y2 =>
 (whole_Int_Plus k s8 y2).bind fun y3 =>
 amount_Sum_c14 k s2 s5 y3 s33 s34 (wi64 (s35 + 1))) none) none) (
 (amount_Made k s8 s5).bind fun y4 =>
 some y4) := by kernel_rfl
theorem whole_Int_Less_eq (k : Nat) (a : Bool × List Int) (b : Bool × List Int) : whole_Int_Less (k + 1) a b =
 (whole_Int_Minus k b).bind fun y0 =>
 (whole_Int_Plus k a y0).bind fun y1 =>
 some y1 := by kernel_rfl
theorem whole_Int_Compare_eq (k : Nat) (a : Bool × List Int) (b : Bool × List Int) : whole_Int_Compare (k + 1) a b =
 (whole_Int_Less k a b).bind fun y0 =>
 (whole_Int_Sign k y0).bind fun y1 =>
 some y1 := by kernel_rfl
theorem amount_Compare_eq (k : Nat) (a : Int × Int) (b : Int × Int) : amount_Compare (k + 1) a b =
 (amount_CheckDecimals k [a, b]).bind fun y0 =>
 cond (y0 != 0) (
 some (0, y0)) (
 (amount_Value k a).bind fun y1 =>
 (amount_Value k b).bind fun y2 =>
 (whole_Int_Compare k y1 y2).bind fun y3 =>
 some (y3, 0)) := by kernel_rfl
theorem flat_Column_eq (k : Nat) (a : QF) (b : List QR) (c : ByteArray) (d : ByteArray) : flat_Column (k + 1) a b c d =
 (flat_columnOf k a b c d).bind fun y0 =>
 cond (y0.2.2 != 0) (
 some ([], y0.2.2)) (
 flat_Column_c6 k c y0.1 [] b (b.length : Int) 0) := by kernel_rfl
theorem flat_Column_c6_eq (k : Nat) (s2 : ByteArray) (s10 : Int) (s13 : List ByteArray) (s28 : List QR) (s29 : Int) (s30 : Int) : flat_Column_c6 (k + 1) s2 s10 s13 s28 s29 s30 =
 cond (decide (s30 < s29)) (
 cond (decide (0 ≤ s30)) (
 cond (decide (s30 < (s28.length : Int))) (
 cond (eqS ((s28.getD s30.toNat ((bs []), [])).1) s2) (
 cond (decide (0 ≤ s10)) (
 cond (decide (s10 < (((s28.getD s30.toNat ((bs []), [])).2).length : Int))) (
 cond (decide (s13.length + 1 < 8796093022208)) (
 flat_Column_c6 k s2 s10 (s13 ++ [(((s28.getD s30.toNat ((bs []), [])).2).getD s10.toNat (bs []))]) s28 s29 (wi64 (s30 + 1))) none) none) none) (
 flat_Column_c6 k s2 s10 s13 s28 s29 (wi64 (s30 + 1)))) none) none) (
 some (s13, 0)) := by kernel_rfl
theorem slices_Equal_Lstring_string_eq (k : Nat) (a : List ByteArray) (b : List ByteArray) : slices_Equal_Lstring_string (k + 1) a b =
 cond ((a.length : Int) != (b.length : Int)) (
 some false) (
 slices_Equal_Lstring_string_c4 k a b (a.length : Int) 0) := by kernel_rfl
theorem slices_Equal_Lstring_string_c4_eq (k : Nat) (s0 : List ByteArray) (s1 : List ByteArray) (s12 : Int) (s13 : Int) : slices_Equal_Lstring_string_c4 (k + 1) s0 s1 s12 s13 =
 cond (decide (s13 < s12)) (
 cond (decide (0 ≤ s13)) (
 cond (decide (s13 < (s0.length : Int))) (
 cond (decide (0 ≤ s13)) (
 cond (decide (s13 < (s1.length : Int))) (
 cond (!(eqS (s0.getD s13.toNat (bs [])) (s1.getD s13.toNat (bs [])))) (
 some false) (
 slices_Equal_Lstring_string_c4 k s0 s1 s12 (wi64 (s13 + 1)))) none) none) none) none) (
 some true) := by kernel_rfl
theorem interchangetop_TopFlatOrdersAddUp_eq (k : Nat) (a : ByteArray × ByteArray × ByteArray × Int × Int × List (Int × ByteArray × (Int × Int) × ByteArray × (Int × Int) × Int)) : interchangetop_TopFlatOrdersAddUp (k + 1) a =
 (order_CheckOrder k a).bind fun y0 =>
 cond (y0 != 0) (
 (interchangetop_alive k).bind fun y1 =>
 some y1) (
 interchangetop_TopFlatOrdersAddUp_c6 k a [] [] a.2.2.2.2.2 (a.2.2.2.2.2.length : Int) 0) := by kernel_rfl
theorem interchangetop_TopFlatOrdersAddUp_c6_eq (k : Nat) (s1 : ByteArray × ByteArray × ByteArray × Int × Int × List (Int × ByteArray × (Int × Int) × ByteArray × (Int × Int) × Int)) (s3 : List QR) (s4 : List (Int × Int)) (s31 : List (Int × ByteArray × (Int × Int) × ByteArray × (Int × Int) × Int)) (s32 : Int) (s33 : Int) : interchangetop_TopFlatOrdersAddUp_c6 (k + 1) s1 s3 s4 s31 s32 s33 =
 cond (decide (s33 < s32)) (
 cond (decide (0 ≤ s33)) (
 cond (decide (s33 < (s31.length : Int))) (
 (interchangeref1_Normal k ((((((s31.getD s33.toNat (0, ((bs []), ((0, 0), ((bs []), ((0, 0), 0)))))).2).2).1).1), (((((s31.getD s33.toNat (0, ((bs []), ((0, 0), ((bs []), ((0, 0), 0)))))).2).2).1).2))).bind fun y2 =>
 (amount_Text k y2).bind fun y3 =>
 cond (y3.2 != 0) (
 some false) (
 cond (decide (s3.length + 1 < 3518437208883)) (
 cond (decide (s4.length + 1 < 8796093022208)) (
 interchangetop_TopFlatOrdersAddUp_c6 k s1 (s3 ++ [((bs [76]), [(((s31.getD s33.toNat (0, ((bs []), ((0, 0), ((bs []), ((0, 0), 0)))))).2).1), y3.1])]) (s4 ++ [((((((s31.getD s33.toNat (0, ((bs []), ((0, 0), ((bs []), ((0, 0), 0)))))).2).2).1).1), (((((s31.getD s33.toNat (0, ((bs []), ((0, 0), ((bs []), ((0, 0), 0)))))).2).2).1).2))]) s31 s32 (wi64 (s33 + 1))) none) none)) none) none) (
 (interchangetop_flatFormat k 0).bind fun y4 =>
 (flat_Closed k y4 s3).bind fun y5 =>
 cond (y5.2 != 0) (
 some false) (
 (interchangetop_flatFormat k 0).bind fun y6 =>
 (flat_Write k y6 y5.1).bind fun y7 =>
 cond (y7.2.2.2 != 0) (
 some false) (
 (interchangetop_flatFormat k 0).bind fun y8 =>
 (flat_Read k y8 y7.1).bind fun y9 =>
 cond (y9.2.2.2 != 0) (
 some false) (
 (interchangetop_flatFormat k 0).bind fun y10 =>
 (interchangetop_flatFormat k 59).bind fun y11 =>
 (flat_Turned k y10 y11 y9.1).bind fun y12 =>
 (cond (!(cond (y12.2.2 != 0) true (y12.2.1 != 0))) (interchangetop_alive k) (some false)).bind fun y13 =>
 cond (cond (cond (y12.2.2 != 0) true (y12.2.1 != 0)) true (!y13)) (
 some false) (
 (interchangetop_flatFormat k 59).bind fun y14 =>
 (flat_CheckTotals k y14 y12.1).bind fun y15 =>
 cond (cond (y15.2 != 0) true (y15.1 != 0)) (
 some false) (
 (interchangetop_flatFormat k 59).bind fun y16 =>
 (flat_SumOf k y16 y12.1 (bs [76]) (bs [113, 117, 97, 110, 116, 105, 116, 121])).bind fun y17 =>
 (amount_Sum k s4).bind fun y18 =>
 cond (cond (y17.2 != 0) true (y18.2 != 0)) (
 some false) (
 (amount_Compare k y17.1 y18.1).bind fun y19 =>
 (interchangetop_flatFormat k 59).bind fun y20 =>
 (flat_Column k y20 y12.1 (bs [84]) (bs [109, 97, 110, 121])).bind fun y21 =>
 (cond (cond (cond (y19.2 == 0) (y21.2 == 0) false) (y19.1 == 0) false) (strconv_Itoa k (s1.2.2.2.2.2.length : Int)) (some (bs []))).bind fun y22 =>
 (cond (cond (cond (y19.2 == 0) (y21.2 == 0) false) (y19.1 == 0) false) (slices_Equal_Lstring_string k y21.1 [y22]) (some false)).bind fun y23 =>
 some (cond (cond (cond (y19.2 == 0) (y21.2 == 0) false) (y19.1 == 0) false) y23 false)))))))) := by kernel_rfl

end Go.Proofs.YtgoepklennckmaaGreatDoor.Eq
