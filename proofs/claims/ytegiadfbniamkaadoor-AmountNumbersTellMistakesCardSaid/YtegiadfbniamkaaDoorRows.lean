/-
  NARROWER THAN 'FOR EVERY INPUT', by the rows' own cells (each row's printed sentence says how): AmountFactorsTurn: laid · AmountDaysMatchSpec: laid · AmountTextsComeBack: laid · AmountReadsMatchSpec: laid · AmountTextsMatchSpec: laid · AmountNumbersTellMistakes: laid.
  DERIVED. THE GIVEN ROWS OF THIS SEAT. 6 by the template 'for every input the law returns true; each argument reads behind the call as it read before'; 0 by the template 'total and deterministic' (their statements: YtegiadfbniamkaaDoorTotals.lean).
  GIVEN WITH THE SEED: the statements are not yours to turn. If you find one false, say at which input.
  Laid BY PROGRAM, IN A SANDBOX (cutbox-rows.mjs): the forced cells as the released guide's own fill.sh prints them over the translation 14a3a4e03b890687… (all of the seat's roots in one cut). By AI agents, Wed Nov 11 2026. No macro, syntax, notation, axiom, sorry.
-/
import Derived.Test.YtegiadfbniamkaaDoorChecked
import GoSem.PinnedTables
import GoSem.Claim
import GoSem.ClaimJoined
import GoSem.ClaimMapViews
import Derived.JoinedTies
import Derived.KernelRfl
namespace Go.Proofs.YtegiadfbniamkaaDoor
/- THE CELL 'sum', in the pinned program and in every row, IS THE sha256 OF THE DUMP (.gsa) THAT YtegiadfbniamkaaDoorProg.lean LOADS. Nothing in Lean hashes anything: it is a label: what it is worth is what the hold of that sum in a sandbox is worth. -/
noncomputable def Tryd.pinned : Pinned := { name := "ytegiadfbniamkaadoor", sum := "14a3a4e03b890687056b4556b089593739d9328d8d2614a63d470230d6a44c98", checked := Tryd.checked }
namespace Rows
def none {H : Type} : Left H := { results := [], args := [] }

/- WHAT THE LISTED PACKAGE-LEVEL VARIABLES READ AS WHEN THE CALL BEGINS. Each datum BY PROGRAM (the guide's laid-datum.mjs) off the statement by which the dump's own 'gosem.cut.vars' lays the variable. In a bare row this is a premise. The card (YtegiadfbniamkaaDoorCards.lean) ties it to the program's text. -/
def laid_unicode_utf8_acceptRanges {H : Type} : DataW H := .agg [.agg [.lit (.int .u8 128), .lit (.int .u8 191)], .agg [.lit (.int .u8 160), .lit (.int .u8 191)], .agg [.lit (.int .u8 128), .lit (.int .u8 159)], .agg [.lit (.int .u8 144), .lit (.int .u8 191)], .agg [.lit (.int .u8 128), .lit (.int .u8 143)], .agg [.lit (.int .u8 0), .lit (.int .u8 0)], .agg [.lit (.int .u8 0), .lit (.int .u8 0)], .agg [.lit (.int .u8 0), .lit (.int .u8 0)], .agg [.lit (.int .u8 0), .lit (.int .u8 0)], .agg [.lit (.int .u8 0), .lit (.int .u8 0)], .agg [.lit (.int .u8 0), .lit (.int .u8 0)], .agg [.lit (.int .u8 0), .lit (.int .u8 0)], .agg [.lit (.int .u8 0), .lit (.int .u8 0)], .agg [.lit (.int .u8 0), .lit (.int .u8 0)], .agg [.lit (.int .u8 0), .lit (.int .u8 0)], .agg [.lit (.int .u8 0), .lit (.int .u8 0)]]
/-- One of Go's own tables, pinned by name: the form's constant. -/
def laid_unicode_utf8_first : DataW Unit := Go.Pinned.utf8First
def laid_math_bits_deBruijn32tab {H : Type} : DataW H := .agg [.lit (.int .u8 0), .lit (.int .u8 1), .lit (.int .u8 28), .lit (.int .u8 2), .lit (.int .u8 29), .lit (.int .u8 14), .lit (.int .u8 24), .lit (.int .u8 3), .lit (.int .u8 30), .lit (.int .u8 22), .lit (.int .u8 20), .lit (.int .u8 15), .lit (.int .u8 25), .lit (.int .u8 17), .lit (.int .u8 4), .lit (.int .u8 8), .lit (.int .u8 31), .lit (.int .u8 27), .lit (.int .u8 13), .lit (.int .u8 23), .lit (.int .u8 21), .lit (.int .u8 19), .lit (.int .u8 16), .lit (.int .u8 7), .lit (.int .u8 26), .lit (.int .u8 12), .lit (.int .u8 18), .lit (.int .u8 6), .lit (.int .u8 11), .lit (.int .u8 5), .lit (.int .u8 10), .lit (.int .u8 9)]
def laid_math_bits_deBruijn64tab {H : Type} : DataW H := .agg [.lit (.int .u8 0), .lit (.int .u8 1), .lit (.int .u8 56), .lit (.int .u8 2), .lit (.int .u8 57), .lit (.int .u8 49), .lit (.int .u8 28), .lit (.int .u8 3), .lit (.int .u8 61), .lit (.int .u8 58), .lit (.int .u8 42), .lit (.int .u8 50), .lit (.int .u8 38), .lit (.int .u8 29), .lit (.int .u8 17), .lit (.int .u8 4), .lit (.int .u8 62), .lit (.int .u8 47), .lit (.int .u8 59), .lit (.int .u8 36), .lit (.int .u8 45), .lit (.int .u8 43), .lit (.int .u8 51), .lit (.int .u8 22), .lit (.int .u8 53), .lit (.int .u8 39), .lit (.int .u8 33), .lit (.int .u8 30), .lit (.int .u8 24), .lit (.int .u8 18), .lit (.int .u8 12), .lit (.int .u8 5), .lit (.int .u8 63), .lit (.int .u8 55), .lit (.int .u8 48), .lit (.int .u8 27), .lit (.int .u8 60), .lit (.int .u8 41), .lit (.int .u8 37), .lit (.int .u8 16), .lit (.int .u8 46), .lit (.int .u8 35), .lit (.int .u8 44), .lit (.int .u8 21), .lit (.int .u8 52), .lit (.int .u8 32), .lit (.int .u8 23), .lit (.int .u8 11), .lit (.int .u8 54), .lit (.int .u8 26), .lit (.int .u8 40), .lit (.int .u8 15), .lit (.int .u8 34), .lit (.int .u8 20), .lit (.int .u8 31), .lit (.int .u8 10), .lit (.int .u8 25), .lit (.int .u8 14), .lit (.int .u8 19), .lit (.int .u8 9), .lit (.int .u8 13), .lit (.int .u8 8), .lit (.int .u8 7), .lit (.int .u8 6)]
def laid_internal_strconv_uint64pow10 {H : Type} : DataW H := .agg [.lit (.int .u64 1), .lit (.int .u64 10), .lit (.int .u64 100), .lit (.int .u64 1000), .lit (.int .u64 10000), .lit (.int .u64 100000), .lit (.int .u64 1000000), .lit (.int .u64 10000000), .lit (.int .u64 100000000), .lit (.int .u64 1000000000), .lit (.int .u64 10000000000), .lit (.int .u64 100000000000), .lit (.int .u64 1000000000000), .lit (.int .u64 10000000000000), .lit (.int .u64 100000000000000), .lit (.int .u64 1000000000000000), .lit (.int .u64 10000000000000000), .lit (.int .u64 100000000000000000), .lit (.int .u64 1000000000000000000), .lit (.int .u64 10000000000000000000)]

/-- 'interchangelaw1.AmountFactorsTurn': WHATEVER THE INPUT: true; the input reads as it did. -/
def amountFactorsTurnSpec : ChangeSpec := { name := "amountFactorsTurn", fn := fun _ => fun
  | [d1, d2, d3] => { results := [.lit (.bool true)], args := [d1, d2, d3] }
  | _ => none }
def amountFactorsTurnRow : OpenClaim := { program := "ytegiadfbniamkaadoor", sum := "14a3a4e03b890687056b4556b089593739d9328d8d2614a63d470230d6a44c98", func := "interchange/interchangelaw1.AmountFactorsTurn", spec := "amountFactorsTurn", inPlace := ["internal/bytealg.IndexByteString", "internal/bytealg.IndexString", "internal/bytealg.abigen_runtime_cmpstring"], unfollowed := true, recurses := true, named := ["unicode/utf8.first", "unicode/utf8.acceptRanges", "internal/bytealg.MaxLen"], apart := false, laid := [("unicode/utf8.acceptRanges", laid_unicode_utf8_acceptRanges), ("unicode/utf8.first", laid_unicode_utf8_first)] }
def AmountFactorsTurnSaid : Prop := amountFactorsTurnRow.holds Tryd.pinned (OpenSpec.ofChange amountFactorsTurnSpec)

/-- ITS FALSE NEIGHBOUR: 'it returns false'. Refute it at one input. -/
def amountFactorsTurnWrong : ChangeSpec := { name := "amountFactorsTurn", fn := fun _ => fun
  | [d1, d2, d3] => { results := [.lit (.bool false)], args := [d1, d2, d3] }
  | _ => none }
def AmountFactorsTurnWrongFalsely : Prop := amountFactorsTurnRow.holds Tryd.pinned (OpenSpec.ofChange amountFactorsTurnWrong)

/-- 'interchangelaw1.AmountDaysMatchSpec': WHATEVER THE INPUT: true; the input reads as it did. -/
def amountDaysMatchSpecSpec : ChangeSpec := { name := "amountDaysMatchSpec", fn := fun _ => fun
  | [d1, d2, d3, d4, d5, d6] => { results := [.lit (.bool true)], args := [d1, d2, d3, d4, d5, d6] }
  | _ => none }
def amountDaysMatchSpecRow : OpenClaim := { program := "ytegiadfbniamkaadoor", sum := "14a3a4e03b890687056b4556b089593739d9328d8d2614a63d470230d6a44c98", func := "interchange/interchangelaw1.AmountDaysMatchSpec", spec := "amountDaysMatchSpec", inPlace := ["internal/abi.NoEscape", "internal/bytealg.MakeNoZero", "internal/bytealg.IndexByteString", "internal/bytealg.IndexString"], named := ["internal/strconv.uint64pow10", "math/bits.deBruijn32tab", "math/bits.deBruijn64tab", "internal/bytealg.MaxLen"], apart := false, laid := [("math/bits.deBruijn32tab", laid_math_bits_deBruijn32tab), ("math/bits.deBruijn64tab", laid_math_bits_deBruijn64tab), ("internal/strconv.uint64pow10", laid_internal_strconv_uint64pow10)] }
def AmountDaysMatchSpecSaid : Prop := amountDaysMatchSpecRow.holds Tryd.pinned (OpenSpec.ofChange amountDaysMatchSpecSpec)

/-- ITS FALSE NEIGHBOUR: 'it returns false'. Refute it at one input. -/
def amountDaysMatchSpecWrong : ChangeSpec := { name := "amountDaysMatchSpec", fn := fun _ => fun
  | [d1, d2, d3, d4, d5, d6] => { results := [.lit (.bool false)], args := [d1, d2, d3, d4, d5, d6] }
  | _ => none }
def AmountDaysMatchSpecWrongFalsely : Prop := amountDaysMatchSpecRow.holds Tryd.pinned (OpenSpec.ofChange amountDaysMatchSpecWrong)

/-- 'interchangelaw1.AmountTextsComeBack': WHATEVER THE INPUT: true; the input reads as it did. -/
def amountTextsComeBackSpec : ChangeSpec := { name := "amountTextsComeBack", fn := fun _ => fun
  | [d1, d2, d3, d4, d5] => { results := [.lit (.bool true)], args := [d1, d2, d3, d4, d5] }
  | _ => none }
def amountTextsComeBackRow : OpenClaim := { program := "ytegiadfbniamkaadoor", sum := "14a3a4e03b890687056b4556b089593739d9328d8d2614a63d470230d6a44c98", func := "interchange/interchangelaw1.AmountTextsComeBack", spec := "amountTextsComeBack", inPlace := ["internal/abi.NoEscape", "internal/bytealg.MakeNoZero", "internal/bytealg.IndexByteString", "internal/bytealg.IndexString", "internal/bytealg.CountString"], unfollowed := true, recurses := true, named := ["math/bits.overflowError", "internal/bytealg.MaxLen", "unicode/utf8.first", "unicode/utf8.acceptRanges"], apart := false, laid := [("unicode/utf8.acceptRanges", laid_unicode_utf8_acceptRanges), ("unicode/utf8.first", laid_unicode_utf8_first)] }
def AmountTextsComeBackSaid : Prop := amountTextsComeBackRow.holds Tryd.pinned (OpenSpec.ofChange amountTextsComeBackSpec)

/-- ITS FALSE NEIGHBOUR: 'it returns false'. Refute it at one input. -/
def amountTextsComeBackWrong : ChangeSpec := { name := "amountTextsComeBack", fn := fun _ => fun
  | [d1, d2, d3, d4, d5] => { results := [.lit (.bool false)], args := [d1, d2, d3, d4, d5] }
  | _ => none }
def AmountTextsComeBackWrongFalsely : Prop := amountTextsComeBackRow.holds Tryd.pinned (OpenSpec.ofChange amountTextsComeBackWrong)

/-- 'interchangelaw1.AmountReadsMatchSpec': WHATEVER THE INPUT: true; the input reads as it did. -/
def amountReadsMatchSpecSpec : ChangeSpec := { name := "amountReadsMatchSpec", fn := fun _ => fun
  | [d1, d2, d3, d4] => { results := [.lit (.bool true)], args := [d1, d2, d3, d4] }
  | _ => none }
def amountReadsMatchSpecRow : OpenClaim := { program := "ytegiadfbniamkaadoor", sum := "14a3a4e03b890687056b4556b089593739d9328d8d2614a63d470230d6a44c98", func := "interchange/interchangelaw1.AmountReadsMatchSpec", spec := "amountReadsMatchSpec", inPlace := ["internal/bytealg.IndexByteString", "internal/bytealg.IndexString", "internal/bytealg.CountString", "internal/abi.NoEscape", "internal/bytealg.MakeNoZero"], unfollowed := true, recurses := true, named := ["internal/bytealg.MaxLen", "unicode/utf8.first", "unicode/utf8.acceptRanges"], apart := false, laid := [("unicode/utf8.acceptRanges", laid_unicode_utf8_acceptRanges), ("unicode/utf8.first", laid_unicode_utf8_first)] }
def AmountReadsMatchSpecSaid : Prop := amountReadsMatchSpecRow.holds Tryd.pinned (OpenSpec.ofChange amountReadsMatchSpecSpec)

/-- ITS FALSE NEIGHBOUR: 'it returns false'. Refute it at one input. -/
def amountReadsMatchSpecWrong : ChangeSpec := { name := "amountReadsMatchSpec", fn := fun _ => fun
  | [d1, d2, d3, d4] => { results := [.lit (.bool false)], args := [d1, d2, d3, d4] }
  | _ => none }
def AmountReadsMatchSpecWrongFalsely : Prop := amountReadsMatchSpecRow.holds Tryd.pinned (OpenSpec.ofChange amountReadsMatchSpecWrong)

/-- 'interchangelaw1.AmountTextsMatchSpec': WHATEVER THE INPUT: true; the input reads as it did. -/
def amountTextsMatchSpecSpec : ChangeSpec := { name := "amountTextsMatchSpec", fn := fun _ => fun
  | [d1, d2, d3, d4, d5] => { results := [.lit (.bool true)], args := [d1, d2, d3, d4, d5] }
  | _ => none }
def amountTextsMatchSpecRow : OpenClaim := { program := "ytegiadfbniamkaadoor", sum := "14a3a4e03b890687056b4556b089593739d9328d8d2614a63d470230d6a44c98", func := "interchange/interchangelaw1.AmountTextsMatchSpec", spec := "amountTextsMatchSpec", inPlace := ["internal/abi.NoEscape", "internal/bytealg.MakeNoZero", "internal/bytealg.IndexByteString", "internal/bytealg.IndexString"], unfollowed := true, recurses := true, named := ["internal/strconv.uint64pow10", "math/bits.deBruijn32tab", "math/bits.deBruijn64tab", "math/bits.overflowError", "internal/bytealg.MaxLen"], apart := false, laid := [("math/bits.deBruijn32tab", laid_math_bits_deBruijn32tab), ("math/bits.deBruijn64tab", laid_math_bits_deBruijn64tab), ("internal/strconv.uint64pow10", laid_internal_strconv_uint64pow10)] }
def AmountTextsMatchSpecSaid : Prop := amountTextsMatchSpecRow.holds Tryd.pinned (OpenSpec.ofChange amountTextsMatchSpecSpec)

/-- ITS FALSE NEIGHBOUR: 'it returns false'. Refute it at one input. -/
def amountTextsMatchSpecWrong : ChangeSpec := { name := "amountTextsMatchSpec", fn := fun _ => fun
  | [d1, d2, d3, d4, d5] => { results := [.lit (.bool false)], args := [d1, d2, d3, d4, d5] }
  | _ => none }
def AmountTextsMatchSpecWrongFalsely : Prop := amountTextsMatchSpecRow.holds Tryd.pinned (OpenSpec.ofChange amountTextsMatchSpecWrong)

/-- 'interchangelaw1.AmountNumbersTellMistakes': WHATEVER THE INPUT: true; the input reads as it did. -/
def amountNumbersTellMistakesSpec : ChangeSpec := { name := "amountNumbersTellMistakes", fn := fun _ => fun
  | [d1, d2, d3, d4] => { results := [.lit (.bool true)], args := [d1, d2, d3, d4] }
  | _ => none }
def amountNumbersTellMistakesRow : OpenClaim := { program := "ytegiadfbniamkaadoor", sum := "14a3a4e03b890687056b4556b089593739d9328d8d2614a63d470230d6a44c98", func := "interchange/interchangelaw1.AmountNumbersTellMistakes", spec := "amountNumbersTellMistakes", inPlace := ["internal/bytealg.IndexByteString", "internal/bytealg.IndexString", "internal/abi.NoEscape", "internal/bytealg.MakeNoZero"], named := ["unicode/utf8.first", "unicode/utf8.acceptRanges", "internal/strconv.uint64pow10", "math/bits.deBruijn32tab", "math/bits.deBruijn64tab", "internal/bytealg.MaxLen"], apart := false, laid := [("math/bits.deBruijn32tab", laid_math_bits_deBruijn32tab), ("math/bits.deBruijn64tab", laid_math_bits_deBruijn64tab), ("internal/strconv.uint64pow10", laid_internal_strconv_uint64pow10), ("unicode/utf8.acceptRanges", laid_unicode_utf8_acceptRanges), ("unicode/utf8.first", laid_unicode_utf8_first)] }
def AmountNumbersTellMistakesSaid : Prop := amountNumbersTellMistakesRow.holds Tryd.pinned (OpenSpec.ofChange amountNumbersTellMistakesSpec)

/-- ITS FALSE NEIGHBOUR: 'it returns false'. Refute it at one input. -/
def amountNumbersTellMistakesWrong : ChangeSpec := { name := "amountNumbersTellMistakes", fn := fun _ => fun
  | [d1, d2, d3, d4] => { results := [.lit (.bool false)], args := [d1, d2, d3, d4] }
  | _ => none }
def AmountNumbersTellMistakesWrongFalsely : Prop := amountNumbersTellMistakesRow.holds Tryd.pinned (OpenSpec.ofChange amountNumbersTellMistakesWrong)

/- THE SECOND FORM. 'bulk': how many values and letters a reading holds, each counted each time it is reached (what is shared counts as often as it is met; a slice's spare places count too). A statement '..UptoSaid' is the law's where the arguments, and the package variables that the reading takes, are together of bulk at most 1048576: NARROWER than '..Said'. Prove '..Said' where nothing that the law and all that it calls make is longer than what came in: it says more and counts as full. Else prove '..UptoSaid'. A law counts once. -/
mutual
def uptoBulk {H : Type} : DataW H → Nat
  | .lit (.string bytes) => bytes.length + 1
  | .lit _ => 1
  | .nil => 1
  | .ptr d => uptoBulk d + 1
  | .slice elems spare => uptoBulkAll elems + uptoBulkAll spare + 1
  | .agg parts => uptoBulkAll parts + 1
  | .iface _ d => uptoBulk d + 1
  | .map entries => uptoBulkEntries entries + 1
  | .held _ => 1
def uptoBulkAll {H : Type} : List (DataW H) → Nat
  | [] => 0
  | d :: r => uptoBulk d + uptoBulkAll r
def uptoBulkEntries {H : Type} : List (Lit × DataW H) → Nat
  | [] => 0
  | x :: r => uptoBulkEntry x + uptoBulkEntries r
def uptoBulkEntry {H : Type} : Lit × DataW H → Nat
  | (.string bytes, d) => bytes.length + uptoBulk d + 1
  | (_, d) => uptoBulk d + 1
 end
def uptoSmall : (H : Type) → List (DataW H) → Bool := fun _ ds => decide (uptoBulkAll ds ≤ 1048576)
def OpenSpec.upto (s : _root_.Go.ChangeSpec) : _root_.Go.OpenSpec := { _root_.Go.OpenSpec.ofChange s with cond := some uptoSmall }

/-- 'interchangelaw1.AmountFactorsTurn', WHERE WHAT IT READS IS OF BULK AT MOST 1048576: true; the input reads as it did. -/
def amountFactorsTurnUptoRow : OpenClaim := { program := "ytegiadfbniamkaadoor", sum := "14a3a4e03b890687056b4556b089593739d9328d8d2614a63d470230d6a44c98", func := "interchange/interchangelaw1.AmountFactorsTurn", spec := "amountFactorsTurn", inPlace := ["internal/bytealg.IndexByteString", "internal/bytealg.IndexString", "internal/bytealg.abigen_runtime_cmpstring"], unfollowed := true, recurses := true, named := ["unicode/utf8.first", "unicode/utf8.acceptRanges", "internal/bytealg.MaxLen"], apart := false, laid := [("unicode/utf8.acceptRanges", laid_unicode_utf8_acceptRanges), ("unicode/utf8.first", laid_unicode_utf8_first)], narrowed := true }
def AmountFactorsTurnUptoSaid : Prop := amountFactorsTurnUptoRow.holds Tryd.pinned (OpenSpec.upto amountFactorsTurnSpec)

/-- 'interchangelaw1.AmountDaysMatchSpec', WHERE WHAT IT READS IS OF BULK AT MOST 1048576: true; the input reads as it did. -/
def amountDaysMatchSpecUptoRow : OpenClaim := { program := "ytegiadfbniamkaadoor", sum := "14a3a4e03b890687056b4556b089593739d9328d8d2614a63d470230d6a44c98", func := "interchange/interchangelaw1.AmountDaysMatchSpec", spec := "amountDaysMatchSpec", inPlace := ["internal/abi.NoEscape", "internal/bytealg.MakeNoZero", "internal/bytealg.IndexByteString", "internal/bytealg.IndexString"], named := ["internal/strconv.uint64pow10", "math/bits.deBruijn32tab", "math/bits.deBruijn64tab", "internal/bytealg.MaxLen"], apart := false, laid := [("math/bits.deBruijn32tab", laid_math_bits_deBruijn32tab), ("math/bits.deBruijn64tab", laid_math_bits_deBruijn64tab), ("internal/strconv.uint64pow10", laid_internal_strconv_uint64pow10)], narrowed := true }
def AmountDaysMatchSpecUptoSaid : Prop := amountDaysMatchSpecUptoRow.holds Tryd.pinned (OpenSpec.upto amountDaysMatchSpecSpec)

/-- 'interchangelaw1.AmountTextsComeBack', WHERE WHAT IT READS IS OF BULK AT MOST 1048576: true; the input reads as it did. -/
def amountTextsComeBackUptoRow : OpenClaim := { program := "ytegiadfbniamkaadoor", sum := "14a3a4e03b890687056b4556b089593739d9328d8d2614a63d470230d6a44c98", func := "interchange/interchangelaw1.AmountTextsComeBack", spec := "amountTextsComeBack", inPlace := ["internal/abi.NoEscape", "internal/bytealg.MakeNoZero", "internal/bytealg.IndexByteString", "internal/bytealg.IndexString", "internal/bytealg.CountString"], unfollowed := true, recurses := true, named := ["math/bits.overflowError", "internal/bytealg.MaxLen", "unicode/utf8.first", "unicode/utf8.acceptRanges"], apart := false, laid := [("unicode/utf8.acceptRanges", laid_unicode_utf8_acceptRanges), ("unicode/utf8.first", laid_unicode_utf8_first)], narrowed := true }
def AmountTextsComeBackUptoSaid : Prop := amountTextsComeBackUptoRow.holds Tryd.pinned (OpenSpec.upto amountTextsComeBackSpec)

/-- 'interchangelaw1.AmountReadsMatchSpec', WHERE WHAT IT READS IS OF BULK AT MOST 1048576: true; the input reads as it did. -/
def amountReadsMatchSpecUptoRow : OpenClaim := { program := "ytegiadfbniamkaadoor", sum := "14a3a4e03b890687056b4556b089593739d9328d8d2614a63d470230d6a44c98", func := "interchange/interchangelaw1.AmountReadsMatchSpec", spec := "amountReadsMatchSpec", inPlace := ["internal/bytealg.IndexByteString", "internal/bytealg.IndexString", "internal/bytealg.CountString", "internal/abi.NoEscape", "internal/bytealg.MakeNoZero"], unfollowed := true, recurses := true, named := ["internal/bytealg.MaxLen", "unicode/utf8.first", "unicode/utf8.acceptRanges"], apart := false, laid := [("unicode/utf8.acceptRanges", laid_unicode_utf8_acceptRanges), ("unicode/utf8.first", laid_unicode_utf8_first)], narrowed := true }
def AmountReadsMatchSpecUptoSaid : Prop := amountReadsMatchSpecUptoRow.holds Tryd.pinned (OpenSpec.upto amountReadsMatchSpecSpec)

/-- 'interchangelaw1.AmountTextsMatchSpec', WHERE WHAT IT READS IS OF BULK AT MOST 1048576: true; the input reads as it did. -/
def amountTextsMatchSpecUptoRow : OpenClaim := { program := "ytegiadfbniamkaadoor", sum := "14a3a4e03b890687056b4556b089593739d9328d8d2614a63d470230d6a44c98", func := "interchange/interchangelaw1.AmountTextsMatchSpec", spec := "amountTextsMatchSpec", inPlace := ["internal/abi.NoEscape", "internal/bytealg.MakeNoZero", "internal/bytealg.IndexByteString", "internal/bytealg.IndexString"], unfollowed := true, recurses := true, named := ["internal/strconv.uint64pow10", "math/bits.deBruijn32tab", "math/bits.deBruijn64tab", "math/bits.overflowError", "internal/bytealg.MaxLen"], apart := false, laid := [("math/bits.deBruijn32tab", laid_math_bits_deBruijn32tab), ("math/bits.deBruijn64tab", laid_math_bits_deBruijn64tab), ("internal/strconv.uint64pow10", laid_internal_strconv_uint64pow10)], narrowed := true }
def AmountTextsMatchSpecUptoSaid : Prop := amountTextsMatchSpecUptoRow.holds Tryd.pinned (OpenSpec.upto amountTextsMatchSpecSpec)

/-- 'interchangelaw1.AmountNumbersTellMistakes', WHERE WHAT IT READS IS OF BULK AT MOST 1048576: true; the input reads as it did. -/
def amountNumbersTellMistakesUptoRow : OpenClaim := { program := "ytegiadfbniamkaadoor", sum := "14a3a4e03b890687056b4556b089593739d9328d8d2614a63d470230d6a44c98", func := "interchange/interchangelaw1.AmountNumbersTellMistakes", spec := "amountNumbersTellMistakes", inPlace := ["internal/bytealg.IndexByteString", "internal/bytealg.IndexString", "internal/abi.NoEscape", "internal/bytealg.MakeNoZero"], named := ["unicode/utf8.first", "unicode/utf8.acceptRanges", "internal/strconv.uint64pow10", "math/bits.deBruijn32tab", "math/bits.deBruijn64tab", "internal/bytealg.MaxLen"], apart := false, laid := [("math/bits.deBruijn32tab", laid_math_bits_deBruijn32tab), ("math/bits.deBruijn64tab", laid_math_bits_deBruijn64tab), ("internal/strconv.uint64pow10", laid_internal_strconv_uint64pow10), ("unicode/utf8.acceptRanges", laid_unicode_utf8_acceptRanges), ("unicode/utf8.first", laid_unicode_utf8_first)], narrowed := true }
def AmountNumbersTellMistakesUptoSaid : Prop := amountNumbersTellMistakesUptoRow.holds Tryd.pinned (OpenSpec.upto amountNumbersTellMistakesSpec)

end Rows
end Go.Proofs.YtegiadfbniamkaaDoor
