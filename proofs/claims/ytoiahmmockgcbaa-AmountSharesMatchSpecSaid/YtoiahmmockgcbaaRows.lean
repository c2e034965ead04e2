/-
  No cell of these rows narrows 'for every input' (looked for: loops, veiled, ifaces, maps, wideKeys, modest, calm, conditions, laid).
  DERIVED. THE GIVEN ROWS OF THIS SEAT. 8 by the template 'for every input the law returns true; each argument reads behind the call as it read before'; 0 by the template 'total and deterministic' (their statements: YtoiahmmockgcbaaTotals.lean).
  GIVEN WITH THE SEED: the statements are not yours to turn. If you find one false, say at which input.
  Laid BY PROGRAM, IN A SANDBOX (cutbox-rows.mjs): the forced cells as the released guide's own fill.sh prints them over the translation 5ea08698d2eedded… (all of the seat's roots in one cut). By AI agents, Wed Nov 11 2026. No macro, syntax, notation, axiom, sorry.
-/
import Derived.Test.YtoiahmmockgcbaaChecked
import GoSem.Claim
import GoSem.ClaimJoined
import GoSem.ClaimMapViews
import Derived.JoinedTies
import Derived.KernelRfl
namespace Go.Proofs.Ytoiahmmockgcbaa
/- THE CELL 'sum', in the pinned program and in every row, IS THE sha256 OF THE DUMP (.gsa) THAT YtoiahmmockgcbaaProg.lean LOADS. Nothing in Lean hashes anything: it is a label: what it is worth is what the hold of that sum in a sandbox is worth. -/
noncomputable def Try.pinned : Pinned := { name := "ytoiahmmockgcbaa", sum := "5ea08698d2eedded74538b02f56cbea2e9368b4889e96e3555bfc06992eecea9", checked := Try.checked }
namespace Rows
def none {H : Type} : Left H := { results := [], args := [] }

/-- 'interchangelaw1.AmountSumsAreExact': WHATEVER THE INPUT: true; the input reads as it did. -/
def amountSumsAreExactSpec : ChangeSpec := { name := "amountSumsAreExact", fn := fun _ => fun
  | [d1, d2] => { results := [.lit (.bool true)], args := [d1, d2] }
  | _ => none }
def amountSumsAreExactRow : OpenClaim := { program := "ytoiahmmockgcbaa", sum := "5ea08698d2eedded74538b02f56cbea2e9368b4889e96e3555bfc06992eecea9", func := "interchange/interchangelaw1.AmountSumsAreExact", spec := "amountSumsAreExact", inPlace := ["internal/bytealg.IndexByteString", "internal/bytealg.IndexString"], named := ["internal/bytealg.MaxLen"], apart := false }
def AmountSumsAreExactSaid : Prop := amountSumsAreExactRow.holds Try.pinned (OpenSpec.ofChange amountSumsAreExactSpec)

/-- ITS FALSE NEIGHBOUR: 'it returns false'. Refute it at one input. -/
def amountSumsAreExactWrong : ChangeSpec := { name := "amountSumsAreExact", fn := fun _ => fun
  | [d1, d2] => { results := [.lit (.bool false)], args := [d1, d2] }
  | _ => none }
def AmountSumsAreExactWrongFalsely : Prop := amountSumsAreExactRow.holds Try.pinned (OpenSpec.ofChange amountSumsAreExactWrong)

/-- 'interchangelaw1.AmountSumsMatchSpec': WHATEVER THE INPUT: true; the input reads as it did. -/
def amountSumsMatchSpecSpec : ChangeSpec := { name := "amountSumsMatchSpec", fn := fun _ => fun
  | [d1, d2, d3] => { results := [.lit (.bool true)], args := [d1, d2, d3] }
  | _ => none }
def amountSumsMatchSpecRow : OpenClaim := { program := "ytoiahmmockgcbaa", sum := "5ea08698d2eedded74538b02f56cbea2e9368b4889e96e3555bfc06992eecea9", func := "interchange/interchangelaw1.AmountSumsMatchSpec", spec := "amountSumsMatchSpec", inPlace := ["internal/bytealg.IndexByteString", "internal/bytealg.IndexString"], named := ["internal/bytealg.MaxLen"], apart := false }
def AmountSumsMatchSpecSaid : Prop := amountSumsMatchSpecRow.holds Try.pinned (OpenSpec.ofChange amountSumsMatchSpecSpec)

/-- ITS FALSE NEIGHBOUR: 'it returns false'. Refute it at one input. -/
def amountSumsMatchSpecWrong : ChangeSpec := { name := "amountSumsMatchSpec", fn := fun _ => fun
  | [d1, d2, d3] => { results := [.lit (.bool false)], args := [d1, d2, d3] }
  | _ => none }
def AmountSumsMatchSpecWrongFalsely : Prop := amountSumsMatchSpecRow.holds Try.pinned (OpenSpec.ofChange amountSumsMatchSpecWrong)

/-- 'interchangelaw1.AmountRoundsAreNear': WHATEVER THE INPUT: true; the input reads as it did. -/
def amountRoundsAreNearSpec : ChangeSpec := { name := "amountRoundsAreNear", fn := fun _ => fun
  | [d1, d2, d3] => { results := [.lit (.bool true)], args := [d1, d2, d3] }
  | _ => none }
def amountRoundsAreNearRow : OpenClaim := { program := "ytoiahmmockgcbaa", sum := "5ea08698d2eedded74538b02f56cbea2e9368b4889e96e3555bfc06992eecea9", func := "interchange/interchangelaw1.AmountRoundsAreNear", spec := "amountRoundsAreNear", inPlace := ["internal/bytealg.IndexByteString", "internal/bytealg.IndexString"], named := ["internal/bytealg.MaxLen"], apart := false }
def AmountRoundsAreNearSaid : Prop := amountRoundsAreNearRow.holds Try.pinned (OpenSpec.ofChange amountRoundsAreNearSpec)

/-- ITS FALSE NEIGHBOUR: 'it returns false'. Refute it at one input. -/
def amountRoundsAreNearWrong : ChangeSpec := { name := "amountRoundsAreNear", fn := fun _ => fun
  | [d1, d2, d3] => { results := [.lit (.bool false)], args := [d1, d2, d3] }
  | _ => none }
def AmountRoundsAreNearWrongFalsely : Prop := amountRoundsAreNearRow.holds Try.pinned (OpenSpec.ofChange amountRoundsAreNearWrong)

/-- 'interchangelaw1.AmountRoundsMatchSpec': WHATEVER THE INPUT: true; the input reads as it did. -/
def amountRoundsMatchSpecSpec : ChangeSpec := { name := "amountRoundsMatchSpec", fn := fun _ => fun
  | [d1, d2, d3, d4] => { results := [.lit (.bool true)], args := [d1, d2, d3, d4] }
  | _ => none }
def amountRoundsMatchSpecRow : OpenClaim := { program := "ytoiahmmockgcbaa", sum := "5ea08698d2eedded74538b02f56cbea2e9368b4889e96e3555bfc06992eecea9", func := "interchange/interchangelaw1.AmountRoundsMatchSpec", spec := "amountRoundsMatchSpec", inPlace := ["internal/bytealg.IndexByteString", "internal/bytealg.IndexString"], named := ["internal/bytealg.MaxLen"], apart := false }
def AmountRoundsMatchSpecSaid : Prop := amountRoundsMatchSpecRow.holds Try.pinned (OpenSpec.ofChange amountRoundsMatchSpecSpec)

/-- ITS FALSE NEIGHBOUR: 'it returns false'. Refute it at one input. -/
def amountRoundsMatchSpecWrong : ChangeSpec := { name := "amountRoundsMatchSpec", fn := fun _ => fun
  | [d1, d2, d3, d4] => { results := [.lit (.bool false)], args := [d1, d2, d3, d4] }
  | _ => none }
def AmountRoundsMatchSpecWrongFalsely : Prop := amountRoundsMatchSpecRow.holds Try.pinned (OpenSpec.ofChange amountRoundsMatchSpecWrong)

/-- 'interchangelaw1.AmountWorkDaysMatchSpec': WHATEVER THE INPUT: true; the input reads as it did. -/
def amountWorkDaysMatchSpecSpec : ChangeSpec := { name := "amountWorkDaysMatchSpec", fn := fun _ => fun
  | [d1, d2, d3, d4] => { results := [.lit (.bool true)], args := [d1, d2, d3, d4] }
  | _ => none }
def amountWorkDaysMatchSpecRow : OpenClaim := { program := "ytoiahmmockgcbaa", sum := "5ea08698d2eedded74538b02f56cbea2e9368b4889e96e3555bfc06992eecea9", func := "interchange/interchangelaw1.AmountWorkDaysMatchSpec", spec := "amountWorkDaysMatchSpec", inPlace := ["internal/bytealg.IndexByteString", "internal/bytealg.IndexString"], named := ["internal/bytealg.MaxLen"], apart := false }
def AmountWorkDaysMatchSpecSaid : Prop := amountWorkDaysMatchSpecRow.holds Try.pinned (OpenSpec.ofChange amountWorkDaysMatchSpecSpec)

/-- ITS FALSE NEIGHBOUR: 'it returns false'. Refute it at one input. -/
def amountWorkDaysMatchSpecWrong : ChangeSpec := { name := "amountWorkDaysMatchSpec", fn := fun _ => fun
  | [d1, d2, d3, d4] => { results := [.lit (.bool false)], args := [d1, d2, d3, d4] }
  | _ => none }
def AmountWorkDaysMatchSpecWrongFalsely : Prop := amountWorkDaysMatchSpecRow.holds Try.pinned (OpenSpec.ofChange amountWorkDaysMatchSpecWrong)

/-- 'interchangelaw1.AmountWorkDaysAreCounted': WHATEVER THE INPUT: true; the input reads as it did. -/
def amountWorkDaysAreCountedSpec : ChangeSpec := { name := "amountWorkDaysAreCounted", fn := fun _ => fun
  | [d1, d2, d3, d4] => { results := [.lit (.bool true)], args := [d1, d2, d3, d4] }
  | _ => none }
def amountWorkDaysAreCountedRow : OpenClaim := { program := "ytoiahmmockgcbaa", sum := "5ea08698d2eedded74538b02f56cbea2e9368b4889e96e3555bfc06992eecea9", func := "interchange/interchangelaw1.AmountWorkDaysAreCounted", spec := "amountWorkDaysAreCounted", inPlace := ["internal/bytealg.IndexByteString", "internal/bytealg.IndexString"], named := ["internal/bytealg.MaxLen"], apart := false }
def AmountWorkDaysAreCountedSaid : Prop := amountWorkDaysAreCountedRow.holds Try.pinned (OpenSpec.ofChange amountWorkDaysAreCountedSpec)

/-- ITS FALSE NEIGHBOUR: 'it returns false'. Refute it at one input. -/
def amountWorkDaysAreCountedWrong : ChangeSpec := { name := "amountWorkDaysAreCounted", fn := fun _ => fun
  | [d1, d2, d3, d4] => { results := [.lit (.bool false)], args := [d1, d2, d3, d4] }
  | _ => none }
def AmountWorkDaysAreCountedWrongFalsely : Prop := amountWorkDaysAreCountedRow.holds Try.pinned (OpenSpec.ofChange amountWorkDaysAreCountedWrong)

/-- 'interchangelaw1.AmountSharesAddUp': WHATEVER THE INPUT: true; the input reads as it did. -/
def amountSharesAddUpSpec : ChangeSpec := { name := "amountSharesAddUp", fn := fun _ => fun
  | [d1, d2] => { results := [.lit (.bool true)], args := [d1, d2] }
  | _ => none }
def amountSharesAddUpRow : OpenClaim := { program := "ytoiahmmockgcbaa", sum := "5ea08698d2eedded74538b02f56cbea2e9368b4889e96e3555bfc06992eecea9", func := "interchange/interchangelaw1.AmountSharesAddUp", spec := "amountSharesAddUp", inPlace := ["internal/bytealg.IndexByteString", "internal/bytealg.IndexString"], unfollowed := true, recurses := true, named := ["internal/bytealg.MaxLen"], apart := false }
def AmountSharesAddUpSaid : Prop := amountSharesAddUpRow.holds Try.pinned (OpenSpec.ofChange amountSharesAddUpSpec)

/-- ITS FALSE NEIGHBOUR: 'it returns false'. Refute it at one input. -/
def amountSharesAddUpWrong : ChangeSpec := { name := "amountSharesAddUp", fn := fun _ => fun
  | [d1, d2] => { results := [.lit (.bool false)], args := [d1, d2] }
  | _ => none }
def AmountSharesAddUpWrongFalsely : Prop := amountSharesAddUpRow.holds Try.pinned (OpenSpec.ofChange amountSharesAddUpWrong)

/-- 'interchangelaw1.AmountSharesMatchSpec': WHATEVER THE INPUT: true; the input reads as it did. -/
def amountSharesMatchSpecSpec : ChangeSpec := { name := "amountSharesMatchSpec", fn := fun _ => fun
  | [d1, d2] => { results := [.lit (.bool true)], args := [d1, d2] }
  | _ => none }
def amountSharesMatchSpecRow : OpenClaim := { program := "ytoiahmmockgcbaa", sum := "5ea08698d2eedded74538b02f56cbea2e9368b4889e96e3555bfc06992eecea9", func := "interchange/interchangelaw1.AmountSharesMatchSpec", spec := "amountSharesMatchSpec", inPlace := ["internal/bytealg.IndexByteString", "internal/bytealg.IndexString"], unfollowed := true, recurses := true, named := ["internal/bytealg.MaxLen"], apart := false }
def AmountSharesMatchSpecSaid : Prop := amountSharesMatchSpecRow.holds Try.pinned (OpenSpec.ofChange amountSharesMatchSpecSpec)

/-- ITS FALSE NEIGHBOUR: 'it returns false'. Refute it at one input. -/
def amountSharesMatchSpecWrong : ChangeSpec := { name := "amountSharesMatchSpec", fn := fun _ => fun
  | [d1, d2] => { results := [.lit (.bool false)], args := [d1, d2] }
  | _ => none }
def AmountSharesMatchSpecWrongFalsely : Prop := amountSharesMatchSpecRow.holds Try.pinned (OpenSpec.ofChange amountSharesMatchSpecWrong)

/- THE SECOND FORM. 'bulk': how many values and letters a reading holds, each counted each time it is reached (what is shared counts as often as it is met; a slice's spare places count too). A statement '..UptoSaid' is the law's where the arguments, and the package variables that the reading takes, are together of bulk at most 1048576: NARROWER than '..Said'. Prove '..Said' where nothing that the law and all that it calls make is longer than what came in: it says more and counts as full. Else prove '..UptoSaid'. A law counts once. -/
mutual
def uptoBulk {H : Type} : DataW H → Nat
  | .lit (.string bytes) => bytes.length + 1
  | .lit _ => 1
  | .nil => 1
  | .ptr d => uptoBulk d + 1
  | .slice elems spare => uptoBulkAll elems + uptoBulkAll spare + 1
  | .agg parts => uptoBulkAll parts + 1
  | .iface _ d => uptoBulk d + 1
  | .map entries => uptoBulkEntries entries + 1
  | .held _ => 1
def uptoBulkAll {H : Type} : List (DataW H) → Nat
  | [] => 0
  | d :: r => uptoBulk d + uptoBulkAll r
def uptoBulkEntries {H : Type} : List (Lit × DataW H) → Nat
  | [] => 0
  | x :: r => uptoBulkEntry x + uptoBulkEntries r
def uptoBulkEntry {H : Type} : Lit × DataW H → Nat
  | (.string bytes, d) => bytes.length + uptoBulk d + 1
  | (_, d) => uptoBulk d + 1
 end
def uptoSmall : (H : Type) → List (DataW H) → Bool := fun _ ds => decide (uptoBulkAll ds ≤ 1048576)
def OpenSpec.upto (s : _root_.Go.ChangeSpec) : _root_.Go.OpenSpec := { _root_.Go.OpenSpec.ofChange s with cond := some uptoSmall }

/-- 'interchangelaw1.AmountSumsAreExact', WHERE WHAT IT READS IS OF BULK AT MOST 1048576: true; the input reads as it did. -/
def amountSumsAreExactUptoRow : OpenClaim := { program := "ytoiahmmockgcbaa", sum := "5ea08698d2eedded74538b02f56cbea2e9368b4889e96e3555bfc06992eecea9", func := "interchange/interchangelaw1.AmountSumsAreExact", spec := "amountSumsAreExact", inPlace := ["internal/bytealg.IndexByteString", "internal/bytealg.IndexString"], named := ["internal/bytealg.MaxLen"], apart := false, narrowed := true }
def AmountSumsAreExactUptoSaid : Prop := amountSumsAreExactUptoRow.holds Try.pinned (OpenSpec.upto amountSumsAreExactSpec)

/-- 'interchangelaw1.AmountSumsMatchSpec', WHERE WHAT IT READS IS OF BULK AT MOST 1048576: true; the input reads as it did. -/
def amountSumsMatchSpecUptoRow : OpenClaim := { program := "ytoiahmmockgcbaa", sum := "5ea08698d2eedded74538b02f56cbea2e9368b4889e96e3555bfc06992eecea9", func := "interchange/interchangelaw1.AmountSumsMatchSpec", spec := "amountSumsMatchSpec", inPlace := ["internal/bytealg.IndexByteString", "internal/bytealg.IndexString"], named := ["internal/bytealg.MaxLen"], apart := false, narrowed := true }
def AmountSumsMatchSpecUptoSaid : Prop := amountSumsMatchSpecUptoRow.holds Try.pinned (OpenSpec.upto amountSumsMatchSpecSpec)

/-- 'interchangelaw1.AmountRoundsAreNear', WHERE WHAT IT READS IS OF BULK AT MOST 1048576: true; the input reads as it did. -/
def amountRoundsAreNearUptoRow : OpenClaim := { program := "ytoiahmmockgcbaa", sum := "5ea08698d2eedded74538b02f56cbea2e9368b4889e96e3555bfc06992eecea9", func := "interchange/interchangelaw1.AmountRoundsAreNear", spec := "amountRoundsAreNear", inPlace := ["internal/bytealg.IndexByteString", "internal/bytealg.IndexString"], named := ["internal/bytealg.MaxLen"], apart := false, narrowed := true }
def AmountRoundsAreNearUptoSaid : Prop := amountRoundsAreNearUptoRow.holds Try.pinned (OpenSpec.upto amountRoundsAreNearSpec)

/-- 'interchangelaw1.AmountRoundsMatchSpec', WHERE WHAT IT READS IS OF BULK AT MOST 1048576: true; the input reads as it did. -/
def amountRoundsMatchSpecUptoRow : OpenClaim := { program := "ytoiahmmockgcbaa", sum := "5ea08698d2eedded74538b02f56cbea2e9368b4889e96e3555bfc06992eecea9", func := "interchange/interchangelaw1.AmountRoundsMatchSpec", spec := "amountRoundsMatchSpec", inPlace := ["internal/bytealg.IndexByteString", "internal/bytealg.IndexString"], named := ["internal/bytealg.MaxLen"], apart := false, narrowed := true }
def AmountRoundsMatchSpecUptoSaid : Prop := amountRoundsMatchSpecUptoRow.holds Try.pinned (OpenSpec.upto amountRoundsMatchSpecSpec)

/-- 'interchangelaw1.AmountWorkDaysMatchSpec', WHERE WHAT IT READS IS OF BULK AT MOST 1048576: true; the input reads as it did. -/
def amountWorkDaysMatchSpecUptoRow : OpenClaim := { program := "ytoiahmmockgcbaa", sum := "5ea08698d2eedded74538b02f56cbea2e9368b4889e96e3555bfc06992eecea9", func := "interchange/interchangelaw1.AmountWorkDaysMatchSpec", spec := "amountWorkDaysMatchSpec", inPlace := ["internal/bytealg.IndexByteString", "internal/bytealg.IndexString"], named := ["internal/bytealg.MaxLen"], apart := false, narrowed := true }
def AmountWorkDaysMatchSpecUptoSaid : Prop := amountWorkDaysMatchSpecUptoRow.holds Try.pinned (OpenSpec.upto amountWorkDaysMatchSpecSpec)

/-- 'interchangelaw1.AmountWorkDaysAreCounted', WHERE WHAT IT READS IS OF BULK AT MOST 1048576: true; the input reads as it did. -/
def amountWorkDaysAreCountedUptoRow : OpenClaim := { program := "ytoiahmmockgcbaa", sum := "5ea08698d2eedded74538b02f56cbea2e9368b4889e96e3555bfc06992eecea9", func := "interchange/interchangelaw1.AmountWorkDaysAreCounted", spec := "amountWorkDaysAreCounted", inPlace := ["internal/bytealg.IndexByteString", "internal/bytealg.IndexString"], named := ["internal/bytealg.MaxLen"], apart := false, narrowed := true }
def AmountWorkDaysAreCountedUptoSaid : Prop := amountWorkDaysAreCountedUptoRow.holds Try.pinned (OpenSpec.upto amountWorkDaysAreCountedSpec)

/-- 'interchangelaw1.AmountSharesAddUp', WHERE WHAT IT READS IS OF BULK AT MOST 1048576: true; the input reads as it did. -/
def amountSharesAddUpUptoRow : OpenClaim := { program := "ytoiahmmockgcbaa", sum := "5ea08698d2eedded74538b02f56cbea2e9368b4889e96e3555bfc06992eecea9", func := "interchange/interchangelaw1.AmountSharesAddUp", spec := "amountSharesAddUp", inPlace := ["internal/bytealg.IndexByteString", "internal/bytealg.IndexString"], unfollowed := true, recurses := true, named := ["internal/bytealg.MaxLen"], apart := false, narrowed := true }
def AmountSharesAddUpUptoSaid : Prop := amountSharesAddUpUptoRow.holds Try.pinned (OpenSpec.upto amountSharesAddUpSpec)

/-- 'interchangelaw1.AmountSharesMatchSpec', WHERE WHAT IT READS IS OF BULK AT MOST 1048576: true; the input reads as it did. -/
def amountSharesMatchSpecUptoRow : OpenClaim := { program := "ytoiahmmockgcbaa", sum := "5ea08698d2eedded74538b02f56cbea2e9368b4889e96e3555bfc06992eecea9", func := "interchange/interchangelaw1.AmountSharesMatchSpec", spec := "amountSharesMatchSpec", inPlace := ["internal/bytealg.IndexByteString", "internal/bytealg.IndexString"], unfollowed := true, recurses := true, named := ["internal/bytealg.MaxLen"], apart := false, narrowed := true }
def AmountSharesMatchSpecUptoSaid : Prop := amountSharesMatchSpecUptoRow.holds Try.pinned (OpenSpec.upto amountSharesMatchSpecSpec)

end Rows
end Go.Proofs.Ytoiahmmockgcbaa
