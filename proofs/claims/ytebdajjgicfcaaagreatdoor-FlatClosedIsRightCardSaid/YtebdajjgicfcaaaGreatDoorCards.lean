/-
  DERIVED. GIVEN WITH THE SEED: THE CARDS: each row of YtebdajjgicfcaaaGreatDoorRows.lean that lists a variable, with what it lists TIED to the program's text (the seventh form; the later family's looks); each row that meets fmt, with fmt's text TOLD by the authors' own Lean function (tested against real Go, not proved from fmt's source: count such statements apart). THE CARD IS WHAT COUNTS. Prove the row's statement (the work); the ties are given (YtebdajjgicfcaaaGreatDoorTie.lean); close each card by the builder's one call (the guide's Derived/Test/ToyasCard.lean, 'card_holds'). Laid BY PROGRAM, IN A SANDBOX (cutbox-door.mjs). By AI agents, Wed Nov 11 2026. No macro, syntax, notation, axiom, sorry.
-/
import Derived.Test.YtebdajjgicfcaaaGreatDoorRows
import GoSem.ClaimSeven
namespace Go.Proofs.YtebdajjgicfcaaaGreatDoor
namespace Rows

/-- THE TIED CARD OF 'interchangelaw6.FlatLineReadsMatchSpec'. -/
def flatLineReadsMatchSpecCard : Claim7 := { stood := { row := flatLineReadsMatchSpecRow, standIns := [], harness := (true, "2884e46597e3b282f049f51c8122232ec0ce955f391a8ad2319c2d5e198ecc83"), looks := true }, kinds := [], alts := [], laidByText := true, laidKinds := [.data, .data, .data, .data, .sentinel, .sentinel, .pinned], laidTests := true, laidLooks := .later }
def FlatLineReadsMatchSpecCardSaid : Prop := Claim7.holds Tryz.pinned (.plain (OpenSpec.ofChange flatLineReadsMatchSpecSpec)) flatLineReadsMatchSpecCard

/-- THE TIED CARD OF 'interchangelaw6.FlatLinesComeBack'. -/
def flatLinesComeBackCard : Claim7 := { stood := { row := flatLinesComeBackRow, standIns := [], harness := (true, "2884e46597e3b282f049f51c8122232ec0ce955f391a8ad2319c2d5e198ecc83"), looks := true }, kinds := [], alts := [], laidByText := true, laidKinds := [.data, .data, .data, .data, .sentinel, .sentinel, .pinned], laidTests := true, laidLooks := .later }
def FlatLinesComeBackCardSaid : Prop := Claim7.holds Tryz.pinned (.plain (OpenSpec.ofChange flatLinesComeBackSpec)) flatLinesComeBackCard

/-- THE TIED CARD OF 'interchangelaw6.FlatClosedIsRight'. -/
def flatClosedIsRightCard : Claim7 := { stood := { row := flatClosedIsRightRow, standIns := [], harness := (true, "2884e46597e3b282f049f51c8122232ec0ce955f391a8ad2319c2d5e198ecc83"), looks := true }, kinds := [], alts := [], laidByText := true, laidKinds := [.data, .data, .data, .data, .sentinel, .sentinel, .pinned], laidTests := true, laidLooks := .later }
def FlatClosedIsRightCardSaid : Prop := Claim7.holds Tryz.pinned (.plain (OpenSpec.ofChange flatClosedIsRightSpec)) flatClosedIsRightCard

/-- THE TIED CARD OF 'interchangelaw6.FlatFilesMatchSpec'. -/
def flatFilesMatchSpecCard : Claim7 := { stood := { row := flatFilesMatchSpecRow, standIns := [], harness := (true, "2884e46597e3b282f049f51c8122232ec0ce955f391a8ad2319c2d5e198ecc83"), looks := true }, kinds := [], alts := [], laidByText := true, laidKinds := [.data, .data, .data, .data, .sentinel, .sentinel, .pinned], laidTests := true, laidLooks := .later }
def FlatFilesMatchSpecCardSaid : Prop := Claim7.holds Tryz.pinned (.plain (OpenSpec.ofChange flatFilesMatchSpecSpec)) flatFilesMatchSpecCard

/-- THE SECOND FORM's CARD OF 'interchangelaw6.FlatLineReadsMatchSpec'. -/
def flatLineReadsMatchSpecUptoCard : Claim7 := { stood := { row := flatLineReadsMatchSpecUptoRow, standIns := [], harness := (true, "2884e46597e3b282f049f51c8122232ec0ce955f391a8ad2319c2d5e198ecc83"), looks := true }, kinds := [], alts := [], laidByText := true, laidKinds := [.data, .data, .data, .data, .sentinel, .sentinel, .pinned], laidTests := true, laidLooks := .later }
def FlatLineReadsMatchSpecUptoCardSaid : Prop := Claim7.holds Tryz.pinned (.plain (OpenSpec.upto flatLineReadsMatchSpecSpec)) flatLineReadsMatchSpecUptoCard

/-- THE SECOND FORM's CARD OF 'interchangelaw6.FlatLinesComeBack'. -/
def flatLinesComeBackUptoCard : Claim7 := { stood := { row := flatLinesComeBackUptoRow, standIns := [], harness := (true, "2884e46597e3b282f049f51c8122232ec0ce955f391a8ad2319c2d5e198ecc83"), looks := true }, kinds := [], alts := [], laidByText := true, laidKinds := [.data, .data, .data, .data, .sentinel, .sentinel, .pinned], laidTests := true, laidLooks := .later }
def FlatLinesComeBackUptoCardSaid : Prop := Claim7.holds Tryz.pinned (.plain (OpenSpec.upto flatLinesComeBackSpec)) flatLinesComeBackUptoCard

/-- THE SECOND FORM's CARD OF 'interchangelaw6.FlatClosedIsRight'. -/
def flatClosedIsRightUptoCard : Claim7 := { stood := { row := flatClosedIsRightUptoRow, standIns := [], harness := (true, "2884e46597e3b282f049f51c8122232ec0ce955f391a8ad2319c2d5e198ecc83"), looks := true }, kinds := [], alts := [], laidByText := true, laidKinds := [.data, .data, .data, .data, .sentinel, .sentinel, .pinned], laidTests := true, laidLooks := .later }
def FlatClosedIsRightUptoCardSaid : Prop := Claim7.holds Tryz.pinned (.plain (OpenSpec.upto flatClosedIsRightSpec)) flatClosedIsRightUptoCard

/-- THE SECOND FORM's CARD OF 'interchangelaw6.FlatFilesMatchSpec'. -/
def flatFilesMatchSpecUptoCard : Claim7 := { stood := { row := flatFilesMatchSpecUptoRow, standIns := [], harness := (true, "2884e46597e3b282f049f51c8122232ec0ce955f391a8ad2319c2d5e198ecc83"), looks := true }, kinds := [], alts := [], laidByText := true, laidKinds := [.data, .data, .data, .data, .sentinel, .sentinel, .pinned], laidTests := true, laidLooks := .later }
def FlatFilesMatchSpecUptoCardSaid : Prop := Claim7.holds Tryz.pinned (.plain (OpenSpec.upto flatFilesMatchSpecSpec)) flatFilesMatchSpecUptoCard
end Rows
end Go.Proofs.YtebdajjgicfcaaaGreatDoor
