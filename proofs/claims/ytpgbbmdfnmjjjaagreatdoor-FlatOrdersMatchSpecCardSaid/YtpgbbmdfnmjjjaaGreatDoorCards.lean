/-
  DERIVED. GIVEN WITH THE SEED: THE CARDS: each row of YtpgbbmdfnmjjjaaGreatDoorRows.lean that lists a variable, with what it lists TIED to the program's text (the seventh form; the later family's looks); each row that meets fmt, with fmt's text TOLD by the authors' own Lean function (tested against real Go, not proved from fmt's source: count such statements apart). THE CARD IS WHAT COUNTS. Prove the row's statement (the work); the ties are given (YtpgbbmdfnmjjjaaGreatDoorTie.lean); close each card by the builder's one call (the guide's Derived/Test/ToyasCard.lean, 'card_holds'). Laid BY PROGRAM, IN A SANDBOX (cutbox-door.mjs). By AI agents, Wed Nov 11 2026. No macro, syntax, notation, axiom, sorry.
-/
import Derived.Test.YtpgbbmdfnmjjjaaGreatDoorRows
import GoSem.ClaimSeven
namespace Go.Proofs.YtpgbbmdfnmjjjaaGreatDoor
namespace Rows

/-- THE TIED CARD OF 'interchangelaw6.FlatLinesMatchSpec'. -/
def flatLinesMatchSpecCard : Claim7 := { stood := { row := flatLinesMatchSpecRow, standIns := [], harness := (true, "99dab85fa8b56a09103852035ee78ae5cd7f95ffcc0bfed2a2416c092b809ea6"), looks := true }, kinds := [], alts := [], laidByText := true, laidKinds := [.data, .data, .data, .data, .sentinel, .sentinel, .pinned], laidTests := true, laidLooks := .later }
def FlatLinesMatchSpecCardSaid : Prop := Claim7.holds Tryz.pinned (.plain (OpenSpec.ofChange flatLinesMatchSpecSpec)) flatLinesMatchSpecCard

/-- THE TIED CARD OF 'interchangelaw6.FlatTurnsMatchSpec'. -/
def flatTurnsMatchSpecCard : Claim7 := { stood := { row := flatTurnsMatchSpecRow, standIns := [], harness := (true, "99dab85fa8b56a09103852035ee78ae5cd7f95ffcc0bfed2a2416c092b809ea6"), looks := true }, kinds := [], alts := [], laidByText := true, laidKinds := [.data, .data, .data, .data, .sentinel, .sentinel, .pinned], laidTests := true, laidLooks := .later }
def FlatTurnsMatchSpecCardSaid : Prop := Claim7.holds Tryz.pinned (.plain (OpenSpec.ofChange flatTurnsMatchSpecSpec)) flatTurnsMatchSpecCard

/-- THE TIED CARD OF 'interchangelaw6.FlatOrdersMatchSpec'. -/
def flatOrdersMatchSpecCard : Claim7 := { stood := { row := flatOrdersMatchSpecRow, standIns := [], harness := (true, "99dab85fa8b56a09103852035ee78ae5cd7f95ffcc0bfed2a2416c092b809ea6"), looks := true }, kinds := [], alts := [], laidByText := true, laidKinds := [.data, .data, .data, .data, .sentinel, .sentinel, .pinned], laidTests := true, laidLooks := .later }
def FlatOrdersMatchSpecCardSaid : Prop := Claim7.holds Tryz.pinned (.plain (OpenSpec.ofChange flatOrdersMatchSpecSpec)) flatOrdersMatchSpecCard

/-- THE SECOND FORM's CARD OF 'interchangelaw6.FlatLinesMatchSpec'. -/
def flatLinesMatchSpecUptoCard : Claim7 := { stood := { row := flatLinesMatchSpecUptoRow, standIns := [], harness := (true, "99dab85fa8b56a09103852035ee78ae5cd7f95ffcc0bfed2a2416c092b809ea6"), looks := true }, kinds := [], alts := [], laidByText := true, laidKinds := [.data, .data, .data, .data, .sentinel, .sentinel, .pinned], laidTests := true, laidLooks := .later }
def FlatLinesMatchSpecUptoCardSaid : Prop := Claim7.holds Tryz.pinned (.plain (OpenSpec.upto flatLinesMatchSpecSpec)) flatLinesMatchSpecUptoCard

/-- THE SECOND FORM's CARD OF 'interchangelaw6.FlatTurnsMatchSpec'. -/
def flatTurnsMatchSpecUptoCard : Claim7 := { stood := { row := flatTurnsMatchSpecUptoRow, standIns := [], harness := (true, "99dab85fa8b56a09103852035ee78ae5cd7f95ffcc0bfed2a2416c092b809ea6"), looks := true }, kinds := [], alts := [], laidByText := true, laidKinds := [.data, .data, .data, .data, .sentinel, .sentinel, .pinned], laidTests := true, laidLooks := .later }
def FlatTurnsMatchSpecUptoCardSaid : Prop := Claim7.holds Tryz.pinned (.plain (OpenSpec.upto flatTurnsMatchSpecSpec)) flatTurnsMatchSpecUptoCard

/-- THE SECOND FORM's CARD OF 'interchangelaw6.FlatOrdersMatchSpec'. -/
def flatOrdersMatchSpecUptoCard : Claim7 := { stood := { row := flatOrdersMatchSpecUptoRow, standIns := [], harness := (true, "99dab85fa8b56a09103852035ee78ae5cd7f95ffcc0bfed2a2416c092b809ea6"), looks := true }, kinds := [], alts := [], laidByText := true, laidKinds := [.data, .data, .data, .data, .sentinel, .sentinel, .pinned], laidTests := true, laidLooks := .later }
def FlatOrdersMatchSpecUptoCardSaid : Prop := Claim7.holds Tryz.pinned (.plain (OpenSpec.upto flatOrdersMatchSpecSpec)) flatOrdersMatchSpecUptoCard
end Rows
end Go.Proofs.YtpgbbmdfnmjjjaaGreatDoor
