/-
  DERIVED. GIVEN WITH THE SEED: THE CARDS: each row of YtognnibmcifjeaaGreatDoorRows.lean that lists a variable, with what it lists TIED to the program's text (the seventh form; the later family's looks); each row that meets fmt, with fmt's text TOLD by the authors' own Lean function (tested against real Go, not proved from fmt's source: count such statements apart). THE CARD IS WHAT COUNTS. Prove the row's statement (the work); the ties are given (YtognnibmcifjeaaGreatDoorTie.lean); close each card by the builder's one call (the guide's Derived/Test/ToyasCard.lean, 'card_holds'). Laid BY PROGRAM, IN A SANDBOX (cutbox-door.mjs). By AI agents, Wed Nov 11 2026. No macro, syntax, notation, axiom, sorry.
-/
import Derived.Test.YtognnibmcifjeaaGreatDoorRows
import GoSem.ClaimSeven
namespace Go.Proofs.YtognnibmcifjeaaGreatDoor
namespace Rows

/-- THE TIED CARD OF 'interchangelaw1.AmountDayReadsMatchSpec'. -/
def amountDayReadsMatchSpecCard : Claim7 := { stood := { row := amountDayReadsMatchSpecRow, standIns := [], harness := (true, "ec5f4325676aaf43dd698eff0ec7425770892df23b60f875638b04eca4b5ea99"), looks := true }, kinds := [], alts := [], laidByText := true, laidKinds := [.data, .data, .data, .data, .sentinel, .sentinel, .pinned], laidTests := true, laidLooks := .later }
def AmountDayReadsMatchSpecCardSaid : Prop := Claim7.holds Tryz.pinned (.plain (OpenSpec.ofChange amountDayReadsMatchSpecSpec)) amountDayReadsMatchSpecCard

/-- THE SECOND FORM's CARD OF 'interchangelaw1.AmountDayReadsMatchSpec'. -/
def amountDayReadsMatchSpecUptoCard : Claim7 := { stood := { row := amountDayReadsMatchSpecUptoRow, standIns := [], harness := (true, "ec5f4325676aaf43dd698eff0ec7425770892df23b60f875638b04eca4b5ea99"), looks := true }, kinds := [], alts := [], laidByText := true, laidKinds := [.data, .data, .data, .data, .sentinel, .sentinel, .pinned], laidTests := true, laidLooks := .later }
def AmountDayReadsMatchSpecUptoCardSaid : Prop := Claim7.holds Tryz.pinned (.plain (OpenSpec.upto amountDayReadsMatchSpecSpec)) amountDayReadsMatchSpecUptoCard
end Rows
end Go.Proofs.YtognnibmcifjeaaGreatDoor
