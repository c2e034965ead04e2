/-
  DERIVED. GIVEN WITH THE SEED: THE CARDS: each row of YtegiadfbniamkaaGreatDoorRows.lean that lists a variable, with what it lists TIED to the program's text (the seventh form; the later family's looks); each row that meets fmt, with fmt's text TOLD by the authors' own Lean function (tested against real Go, not proved from fmt's source: count such statements apart). THE CARD IS WHAT COUNTS. Prove the row's statement (the work); the ties are given (YtegiadfbniamkaaGreatDoorTie.lean); close each card by the builder's one call (the guide's Derived/Test/ToyasCard.lean, 'card_holds'). Laid BY PROGRAM, IN A SANDBOX (cutbox-door.mjs). By AI agents, Wed Nov 11 2026. No macro, syntax, notation, axiom, sorry.
-/
import Derived.Test.YtegiadfbniamkaaGreatDoorRows
import GoSem.ClaimSeven
namespace Go.Proofs.YtegiadfbniamkaaGreatDoor
namespace Rows

/-- THE TIED CARD OF 'interchangelaw1.AmountUnitsMatchSpec'. -/
def amountUnitsMatchSpecCard : Claim7 := { stood := { row := amountUnitsMatchSpecRow, standIns := [], harness := (true, "781ada627f7a50c6fbe05bd6da77468741bb9c6037e976d4640209e25862e87e"), looks := true }, kinds := [], alts := [], laidByText := true, laidKinds := [.data, .pinned], laidTests := true, laidLooks := .later }
def AmountUnitsMatchSpecCardSaid : Prop := Claim7.holds Tryz.pinned (.plain (OpenSpec.ofChange amountUnitsMatchSpecSpec)) amountUnitsMatchSpecCard

/-- THE TIED CARD OF 'interchangelaw1.AmountNumbersMatchSpec'. -/
def amountNumbersMatchSpecCard : Claim7 := { stood := { row := amountNumbersMatchSpecRow, standIns := [], harness := (true, "781ada627f7a50c6fbe05bd6da77468741bb9c6037e976d4640209e25862e87e"), looks := true }, kinds := [], alts := [], laidByText := true, laidKinds := [.data, .data, .data, .data, .pinned], laidTests := true, laidLooks := .later }
def AmountNumbersMatchSpecCardSaid : Prop := Claim7.holds Tryz.pinned (.plain (OpenSpec.ofChange amountNumbersMatchSpecSpec)) amountNumbersMatchSpecCard

/-- THE TIED CARD OF 'interchangelaw1.AmountDayReadsMatchSpec'. -/
def amountDayReadsMatchSpecCard : Claim7 := { stood := { row := amountDayReadsMatchSpecRow, standIns := [], harness := (true, "781ada627f7a50c6fbe05bd6da77468741bb9c6037e976d4640209e25862e87e"), looks := true }, kinds := [], alts := [], laidByText := true, laidKinds := [.data, .data, .data, .data, .sentinel, .sentinel, .pinned], laidTests := true, laidLooks := .later }
def AmountDayReadsMatchSpecCardSaid : Prop := Claim7.holds Tryz.pinned (.plain (OpenSpec.ofChange amountDayReadsMatchSpecSpec)) amountDayReadsMatchSpecCard

/-- THE TIED CARD OF 'interchangelaw1.AmountDaysComeBack'. -/
def amountDaysComeBackCard : Claim7 := { stood := { row := amountDaysComeBackRow, standIns := [], harness := (true, "781ada627f7a50c6fbe05bd6da77468741bb9c6037e976d4640209e25862e87e"), looks := true }, kinds := [], alts := [], laidByText := true, laidKinds := [.data, .data, .data, .data, .sentinel, .sentinel, .pinned], laidTests := true, laidLooks := .later }
def AmountDaysComeBackCardSaid : Prop := Claim7.holds Tryz.pinned (.plain (OpenSpec.ofChange amountDaysComeBackSpec)) amountDaysComeBackCard

/-- THE TIED CARD OF 'interchangelaw1.AmountKeepsArguments'. -/
def amountKeepsArgumentsCard : Claim7 := { stood := { row := amountKeepsArgumentsRow, standIns := [], harness := (true, "781ada627f7a50c6fbe05bd6da77468741bb9c6037e976d4640209e25862e87e"), looks := true }, kinds := [], alts := [], laidByText := true, laidKinds := [.data, .data, .data, .data, .pinned], laidTests := true, laidLooks := .later }
def AmountKeepsArgumentsCardSaid : Prop := Claim7.holds Tryz.pinned (.plain (OpenSpec.ofChange amountKeepsArgumentsSpec)) amountKeepsArgumentsCard

/-- THE SECOND FORM's CARD OF 'interchangelaw1.AmountUnitsMatchSpec'. -/
def amountUnitsMatchSpecUptoCard : Claim7 := { stood := { row := amountUnitsMatchSpecUptoRow, standIns := [], harness := (true, "781ada627f7a50c6fbe05bd6da77468741bb9c6037e976d4640209e25862e87e"), looks := true }, kinds := [], alts := [], laidByText := true, laidKinds := [.data, .pinned], laidTests := true, laidLooks := .later }
def AmountUnitsMatchSpecUptoCardSaid : Prop := Claim7.holds Tryz.pinned (.plain (OpenSpec.upto amountUnitsMatchSpecSpec)) amountUnitsMatchSpecUptoCard

/-- THE SECOND FORM's CARD OF 'interchangelaw1.AmountNumbersMatchSpec'. -/
def amountNumbersMatchSpecUptoCard : Claim7 := { stood := { row := amountNumbersMatchSpecUptoRow, standIns := [], harness := (true, "781ada627f7a50c6fbe05bd6da77468741bb9c6037e976d4640209e25862e87e"), looks := true }, kinds := [], alts := [], laidByText := true, laidKinds := [.data, .data, .data, .data, .pinned], laidTests := true, laidLooks := .later }
def AmountNumbersMatchSpecUptoCardSaid : Prop := Claim7.holds Tryz.pinned (.plain (OpenSpec.upto amountNumbersMatchSpecSpec)) amountNumbersMatchSpecUptoCard

/-- THE SECOND FORM's CARD OF 'interchangelaw1.AmountDayReadsMatchSpec'. -/
def amountDayReadsMatchSpecUptoCard : Claim7 := { stood := { row := amountDayReadsMatchSpecUptoRow, standIns := [], harness := (true, "781ada627f7a50c6fbe05bd6da77468741bb9c6037e976d4640209e25862e87e"), looks := true }, kinds := [], alts := [], laidByText := true, laidKinds := [.data, .data, .data, .data, .sentinel, .sentinel, .pinned], laidTests := true, laidLooks := .later }
def AmountDayReadsMatchSpecUptoCardSaid : Prop := Claim7.holds Tryz.pinned (.plain (OpenSpec.upto amountDayReadsMatchSpecSpec)) amountDayReadsMatchSpecUptoCard

/-- THE SECOND FORM's CARD OF 'interchangelaw1.AmountDaysComeBack'. -/
def amountDaysComeBackUptoCard : Claim7 := { stood := { row := amountDaysComeBackUptoRow, standIns := [], harness := (true, "781ada627f7a50c6fbe05bd6da77468741bb9c6037e976d4640209e25862e87e"), looks := true }, kinds := [], alts := [], laidByText := true, laidKinds := [.data, .data, .data, .data, .sentinel, .sentinel, .pinned], laidTests := true, laidLooks := .later }
def AmountDaysComeBackUptoCardSaid : Prop := Claim7.holds Tryz.pinned (.plain (OpenSpec.upto amountDaysComeBackSpec)) amountDaysComeBackUptoCard

/-- THE SECOND FORM's CARD OF 'interchangelaw1.AmountKeepsArguments'. -/
def amountKeepsArgumentsUptoCard : Claim7 := { stood := { row := amountKeepsArgumentsUptoRow, standIns := [], harness := (true, "781ada627f7a50c6fbe05bd6da77468741bb9c6037e976d4640209e25862e87e"), looks := true }, kinds := [], alts := [], laidByText := true, laidKinds := [.data, .data, .data, .data, .pinned], laidTests := true, laidLooks := .later }
def AmountKeepsArgumentsUptoCardSaid : Prop := Claim7.holds Tryz.pinned (.plain (OpenSpec.upto amountKeepsArgumentsSpec)) amountKeepsArgumentsUptoCard
end Rows
end Go.Proofs.YtegiadfbniamkaaGreatDoor
