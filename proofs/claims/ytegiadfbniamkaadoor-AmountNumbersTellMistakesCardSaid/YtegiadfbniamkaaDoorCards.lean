/-
  DERIVED. GIVEN WITH THE SEED: THE CARDS: each row of YtegiadfbniamkaaDoorRows.lean that lists a variable, with what it lists TIED to the program's text (the seventh form; the later family's looks); each row that meets fmt, with fmt's text TOLD by the authors' own Lean function (tested against real Go, not proved from fmt's source: count such statements apart). THE CARD IS WHAT COUNTS. Prove the row's statement (the work); the ties are given (YtegiadfbniamkaaDoorTie.lean); close each card by the builder's one call (the guide's Derived/Test/ToyasCard.lean, 'card_holds'). Laid BY PROGRAM, IN A SANDBOX (cutbox-door.mjs). By AI agents, Wed Nov 11 2026. No macro, syntax, notation, axiom, sorry.
-/
import Derived.Test.YtegiadfbniamkaaDoorRows
import GoSem.ClaimSeven
namespace Go.Proofs.YtegiadfbniamkaaDoor
namespace Rows

/-- THE TIED CARD OF 'interchangelaw1.AmountFactorsTurn'. -/
def amountFactorsTurnCard : Claim7 := { stood := { row := amountFactorsTurnRow, standIns := [], harness := (true, "436469bbf6ecc7631bceb7a8bfa7d77c33cfa9bd2aa97cd324ae332d1bb106c1"), looks := false }, kinds := [], alts := [], laidByText := true, laidKinds := [.data, .pinned], laidTests := true, laidLooks := .later }
def AmountFactorsTurnCardSaid : Prop := Claim7.holds Tryd.pinned (.plain (OpenSpec.ofChange amountFactorsTurnSpec)) amountFactorsTurnCard

/-- THE TIED CARD OF 'interchangelaw1.AmountDaysMatchSpec'. -/
def amountDaysMatchSpecCard : Claim7 := { stood := { row := amountDaysMatchSpecRow, standIns := [], harness := (true, "436469bbf6ecc7631bceb7a8bfa7d77c33cfa9bd2aa97cd324ae332d1bb106c1"), looks := false }, kinds := [], alts := [], laidByText := true, laidKinds := [.data, .data, .data], laidTests := true, laidLooks := .later }
def AmountDaysMatchSpecCardSaid : Prop := Claim7.holds Tryd.pinned (.plain (OpenSpec.ofChange amountDaysMatchSpecSpec)) amountDaysMatchSpecCard

/-- THE TIED CARD OF 'interchangelaw1.AmountTextsComeBack'. -/
def amountTextsComeBackCard : Claim7 := { stood := { row := amountTextsComeBackRow, standIns := [], harness := (true, "436469bbf6ecc7631bceb7a8bfa7d77c33cfa9bd2aa97cd324ae332d1bb106c1"), looks := false }, kinds := [], alts := [], laidByText := true, laidKinds := [.data, .pinned], laidTests := true, laidLooks := .later }
def AmountTextsComeBackCardSaid : Prop := Claim7.holds Tryd.pinned (.plain (OpenSpec.ofChange amountTextsComeBackSpec)) amountTextsComeBackCard

/-- THE TIED CARD OF 'interchangelaw1.AmountReadsMatchSpec'. -/
def amountReadsMatchSpecCard : Claim7 := { stood := { row := amountReadsMatchSpecRow, standIns := [], harness := (true, "436469bbf6ecc7631bceb7a8bfa7d77c33cfa9bd2aa97cd324ae332d1bb106c1"), looks := false }, kinds := [], alts := [], laidByText := true, laidKinds := [.data, .pinned], laidTests := true, laidLooks := .later }
def AmountReadsMatchSpecCardSaid : Prop := Claim7.holds Tryd.pinned (.plain (OpenSpec.ofChange amountReadsMatchSpecSpec)) amountReadsMatchSpecCard

/-- THE TIED CARD OF 'interchangelaw1.AmountTextsMatchSpec'. -/
def amountTextsMatchSpecCard : Claim7 := { stood := { row := amountTextsMatchSpecRow, standIns := [], harness := (true, "436469bbf6ecc7631bceb7a8bfa7d77c33cfa9bd2aa97cd324ae332d1bb106c1"), looks := false }, kinds := [], alts := [], laidByText := true, laidKinds := [.data, .data, .data], laidTests := true, laidLooks := .later }
def AmountTextsMatchSpecCardSaid : Prop := Claim7.holds Tryd.pinned (.plain (OpenSpec.ofChange amountTextsMatchSpecSpec)) amountTextsMatchSpecCard

/-- THE TIED CARD OF 'interchangelaw1.AmountNumbersTellMistakes'. -/
def amountNumbersTellMistakesCard : Claim7 := { stood := { row := amountNumbersTellMistakesRow, standIns := [], harness := (true, "436469bbf6ecc7631bceb7a8bfa7d77c33cfa9bd2aa97cd324ae332d1bb106c1"), looks := false }, kinds := [], alts := [], laidByText := true, laidKinds := [.data, .data, .data, .data, .pinned], laidTests := true, laidLooks := .later }
def AmountNumbersTellMistakesCardSaid : Prop := Claim7.holds Tryd.pinned (.plain (OpenSpec.ofChange amountNumbersTellMistakesSpec)) amountNumbersTellMistakesCard

/-- THE SECOND FORM's CARD OF 'interchangelaw1.AmountFactorsTurn'. -/
def amountFactorsTurnUptoCard : Claim7 := { stood := { row := amountFactorsTurnUptoRow, standIns := [], harness := (true, "436469bbf6ecc7631bceb7a8bfa7d77c33cfa9bd2aa97cd324ae332d1bb106c1"), looks := false }, kinds := [], alts := [], laidByText := true, laidKinds := [.data, .pinned], laidTests := true, laidLooks := .later }
def AmountFactorsTurnUptoCardSaid : Prop := Claim7.holds Tryd.pinned (.plain (OpenSpec.upto amountFactorsTurnSpec)) amountFactorsTurnUptoCard

/-- THE SECOND FORM's CARD OF 'interchangelaw1.AmountDaysMatchSpec'. -/
def amountDaysMatchSpecUptoCard : Claim7 := { stood := { row := amountDaysMatchSpecUptoRow, standIns := [], harness := (true, "436469bbf6ecc7631bceb7a8bfa7d77c33cfa9bd2aa97cd324ae332d1bb106c1"), looks := false }, kinds := [], alts := [], laidByText := true, laidKinds := [.data, .data, .data], laidTests := true, laidLooks := .later }
def AmountDaysMatchSpecUptoCardSaid : Prop := Claim7.holds Tryd.pinned (.plain (OpenSpec.upto amountDaysMatchSpecSpec)) amountDaysMatchSpecUptoCard

/-- THE SECOND FORM's CARD OF 'interchangelaw1.AmountTextsComeBack'. -/
def amountTextsComeBackUptoCard : Claim7 := { stood := { row := amountTextsComeBackUptoRow, standIns := [], harness := (true, "436469bbf6ecc7631bceb7a8bfa7d77c33cfa9bd2aa97cd324ae332d1bb106c1"), looks := false }, kinds := [], alts := [], laidByText := true, laidKinds := [.data, .pinned], laidTests := true, laidLooks := .later }
def AmountTextsComeBackUptoCardSaid : Prop := Claim7.holds Tryd.pinned (.plain (OpenSpec.upto amountTextsComeBackSpec)) amountTextsComeBackUptoCard

/-- THE SECOND FORM's CARD OF 'interchangelaw1.AmountReadsMatchSpec'. -/
def amountReadsMatchSpecUptoCard : Claim7 := { stood := { row := amountReadsMatchSpecUptoRow, standIns := [], harness := (true, "436469bbf6ecc7631bceb7a8bfa7d77c33cfa9bd2aa97cd324ae332d1bb106c1"), looks := false }, kinds := [], alts := [], laidByText := true, laidKinds := [.data, .pinned], laidTests := true, laidLooks := .later }
def AmountReadsMatchSpecUptoCardSaid : Prop := Claim7.holds Tryd.pinned (.plain (OpenSpec.upto amountReadsMatchSpecSpec)) amountReadsMatchSpecUptoCard

/-- THE SECOND FORM's CARD OF 'interchangelaw1.AmountTextsMatchSpec'. -/
def amountTextsMatchSpecUptoCard : Claim7 := { stood := { row := amountTextsMatchSpecUptoRow, standIns := [], harness := (true, "436469bbf6ecc7631bceb7a8bfa7d77c33cfa9bd2aa97cd324ae332d1bb106c1"), looks := false }, kinds := [], alts := [], laidByText := true, laidKinds := [.data, .data, .data], laidTests := true, laidLooks := .later }
def AmountTextsMatchSpecUptoCardSaid : Prop := Claim7.holds Tryd.pinned (.plain (OpenSpec.upto amountTextsMatchSpecSpec)) amountTextsMatchSpecUptoCard

/-- THE SECOND FORM's CARD OF 'interchangelaw1.AmountNumbersTellMistakes'. -/
def amountNumbersTellMistakesUptoCard : Claim7 := { stood := { row := amountNumbersTellMistakesUptoRow, standIns := [], harness := (true, "436469bbf6ecc7631bceb7a8bfa7d77c33cfa9bd2aa97cd324ae332d1bb106c1"), looks := false }, kinds := [], alts := [], laidByText := true, laidKinds := [.data, .data, .data, .data, .pinned], laidTests := true, laidLooks := .later }
def AmountNumbersTellMistakesUptoCardSaid : Prop := Claim7.holds Tryd.pinned (.plain (OpenSpec.upto amountNumbersTellMistakesSpec)) amountNumbersTellMistakesUptoCard
end Rows
end Go.Proofs.YtegiadfbniamkaaDoor
