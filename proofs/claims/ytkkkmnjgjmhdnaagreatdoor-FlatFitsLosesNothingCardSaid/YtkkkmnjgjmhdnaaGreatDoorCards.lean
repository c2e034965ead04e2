/-
  DERIVED. GIVEN WITH THE SEED: THE CARDS: each row of YtkkkmnjgjmhdnaaGreatDoorRows.lean that lists a variable, with what it lists TIED to the program's text (the seventh form; the later family's looks); each row that meets fmt, with fmt's text TOLD by the authors' own Lean function (tested against real Go, not proved from fmt's source: count such statements apart). THE CARD IS WHAT COUNTS. Prove the row's statement (the work); the ties are given (YtkkkmnjgjmhdnaaGreatDoorTie.lean); close each card by the builder's one call (the guide's Derived/Test/ToyasCard.lean, 'card_holds'). Laid BY PROGRAM, IN A SANDBOX (cutbox-door.mjs). By AI agents, Wed Nov 11 2026. No macro, syntax, notation, axiom, sorry.
-/
import Derived.Test.YtkkkmnjgjmhdnaaGreatDoorRows
import GoSem.ClaimSeven
namespace Go.Proofs.YtkkkmnjgjmhdnaaGreatDoor
namespace Rows

/-- THE TIED CARD OF 'interchangelaw6.FlatColumnsMatchSpec'. -/
def flatColumnsMatchSpecCard : Claim7 := { stood := { row := flatColumnsMatchSpecRow, standIns := [], harness := (true, "b4b35fe2ca74b869004d353753018f13566687d65ddd8470f02ec558e8bd53e7"), looks := true }, kinds := [], alts := [], laidByText := true, laidKinds := [.data, .data, .data, .data, .sentinel, .sentinel, .pinned], laidTests := true, laidLooks := .later }
def FlatColumnsMatchSpecCardSaid : Prop := Claim7.holds Tryz.pinned (.plain (OpenSpec.ofChange flatColumnsMatchSpecSpec)) flatColumnsMatchSpecCard

/-- THE TIED CARD OF 'interchangelaw6.FlatFitsLosesNothing'. -/
def flatFitsLosesNothingCard : Claim7 := { stood := { row := flatFitsLosesNothingRow, standIns := [], harness := (true, "b4b35fe2ca74b869004d353753018f13566687d65ddd8470f02ec558e8bd53e7"), looks := true }, kinds := [], alts := [], laidByText := true, laidKinds := [.data, .data, .data, .data, .sentinel, .sentinel, .pinned], laidTests := true, laidLooks := .later }
def FlatFitsLosesNothingCardSaid : Prop := Claim7.holds Tryz.pinned (.plain (OpenSpec.ofChange flatFitsLosesNothingSpec)) flatFitsLosesNothingCard

/-- THE TIED CARD OF 'interchangelaw6.FlatTurnedToItselfStays'. -/
def flatTurnedToItselfStaysCard : Claim7 := { stood := { row := flatTurnedToItselfStaysRow, standIns := [], harness := (true, "b4b35fe2ca74b869004d353753018f13566687d65ddd8470f02ec558e8bd53e7"), looks := true }, kinds := [], alts := [], laidByText := true, laidKinds := [.data, .data, .data, .data, .sentinel, .sentinel, .pinned], laidTests := true, laidLooks := .later }
def FlatTurnedToItselfStaysCardSaid : Prop := Claim7.holds Tryz.pinned (.plain (OpenSpec.ofChange flatTurnedToItselfStaysSpec)) flatTurnedToItselfStaysCard

/-- THE TIED CARD OF 'interchangelaw6.FlatClosedIsRight'. -/
def flatClosedIsRightCard : Claim7 := { stood := { row := flatClosedIsRightRow, standIns := [], harness := (true, "b4b35fe2ca74b869004d353753018f13566687d65ddd8470f02ec558e8bd53e7"), looks := true }, kinds := [], alts := [], laidByText := true, laidKinds := [.data, .data, .data, .data, .sentinel, .sentinel, .pinned], laidTests := true, laidLooks := .later }
def FlatClosedIsRightCardSaid : Prop := Claim7.holds Tryz.pinned (.plain (OpenSpec.ofChange flatClosedIsRightSpec)) flatClosedIsRightCard

/-- THE SECOND FORM's CARD OF 'interchangelaw6.FlatColumnsMatchSpec'. -/
def flatColumnsMatchSpecUptoCard : Claim7 := { stood := { row := flatColumnsMatchSpecUptoRow, standIns := [], harness := (true, "b4b35fe2ca74b869004d353753018f13566687d65ddd8470f02ec558e8bd53e7"), looks := true }, kinds := [], alts := [], laidByText := true, laidKinds := [.data, .data, .data, .data, .sentinel, .sentinel, .pinned], laidTests := true, laidLooks := .later }
def FlatColumnsMatchSpecUptoCardSaid : Prop := Claim7.holds Tryz.pinned (.plain (OpenSpec.upto flatColumnsMatchSpecSpec)) flatColumnsMatchSpecUptoCard

/-- THE SECOND FORM's CARD OF 'interchangelaw6.FlatFitsLosesNothing'. -/
def flatFitsLosesNothingUptoCard : Claim7 := { stood := { row := flatFitsLosesNothingUptoRow, standIns := [], harness := (true, "b4b35fe2ca74b869004d353753018f13566687d65ddd8470f02ec558e8bd53e7"), looks := true }, kinds := [], alts := [], laidByText := true, laidKinds := [.data, .data, .data, .data, .sentinel, .sentinel, .pinned], laidTests := true, laidLooks := .later }
def FlatFitsLosesNothingUptoCardSaid : Prop := Claim7.holds Tryz.pinned (.plain (OpenSpec.upto flatFitsLosesNothingSpec)) flatFitsLosesNothingUptoCard

/-- THE SECOND FORM's CARD OF 'interchangelaw6.FlatTurnedToItselfStays'. -/
def flatTurnedToItselfStaysUptoCard : Claim7 := { stood := { row := flatTurnedToItselfStaysUptoRow, standIns := [], harness := (true, "b4b35fe2ca74b869004d353753018f13566687d65ddd8470f02ec558e8bd53e7"), looks := true }, kinds := [], alts := [], laidByText := true, laidKinds := [.data, .data, .data, .data, .sentinel, .sentinel, .pinned], laidTests := true, laidLooks := .later }
def FlatTurnedToItselfStaysUptoCardSaid : Prop := Claim7.holds Tryz.pinned (.plain (OpenSpec.upto flatTurnedToItselfStaysSpec)) flatTurnedToItselfStaysUptoCard

/-- THE SECOND FORM's CARD OF 'interchangelaw6.FlatClosedIsRight'. -/
def flatClosedIsRightUptoCard : Claim7 := { stood := { row := flatClosedIsRightUptoRow, standIns := [], harness := (true, "b4b35fe2ca74b869004d353753018f13566687d65ddd8470f02ec558e8bd53e7"), looks := true }, kinds := [], alts := [], laidByText := true, laidKinds := [.data, .data, .data, .data, .sentinel, .sentinel, .pinned], laidTests := true, laidLooks := .later }
def FlatClosedIsRightUptoCardSaid : Prop := Claim7.holds Tryz.pinned (.plain (OpenSpec.upto flatClosedIsRightSpec)) flatClosedIsRightUptoCard
end Rows
end Go.Proofs.YtkkkmnjgjmhdnaaGreatDoor
