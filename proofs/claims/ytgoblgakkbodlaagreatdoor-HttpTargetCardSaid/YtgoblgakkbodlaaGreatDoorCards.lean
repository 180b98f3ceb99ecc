/-
  DERIVED. GIVEN WITH THE SEED: THE CARDS: each row of YtgoblgakkbodlaaGreatDoorRows.lean that lists a variable, with what it lists TIED to the program's text (the seventh form; the later family's looks); each row that meets fmt, with fmt's text TOLD by the authors' own Lean function (tested against real Go, not proved from fmt's source: count such statements apart). THE CARD IS WHAT COUNTS. Prove the row's statement (the work); the ties are given (YtgoblgakkbodlaaGreatDoorTie.lean); close each card by the builder's one call (the guide's Derived/Test/ToyasCard.lean, 'card_holds'). Laid BY PROGRAM, IN A SANDBOX (cutbox-door.mjs). By AI agents, Wed Nov 11 2026. No macro, syntax, notation, axiom, sorry.
-/
import Derived.Test.YtgoblgakkbodlaaGreatDoorRows
import GoSem.ClaimSeven
namespace Go.Proofs.YtgoblgakkbodlaaGreatDoor
namespace Rows

/-- THE TIED CARD OF 'countersignlaw13.HttpParse'. -/
def httpParseCard : Claim7 := { stood := { row := httpParseRow, standIns := [], harness := (true, "edbdff7505aef747d8b63bc810263a2945e914d3748238fa557cb6bf27cfff89"), looks := false }, kinds := [], alts := [], laidByText := true, laidKinds := [.data, .data, .data, .data, .pinned], laidTests := true, laidLooks := .later }
def HttpParseCardSaid : Prop := Claim7.holds Tryz.pinned (.plain (OpenSpec.ofChange httpParseSpec)) httpParseCard

/-- THE TIED CARD OF 'countersignlaw13.HttpMay'. -/
def httpMayCard : Claim7 := { stood := { row := httpMayRow, standIns := [], harness := (true, "edbdff7505aef747d8b63bc810263a2945e914d3748238fa557cb6bf27cfff89"), looks := false }, kinds := [], alts := [], laidByText := true, laidKinds := [.data, .data, .data, .data, .pinned], laidTests := true, laidLooks := .later }
def HttpMayCardSaid : Prop := Claim7.holds Tryz.pinned (.plain (OpenSpec.ofChange httpMaySpec)) httpMayCard

/-- THE TIED CARD OF 'countersignlaw13.HttpBack'. -/
def httpBackCard : Claim7 := { stood := { row := httpBackRow, standIns := [], harness := (true, "edbdff7505aef747d8b63bc810263a2945e914d3748238fa557cb6bf27cfff89"), looks := false }, kinds := [], alts := [], laidByText := true, laidKinds := [.data, .data, .data, .data, .pinned], laidTests := true, laidLooks := .later }
def HttpBackCardSaid : Prop := Claim7.holds Tryz.pinned (.plain (OpenSpec.ofChange httpBackSpec)) httpBackCard

/-- THE TIED CARD OF 'countersignlaw13.HttpTarget'. -/
def httpTargetCard : Claim7 := { stood := { row := httpTargetRow, standIns := [], harness := (true, "edbdff7505aef747d8b63bc810263a2945e914d3748238fa557cb6bf27cfff89"), looks := false }, kinds := [], alts := [], laidByText := true, laidKinds := [.data, .data, .data, .data, .pinned], laidTests := true, laidLooks := .later }
def HttpTargetCardSaid : Prop := Claim7.holds Tryz.pinned (.plain (OpenSpec.ofChange httpTargetSpec)) httpTargetCard

/-- THE SECOND FORM's CARD OF 'countersignlaw13.HttpParse'. -/
def httpParseUptoCard : Claim7 := { stood := { row := httpParseUptoRow, standIns := [], harness := (true, "edbdff7505aef747d8b63bc810263a2945e914d3748238fa557cb6bf27cfff89"), looks := false }, kinds := [], alts := [], laidByText := true, laidKinds := [.data, .data, .data, .data, .pinned], laidTests := true, laidLooks := .later }
def HttpParseUptoCardSaid : Prop := Claim7.holds Tryz.pinned (.plain (OpenSpec.upto httpParseSpec)) httpParseUptoCard

/-- THE SECOND FORM's CARD OF 'countersignlaw13.HttpMay'. -/
def httpMayUptoCard : Claim7 := { stood := { row := httpMayUptoRow, standIns := [], harness := (true, "edbdff7505aef747d8b63bc810263a2945e914d3748238fa557cb6bf27cfff89"), looks := false }, kinds := [], alts := [], laidByText := true, laidKinds := [.data, .data, .data, .data, .pinned], laidTests := true, laidLooks := .later }
def HttpMayUptoCardSaid : Prop := Claim7.holds Tryz.pinned (.plain (OpenSpec.upto httpMaySpec)) httpMayUptoCard

/-- THE SECOND FORM's CARD OF 'countersignlaw13.HttpBack'. -/
def httpBackUptoCard : Claim7 := { stood := { row := httpBackUptoRow, standIns := [], harness := (true, "edbdff7505aef747d8b63bc810263a2945e914d3748238fa557cb6bf27cfff89"), looks := false }, kinds := [], alts := [], laidByText := true, laidKinds := [.data, .data, .data, .data, .pinned], laidTests := true, laidLooks := .later }
def HttpBackUptoCardSaid : Prop := Claim7.holds Tryz.pinned (.plain (OpenSpec.upto httpBackSpec)) httpBackUptoCard

/-- THE SECOND FORM's CARD OF 'countersignlaw13.HttpTarget'. -/
def httpTargetUptoCard : Claim7 := { stood := { row := httpTargetUptoRow, standIns := [], harness := (true, "edbdff7505aef747d8b63bc810263a2945e914d3748238fa557cb6bf27cfff89"), looks := false }, kinds := [], alts := [], laidByText := true, laidKinds := [.data, .data, .data, .data, .pinned], laidTests := true, laidLooks := .later }
def HttpTargetUptoCardSaid : Prop := Claim7.holds Tryz.pinned (.plain (OpenSpec.upto httpTargetSpec)) httpTargetUptoCard
end Rows
end Go.Proofs.YtgoblgakkbodlaaGreatDoor
