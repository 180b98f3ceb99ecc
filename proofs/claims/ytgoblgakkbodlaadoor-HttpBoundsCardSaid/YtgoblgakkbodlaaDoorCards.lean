/-
  DERIVED. GIVEN WITH THE SEED: THE CARDS: each row of YtgoblgakkbodlaaDoorRows.lean that lists a variable, with what it lists TIED to the program's text (the seventh form; the later family's looks); each row that meets fmt, with fmt's text TOLD by the authors' own Lean function (tested against real Go, not proved from fmt's source: count such statements apart). THE CARD IS WHAT COUNTS. Prove the row's statement (the work); the ties are given (YtgoblgakkbodlaaDoorTie.lean); close each card by the builder's one call (the guide's Derived/Test/ToyasCard.lean, 'card_holds'). Laid BY PROGRAM, IN A SANDBOX (cutbox-door.mjs). By AI agents, Wed Nov 11 2026. No macro, syntax, notation, axiom, sorry.
-/
import Derived.Test.YtgoblgakkbodlaaDoorRows
import GoSem.ClaimSeven
namespace Go.Proofs.YtgoblgakkbodlaaDoor
namespace Rows

/-- THE TIED CARD OF 'countersignlaw13.HttpBounds'. -/
def httpBoundsCard : Claim7 := { stood := { row := httpBoundsRow, standIns := [], harness := (true, "4680524ff54e2ce3513029b478d55354e49ee122460e97f8dc4e857c1a52aafb"), looks := false }, kinds := [], alts := [], laidByText := true, laidKinds := [.data, .data, .data, .data, .pinned], laidTests := true, laidLooks := .later }
def HttpBoundsCardSaid : Prop := Claim7.holds Tryd.pinned (.plain (OpenSpec.ofChange httpBoundsSpec)) httpBoundsCard

/-- THE SECOND FORM's CARD OF 'countersignlaw13.HttpBounds'. -/
def httpBoundsUptoCard : Claim7 := { stood := { row := httpBoundsUptoRow, standIns := [], harness := (true, "4680524ff54e2ce3513029b478d55354e49ee122460e97f8dc4e857c1a52aafb"), looks := false }, kinds := [], alts := [], laidByText := true, laidKinds := [.data, .data, .data, .data, .pinned], laidTests := true, laidLooks := .later }
def HttpBoundsUptoCardSaid : Prop := Claim7.holds Tryd.pinned (.plain (OpenSpec.upto httpBoundsSpec)) httpBoundsUptoCard
end Rows
end Go.Proofs.YtgoblgakkbodlaaDoor
