/-
  DERIVED. GIVEN WITH THE SEED: THE CARDS: each row of YtgnhhialddlknaaGreatDoorRows.lean that lists a variable, with what it lists TIED to the program's text (the seventh form; the later family's looks); each row that meets fmt, with fmt's text TOLD by the authors' own Lean function (tested against real Go, not proved from fmt's source: count such statements apart). THE CARD IS WHAT COUNTS. Prove the row's statement (the work); the ties are given (YtgnhhialddlknaaGreatDoorTie.lean); close each card by the builder's one call (the guide's Derived/Test/ToyasCard.lean, 'card_holds'). Laid BY PROGRAM, IN A SANDBOX (cutbox-door.mjs). By AI agents, Wed Nov 11 2026. No macro, syntax, notation, axiom, sorry.
-/
import Derived.Test.YtgnhhialddlknaaGreatDoorRows
import GoSem.ClaimSeven
namespace Go.Proofs.YtgnhhialddlknaaGreatDoor
namespace Rows

/-- THE TIED CARD OF 'countersignlaw29.GuardPlays'. -/
def guardPlaysCard : Claim7 := { stood := { row := guardPlaysRow, standIns := [], harness := (true, "8b31c43f68ec5f429a04c5fb554e222dde094b303dddb85a821cfd86b899e785"), looks := true }, kinds := [], alts := [], laidByText := true, laidKinds := [.data, .data, .data, .data, .sentinel, .sentinel, .widerDeep, .data, .pinned], laidTests := true, laidLooks := .later }
def GuardPlaysCardSaid : Prop := Claim7.holds Tryz.pinned (.plain (OpenSpec.ofChange guardPlaysSpec)) guardPlaysCard

/-- THE TIED CARD OF 'countersignlaw29.GuardServes'. -/
def guardServesCard : Claim7 := { stood := { row := guardServesRow, standIns := [], harness := (true, "8b31c43f68ec5f429a04c5fb554e222dde094b303dddb85a821cfd86b899e785"), looks := true }, kinds := [], alts := [], laidByText := true, laidKinds := [.data, .data, .data, .data, .sentinel, .sentinel, .widerDeep, .data, .pinned], laidTests := true, laidLooks := .later }
def GuardServesCardSaid : Prop := Claim7.holds Tryz.pinned (.plain (OpenSpec.ofChange guardServesSpec)) guardServesCard

/-- THE TIED CARD OF 'countersignlaw29.GuardApart'. -/
def guardApartCard : Claim7 := { stood := { row := guardApartRow, standIns := [], harness := (true, "8b31c43f68ec5f429a04c5fb554e222dde094b303dddb85a821cfd86b899e785"), looks := true }, kinds := [], alts := [], laidByText := true, laidKinds := [.data, .data, .data, .data, .sentinel, .sentinel, .widerDeep, .data, .pinned], laidTests := true, laidLooks := .later }
def GuardApartCardSaid : Prop := Claim7.holds Tryz.pinned (.plain (OpenSpec.ofChange guardApartSpec)) guardApartCard

/-- THE TIED CARD OF 'countersignlaw29.GuardFull'. -/
def guardFullCard : Claim7 := { stood := { row := guardFullRow, standIns := [], harness := (true, "8b31c43f68ec5f429a04c5fb554e222dde094b303dddb85a821cfd86b899e785"), looks := true }, kinds := [], alts := [], laidByText := true, laidKinds := [.data, .data, .data, .data, .sentinel, .sentinel, .widerDeep, .data, .pinned], laidTests := true, laidLooks := .later }
def GuardFullCardSaid : Prop := Claim7.holds Tryz.pinned (.plain (OpenSpec.ofChange guardFullSpec)) guardFullCard

/-- THE SECOND FORM's CARD OF 'countersignlaw29.GuardPlays'. -/
def guardPlaysUptoCard : Claim7 := { stood := { row := guardPlaysUptoRow, standIns := [], harness := (true, "8b31c43f68ec5f429a04c5fb554e222dde094b303dddb85a821cfd86b899e785"), looks := true }, kinds := [], alts := [], laidByText := true, laidKinds := [.data, .data, .data, .data, .sentinel, .sentinel, .widerDeep, .data, .pinned], laidTests := true, laidLooks := .later }
def GuardPlaysUptoCardSaid : Prop := Claim7.holds Tryz.pinned (.plain (OpenSpec.upto guardPlaysSpec)) guardPlaysUptoCard

/-- THE SECOND FORM's CARD OF 'countersignlaw29.GuardServes'. -/
def guardServesUptoCard : Claim7 := { stood := { row := guardServesUptoRow, standIns := [], harness := (true, "8b31c43f68ec5f429a04c5fb554e222dde094b303dddb85a821cfd86b899e785"), looks := true }, kinds := [], alts := [], laidByText := true, laidKinds := [.data, .data, .data, .data, .sentinel, .sentinel, .widerDeep, .data, .pinned], laidTests := true, laidLooks := .later }
def GuardServesUptoCardSaid : Prop := Claim7.holds Tryz.pinned (.plain (OpenSpec.upto guardServesSpec)) guardServesUptoCard

/-- THE SECOND FORM's CARD OF 'countersignlaw29.GuardApart'. -/
def guardApartUptoCard : Claim7 := { stood := { row := guardApartUptoRow, standIns := [], harness := (true, "8b31c43f68ec5f429a04c5fb554e222dde094b303dddb85a821cfd86b899e785"), looks := true }, kinds := [], alts := [], laidByText := true, laidKinds := [.data, .data, .data, .data, .sentinel, .sentinel, .widerDeep, .data, .pinned], laidTests := true, laidLooks := .later }
def GuardApartUptoCardSaid : Prop := Claim7.holds Tryz.pinned (.plain (OpenSpec.upto guardApartSpec)) guardApartUptoCard

/-- THE SECOND FORM's CARD OF 'countersignlaw29.GuardFull'. -/
def guardFullUptoCard : Claim7 := { stood := { row := guardFullUptoRow, standIns := [], harness := (true, "8b31c43f68ec5f429a04c5fb554e222dde094b303dddb85a821cfd86b899e785"), looks := true }, kinds := [], alts := [], laidByText := true, laidKinds := [.data, .data, .data, .data, .sentinel, .sentinel, .widerDeep, .data, .pinned], laidTests := true, laidLooks := .later }
def GuardFullUptoCardSaid : Prop := Claim7.holds Tryz.pinned (.plain (OpenSpec.upto guardFullSpec)) guardFullUptoCard
end Rows
end Go.Proofs.YtgnhhialddlknaaGreatDoor
