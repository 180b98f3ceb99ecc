/-
  DERIVED. GIVEN WITH THE SEED: THE CARDS: each row of YtcohmieljbdlhaaGreatDoorRows.lean that lists a variable, with what it lists TIED to the program's text (the seventh form; the later family's looks); each row that meets fmt, with fmt's text TOLD by the authors' own Lean function (tested against real Go, not proved from fmt's source: count such statements apart). THE CARD IS WHAT COUNTS. Prove the row's statement (the work); the ties are given (YtcohmieljbdlhaaGreatDoorTie.lean); close each card by the builder's one call (the guide's Derived/Test/ToyasCard.lean, 'card_holds'). Laid BY PROGRAM, IN A SANDBOX (cutbox-door.mjs). By AI agents, Wed Nov 11 2026. No macro, syntax, notation, axiom, sorry.
-/
import Derived.Test.YtcohmieljbdlhaaGreatDoorRows
import GoSem.ClaimSeven
namespace Go.Proofs.YtcohmieljbdlhaaGreatDoor
namespace Rows

/-- THE TIED CARD OF 'countersignlaw24.ReplyParses'. -/
def replyParsesCard : Claim7 := { stood := { row := replyParsesRow, standIns := [], harness := (true, "eafbee4cfd85a8bfed58933039f6ab0ca66835e1b23ef0c83680ddfec5236dbb"), looks := true }, kinds := [], alts := [], laidByText := true, laidKinds := [.data, .data, .data, .data, .widerDeep, .data, .pinned], laidTests := true, laidLooks := .later }
def ReplyParsesCardSaid : Prop := Claim7.holds Tryz.pinned (.plain (OpenSpec.ofChange replyParsesSpec)) replyParsesCard

/-- THE TIED CARD OF 'countersignlaw9.MarkAll'. -/
def markAllCard : Claim7 := { stood := { row := markAllRow, standIns := [], harness := (true, "eafbee4cfd85a8bfed58933039f6ab0ca66835e1b23ef0c83680ddfec5236dbb"), looks := true }, kinds := [], alts := [], laidByText := true, laidKinds := [.data, .pinned], laidTests := true, laidLooks := .later }
def MarkAllCardSaid : Prop := Claim7.holds Tryz.pinned (.plain (OpenSpec.ofChange markAllSpec)) markAllCard

/-- THE TIED CARD OF 'countersignlaw9.MarkFind'. -/
def markFindCard : Claim7 := { stood := { row := markFindRow, standIns := [], harness := (true, "eafbee4cfd85a8bfed58933039f6ab0ca66835e1b23ef0c83680ddfec5236dbb"), looks := true }, kinds := [], alts := [], laidByText := true, laidKinds := [.data, .pinned], laidTests := true, laidLooks := .later }
def MarkFindCardSaid : Prop := Claim7.holds Tryz.pinned (.plain (OpenSpec.ofChange markFindSpec)) markFindCard

/-- THE TIED CARD OF 'countersignlaw9.MarkStands'. -/
def markStandsCard : Claim7 := { stood := { row := markStandsRow, standIns := [], harness := (true, "eafbee4cfd85a8bfed58933039f6ab0ca66835e1b23ef0c83680ddfec5236dbb"), looks := true }, kinds := [], alts := [], laidByText := true, laidKinds := [.data, .pinned], laidTests := true, laidLooks := .later }
def MarkStandsCardSaid : Prop := Claim7.holds Tryz.pinned (.plain (OpenSpec.ofChange markStandsSpec)) markStandsCard

/-- THE TIED CARD OF 'countersignlaw9.MarkNone'. -/
def markNoneCard : Claim7 := { stood := { row := markNoneRow, standIns := [], harness := (true, "eafbee4cfd85a8bfed58933039f6ab0ca66835e1b23ef0c83680ddfec5236dbb"), looks := true }, kinds := [], alts := [], laidByText := true, laidKinds := [.data, .pinned], laidTests := true, laidLooks := .later }
def MarkNoneCardSaid : Prop := Claim7.holds Tryz.pinned (.plain (OpenSpec.ofChange markNoneSpec)) markNoneCard

/-- THE SECOND FORM's CARD OF 'countersignlaw24.ReplyParses'. -/
def replyParsesUptoCard : Claim7 := { stood := { row := replyParsesUptoRow, standIns := [], harness := (true, "eafbee4cfd85a8bfed58933039f6ab0ca66835e1b23ef0c83680ddfec5236dbb"), looks := true }, kinds := [], alts := [], laidByText := true, laidKinds := [.data, .data, .data, .data, .widerDeep, .data, .pinned], laidTests := true, laidLooks := .later }
def ReplyParsesUptoCardSaid : Prop := Claim7.holds Tryz.pinned (.plain (OpenSpec.upto replyParsesSpec)) replyParsesUptoCard

/-- THE SECOND FORM's CARD OF 'countersignlaw9.MarkAll'. -/
def markAllUptoCard : Claim7 := { stood := { row := markAllUptoRow, standIns := [], harness := (true, "eafbee4cfd85a8bfed58933039f6ab0ca66835e1b23ef0c83680ddfec5236dbb"), looks := true }, kinds := [], alts := [], laidByText := true, laidKinds := [.data, .pinned], laidTests := true, laidLooks := .later }
def MarkAllUptoCardSaid : Prop := Claim7.holds Tryz.pinned (.plain (OpenSpec.upto markAllSpec)) markAllUptoCard

/-- THE SECOND FORM's CARD OF 'countersignlaw9.MarkFind'. -/
def markFindUptoCard : Claim7 := { stood := { row := markFindUptoRow, standIns := [], harness := (true, "eafbee4cfd85a8bfed58933039f6ab0ca66835e1b23ef0c83680ddfec5236dbb"), looks := true }, kinds := [], alts := [], laidByText := true, laidKinds := [.data, .pinned], laidTests := true, laidLooks := .later }
def MarkFindUptoCardSaid : Prop := Claim7.holds Tryz.pinned (.plain (OpenSpec.upto markFindSpec)) markFindUptoCard

/-- THE SECOND FORM's CARD OF 'countersignlaw9.MarkStands'. -/
def markStandsUptoCard : Claim7 := { stood := { row := markStandsUptoRow, standIns := [], harness := (true, "eafbee4cfd85a8bfed58933039f6ab0ca66835e1b23ef0c83680ddfec5236dbb"), looks := true }, kinds := [], alts := [], laidByText := true, laidKinds := [.data, .pinned], laidTests := true, laidLooks := .later }
def MarkStandsUptoCardSaid : Prop := Claim7.holds Tryz.pinned (.plain (OpenSpec.upto markStandsSpec)) markStandsUptoCard

/-- THE SECOND FORM's CARD OF 'countersignlaw9.MarkNone'. -/
def markNoneUptoCard : Claim7 := { stood := { row := markNoneUptoRow, standIns := [], harness := (true, "eafbee4cfd85a8bfed58933039f6ab0ca66835e1b23ef0c83680ddfec5236dbb"), looks := true }, kinds := [], alts := [], laidByText := true, laidKinds := [.data, .pinned], laidTests := true, laidLooks := .later }
def MarkNoneUptoCardSaid : Prop := Claim7.holds Tryz.pinned (.plain (OpenSpec.upto markNoneSpec)) markNoneUptoCard
end Rows
end Go.Proofs.YtcohmieljbdlhaaGreatDoor
