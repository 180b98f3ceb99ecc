/-
  DERIVED. GIVEN WITH THE SEED: THE CARDS: each row of YtmacpjddafcjcaaDoorRows.lean that lists a variable, with what it lists TIED to the program's text (the seventh form; the later family's looks); each row that meets fmt, with fmt's text TOLD by the authors' own Lean function (tested against real Go, not proved from fmt's source: count such statements apart). THE CARD IS WHAT COUNTS. Prove the row's statement (the work); the ties are given (YtmacpjddafcjcaaDoorTie.lean); close each card by the builder's one call (the guide's Derived/Test/ToyasCard.lean, 'card_holds'). Laid BY PROGRAM, IN A SANDBOX (cutbox-door.mjs). By AI agents, Wed Nov 11 2026. No macro, syntax, notation, axiom, sorry.
-/
import Derived.Test.YtmacpjddafcjcaaDoorRows
import GoSem.ClaimSeven
namespace Go.Proofs.YtmacpjddafcjcaaDoor
namespace Rows

/-- THE TIED CARD OF 'countersignlaw24.ReplyErrors'. -/
def replyErrorsCard : Claim7 := { stood := { row := replyErrorsRow, standIns := [], harness := (true, "8482f65440dea6cf1e71a11c3fedebc04338a2749e31a6d23db03eb438c4cc1a"), looks := false }, kinds := [], alts := [], laidByText := true, laidKinds := [.data, .data, .data, .data], laidTests := true, laidLooks := .later }
def ReplyErrorsCardSaid : Prop := Claim7.holds Tryd.pinned (.plain (OpenSpec.ofChange replyErrorsSpec)) replyErrorsCard

/-- THE SECOND FORM's CARD OF 'countersignlaw24.ReplyErrors'. -/
def replyErrorsUptoCard : Claim7 := { stood := { row := replyErrorsUptoRow, standIns := [], harness := (true, "8482f65440dea6cf1e71a11c3fedebc04338a2749e31a6d23db03eb438c4cc1a"), looks := false }, kinds := [], alts := [], laidByText := true, laidKinds := [.data, .data, .data, .data], laidTests := true, laidLooks := .later }
def ReplyErrorsUptoCardSaid : Prop := Claim7.holds Tryd.pinned (.plain (OpenSpec.upto replyErrorsSpec)) replyErrorsUptoCard
end Rows
end Go.Proofs.YtmacpjddafcjcaaDoor
