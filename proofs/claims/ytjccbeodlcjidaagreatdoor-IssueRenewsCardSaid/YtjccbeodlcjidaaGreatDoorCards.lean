/-
  DERIVED. GIVEN WITH THE SEED: THE CARDS: each row of YtjccbeodlcjidaaGreatDoorRows.lean that lists a variable, with what it lists TIED to the program's text (the seventh form; the later family's looks); each row that meets fmt, with fmt's text TOLD by the authors' own Lean function (tested against real Go, not proved from fmt's source: count such statements apart). THE CARD IS WHAT COUNTS. Prove the row's statement (the work); the ties are given (YtjccbeodlcjidaaGreatDoorTie.lean); close each card by the builder's one call (the guide's Derived/Test/ToyasCard.lean, 'card_holds'). Laid BY PROGRAM, IN A SANDBOX (cutbox-door.mjs). By AI agents, Wed Nov 11 2026. No macro, syntax, notation, axiom, sorry.
-/
import Derived.Test.YtjccbeodlcjidaaGreatDoorRows
import GoSem.ClaimSeven
namespace Go.Proofs.YtjccbeodlcjidaaGreatDoor
namespace Rows

/-- THE TIED CARD OF 'countersignlaw22.IssueOnce'. -/
def issueOnceCard : Claim7 := { stood := { row := issueOnceRow, standIns := [], harness := (true, "3334a18b086d4957326b0285197494b18c3a4eb8797521409e1ecc72bf296184"), looks := true }, kinds := [], alts := [], laidByText := true, laidKinds := [.data, .pinned], laidTests := true, laidLooks := .later }
def IssueOnceCardSaid : Prop := Claim7.holds Tryz.pinned (.plain (OpenSpec.ofChange issueOnceSpec)) issueOnceCard

/-- THE TIED CARD OF 'countersignlaw22.IssueReplay'. -/
def issueReplayCard : Claim7 := { stood := { row := issueReplayRow, standIns := [], harness := (true, "3334a18b086d4957326b0285197494b18c3a4eb8797521409e1ecc72bf296184"), looks := true }, kinds := [], alts := [], laidByText := true, laidKinds := [.data, .pinned], laidTests := true, laidLooks := .later }
def IssueReplayCardSaid : Prop := Claim7.holds Tryz.pinned (.plain (OpenSpec.ofChange issueReplaySpec)) issueReplayCard

/-- THE TIED CARD OF 'countersignlaw22.IssueRenews'. -/
def issueRenewsCard : Claim7 := { stood := { row := issueRenewsRow, standIns := [], harness := (true, "3334a18b086d4957326b0285197494b18c3a4eb8797521409e1ecc72bf296184"), looks := true }, kinds := [], alts := [], laidByText := true, laidKinds := [.data, .pinned], laidTests := true, laidLooks := .later }
def IssueRenewsCardSaid : Prop := Claim7.holds Tryz.pinned (.plain (OpenSpec.ofChange issueRenewsSpec)) issueRenewsCard

/-- THE TIED CARD OF 'countersignlaw22.IssueFull'. -/
def issueFullCard : Claim7 := { stood := { row := issueFullRow, standIns := [], harness := (true, "3334a18b086d4957326b0285197494b18c3a4eb8797521409e1ecc72bf296184"), looks := true }, kinds := [], alts := [], laidByText := true, laidKinds := [.data, .pinned], laidTests := true, laidLooks := .later }
def IssueFullCardSaid : Prop := Claim7.holds Tryz.pinned (.plain (OpenSpec.ofChange issueFullSpec)) issueFullCard

/-- THE SECOND FORM's CARD OF 'countersignlaw22.IssueOnce'. -/
def issueOnceUptoCard : Claim7 := { stood := { row := issueOnceUptoRow, standIns := [], harness := (true, "3334a18b086d4957326b0285197494b18c3a4eb8797521409e1ecc72bf296184"), looks := true }, kinds := [], alts := [], laidByText := true, laidKinds := [.data, .pinned], laidTests := true, laidLooks := .later }
def IssueOnceUptoCardSaid : Prop := Claim7.holds Tryz.pinned (.plain (OpenSpec.upto issueOnceSpec)) issueOnceUptoCard

/-- THE SECOND FORM's CARD OF 'countersignlaw22.IssueReplay'. -/
def issueReplayUptoCard : Claim7 := { stood := { row := issueReplayUptoRow, standIns := [], harness := (true, "3334a18b086d4957326b0285197494b18c3a4eb8797521409e1ecc72bf296184"), looks := true }, kinds := [], alts := [], laidByText := true, laidKinds := [.data, .pinned], laidTests := true, laidLooks := .later }
def IssueReplayUptoCardSaid : Prop := Claim7.holds Tryz.pinned (.plain (OpenSpec.upto issueReplaySpec)) issueReplayUptoCard

/-- THE SECOND FORM's CARD OF 'countersignlaw22.IssueRenews'. -/
def issueRenewsUptoCard : Claim7 := { stood := { row := issueRenewsUptoRow, standIns := [], harness := (true, "3334a18b086d4957326b0285197494b18c3a4eb8797521409e1ecc72bf296184"), looks := true }, kinds := [], alts := [], laidByText := true, laidKinds := [.data, .pinned], laidTests := true, laidLooks := .later }
def IssueRenewsUptoCardSaid : Prop := Claim7.holds Tryz.pinned (.plain (OpenSpec.upto issueRenewsSpec)) issueRenewsUptoCard

/-- THE SECOND FORM's CARD OF 'countersignlaw22.IssueFull'. -/
def issueFullUptoCard : Claim7 := { stood := { row := issueFullUptoRow, standIns := [], harness := (true, "3334a18b086d4957326b0285197494b18c3a4eb8797521409e1ecc72bf296184"), looks := true }, kinds := [], alts := [], laidByText := true, laidKinds := [.data, .pinned], laidTests := true, laidLooks := .later }
def IssueFullUptoCardSaid : Prop := Claim7.holds Tryz.pinned (.plain (OpenSpec.upto issueFullSpec)) issueFullUptoCard
end Rows
end Go.Proofs.YtjccbeodlcjidaaGreatDoor
