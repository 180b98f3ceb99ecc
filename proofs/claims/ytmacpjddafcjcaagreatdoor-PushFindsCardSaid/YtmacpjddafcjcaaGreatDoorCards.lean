/-
  DERIVED. GIVEN WITH THE SEED: THE CARDS: each row of YtmacpjddafcjcaaGreatDoorRows.lean that lists a variable, with what it lists TIED to the program's text (the seventh form; the later family's looks); each row that meets fmt, with fmt's text TOLD by the authors' own Lean function (tested against real Go, not proved from fmt's source: count such statements apart). THE CARD IS WHAT COUNTS. Prove the row's statement (the work); the ties are given (YtmacpjddafcjcaaGreatDoorTie.lean); close each card by the builder's one call (the guide's Derived/Test/ToyasCard.lean, 'card_holds'). Laid BY PROGRAM, IN A SANDBOX (cutbox-door.mjs). By AI agents, Wed Nov 11 2026. No macro, syntax, notation, axiom, sorry.
-/
import Derived.Test.YtmacpjddafcjcaaGreatDoorRows
import GoSem.ClaimSeven
namespace Go.Proofs.YtmacpjddafcjcaaGreatDoor
namespace Rows

/-- THE TIED CARD OF 'countersignlaw24.ReplyDoc'. -/
def replyDocCard : Claim7 := { stood := { row := replyDocRow, standIns := [], harness := (true, "a0d683609afc0343b3121ba8a7fd2cb171ab8a24379c909a5e3833ba07046e6a"), looks := true }, kinds := [], alts := [], laidByText := true, laidKinds := [.data, .data, .data, .data], laidTests := true, laidLooks := .later }
def ReplyDocCardSaid : Prop := Claim7.holds Tryz.pinned (.plain (OpenSpec.ofChange replyDocSpec)) replyDocCard

/-- THE TIED CARD OF 'countersignlaw24.ReplyAll'. -/
def replyAllCard : Claim7 := { stood := { row := replyAllRow, standIns := [], harness := (true, "a0d683609afc0343b3121ba8a7fd2cb171ab8a24379c909a5e3833ba07046e6a"), looks := true }, kinds := [], alts := [], laidByText := true, laidKinds := [.data, .data, .data, .widerDeep, .data], laidTests := true, laidLooks := .later }
def ReplyAllCardSaid : Prop := Claim7.holds Tryz.pinned (.plain (OpenSpec.ofChange replyAllSpec)) replyAllCard

/-- THE TIED CARD OF 'countersignlaw20.PushCheck'. -/
def pushCheckCard : Claim7 := { stood := { row := pushCheckRow, standIns := [], harness := (true, "a0d683609afc0343b3121ba8a7fd2cb171ab8a24379c909a5e3833ba07046e6a"), looks := true }, kinds := [], alts := [], laidByText := true, laidKinds := [.data, .pinned], laidTests := true, laidLooks := .later }
def PushCheckCardSaid : Prop := Claim7.holds Tryz.pinned (.plain (OpenSpec.ofChange pushCheckSpec)) pushCheckCard

/-- THE TIED CARD OF 'countersignlaw20.PushPlays'. -/
def pushPlaysCard : Claim7 := { stood := { row := pushPlaysRow, standIns := [], harness := (true, "a0d683609afc0343b3121ba8a7fd2cb171ab8a24379c909a5e3833ba07046e6a"), looks := true }, kinds := [], alts := [], laidByText := true, laidKinds := [.data, .pinned], laidTests := true, laidLooks := .later }
def PushPlaysCardSaid : Prop := Claim7.holds Tryz.pinned (.plain (OpenSpec.ofChange pushPlaysSpec)) pushPlaysCard

/-- THE TIED CARD OF 'countersignlaw20.PushFinds'. -/
def pushFindsCard : Claim7 := { stood := { row := pushFindsRow, standIns := [], harness := (true, "a0d683609afc0343b3121ba8a7fd2cb171ab8a24379c909a5e3833ba07046e6a"), looks := true }, kinds := [], alts := [], laidByText := true, laidKinds := [.data, .pinned], laidTests := true, laidLooks := .later }
def PushFindsCardSaid : Prop := Claim7.holds Tryz.pinned (.plain (OpenSpec.ofChange pushFindsSpec)) pushFindsCard

/-- THE TIED CARD OF 'countersignlaw20.PushFull'. -/
def pushFullCard : Claim7 := { stood := { row := pushFullRow, standIns := [], harness := (true, "a0d683609afc0343b3121ba8a7fd2cb171ab8a24379c909a5e3833ba07046e6a"), looks := true }, kinds := [], alts := [], laidByText := true, laidKinds := [.data, .pinned], laidTests := true, laidLooks := .later }
def PushFullCardSaid : Prop := Claim7.holds Tryz.pinned (.plain (OpenSpec.ofChange pushFullSpec)) pushFullCard

/-- THE SECOND FORM's CARD OF 'countersignlaw24.ReplyDoc'. -/
def replyDocUptoCard : Claim7 := { stood := { row := replyDocUptoRow, standIns := [], harness := (true, "a0d683609afc0343b3121ba8a7fd2cb171ab8a24379c909a5e3833ba07046e6a"), looks := true }, kinds := [], alts := [], laidByText := true, laidKinds := [.data, .data, .data, .data], laidTests := true, laidLooks := .later }
def ReplyDocUptoCardSaid : Prop := Claim7.holds Tryz.pinned (.plain (OpenSpec.upto replyDocSpec)) replyDocUptoCard

/-- THE SECOND FORM's CARD OF 'countersignlaw24.ReplyAll'. -/
def replyAllUptoCard : Claim7 := { stood := { row := replyAllUptoRow, standIns := [], harness := (true, "a0d683609afc0343b3121ba8a7fd2cb171ab8a24379c909a5e3833ba07046e6a"), looks := true }, kinds := [], alts := [], laidByText := true, laidKinds := [.data, .data, .data, .widerDeep, .data], laidTests := true, laidLooks := .later }
def ReplyAllUptoCardSaid : Prop := Claim7.holds Tryz.pinned (.plain (OpenSpec.upto replyAllSpec)) replyAllUptoCard

/-- THE SECOND FORM's CARD OF 'countersignlaw20.PushCheck'. -/
def pushCheckUptoCard : Claim7 := { stood := { row := pushCheckUptoRow, standIns := [], harness := (true, "a0d683609afc0343b3121ba8a7fd2cb171ab8a24379c909a5e3833ba07046e6a"), looks := true }, kinds := [], alts := [], laidByText := true, laidKinds := [.data, .pinned], laidTests := true, laidLooks := .later }
def PushCheckUptoCardSaid : Prop := Claim7.holds Tryz.pinned (.plain (OpenSpec.upto pushCheckSpec)) pushCheckUptoCard

/-- THE SECOND FORM's CARD OF 'countersignlaw20.PushPlays'. -/
def pushPlaysUptoCard : Claim7 := { stood := { row := pushPlaysUptoRow, standIns := [], harness := (true, "a0d683609afc0343b3121ba8a7fd2cb171ab8a24379c909a5e3833ba07046e6a"), looks := true }, kinds := [], alts := [], laidByText := true, laidKinds := [.data, .pinned], laidTests := true, laidLooks := .later }
def PushPlaysUptoCardSaid : Prop := Claim7.holds Tryz.pinned (.plain (OpenSpec.upto pushPlaysSpec)) pushPlaysUptoCard

/-- THE SECOND FORM's CARD OF 'countersignlaw20.PushFinds'. -/
def pushFindsUptoCard : Claim7 := { stood := { row := pushFindsUptoRow, standIns := [], harness := (true, "a0d683609afc0343b3121ba8a7fd2cb171ab8a24379c909a5e3833ba07046e6a"), looks := true }, kinds := [], alts := [], laidByText := true, laidKinds := [.data, .pinned], laidTests := true, laidLooks := .later }
def PushFindsUptoCardSaid : Prop := Claim7.holds Tryz.pinned (.plain (OpenSpec.upto pushFindsSpec)) pushFindsUptoCard

/-- THE SECOND FORM's CARD OF 'countersignlaw20.PushFull'. -/
def pushFullUptoCard : Claim7 := { stood := { row := pushFullUptoRow, standIns := [], harness := (true, "a0d683609afc0343b3121ba8a7fd2cb171ab8a24379c909a5e3833ba07046e6a"), looks := true }, kinds := [], alts := [], laidByText := true, laidKinds := [.data, .pinned], laidTests := true, laidLooks := .later }
def PushFullUptoCardSaid : Prop := Claim7.holds Tryz.pinned (.plain (OpenSpec.upto pushFullSpec)) pushFullUptoCard
end Rows
end Go.Proofs.YtmacpjddafcjcaaGreatDoor
