/-
  DERIVED. GIVEN WITH THE SEED: THE CARDS: each row of YtpiglhfboigfkaaDoorRows.lean that lists a variable, with what it lists TIED to the program's text (the seventh form; the later family's looks); each row that meets fmt, with fmt's text TOLD by the authors' own Lean function (tested against real Go, not proved from fmt's source: count such statements apart). THE CARD IS WHAT COUNTS. Prove the row's statement (the work); the ties are given (YtpiglhfboigfkaaDoorTie.lean); close each card by the builder's one call (the guide's Derived/Test/ToyasCard.lean, 'card_holds'). Laid BY PROGRAM, IN A SANDBOX (cutbox-door.mjs). By AI agents, Wed Nov 11 2026. No macro, syntax, notation, axiom, sorry.
-/
import Derived.Test.YtpiglhfboigfkaaDoorRows
import GoSem.ClaimSeven
namespace Go.Proofs.YtpiglhfboigfkaaDoor
namespace Rows

/-- THE TIED CARD OF 'countersignlaw14.CookieParse'. -/
def cookieParseCard : Claim7 := { stood := { row := cookieParseRow, standIns := [], harness := (true, "f587aee573015102fbd9e6dac8a74cceb374a71a7fc5f6d71ab135d7a2ef3c22"), looks := false }, kinds := [], alts := [], laidByText := true, laidKinds := [.data, .data, .data, .data, .pinned], laidTests := true, laidLooks := .later }
def CookieParseCardSaid : Prop := Claim7.holds Tryd.pinned (.plain (OpenSpec.ofChange cookieParseSpec)) cookieParseCard

/-- THE TIED CARD OF 'countersignlaw14.CookieBack'. -/
def cookieBackCard : Claim7 := { stood := { row := cookieBackRow, standIns := [], harness := (true, "f587aee573015102fbd9e6dac8a74cceb374a71a7fc5f6d71ab135d7a2ef3c22"), looks := false }, kinds := [], alts := [], laidByText := true, laidKinds := [.data, .data, .data, .data, .pinned], laidTests := true, laidLooks := .later }
def CookieBackCardSaid : Prop := Claim7.holds Tryd.pinned (.plain (OpenSpec.ofChange cookieBackSpec)) cookieBackCard

/-- THE TIED CARD OF 'countersignlaw14.CookieSet'. -/
def cookieSetCard : Claim7 := { stood := { row := cookieSetRow, standIns := [], harness := (true, "f587aee573015102fbd9e6dac8a74cceb374a71a7fc5f6d71ab135d7a2ef3c22"), looks := false }, kinds := [], alts := [], laidByText := true, laidKinds := [.data, .data, .data, .data, .pinned], laidTests := true, laidLooks := .later }
def CookieSetCardSaid : Prop := Claim7.holds Tryd.pinned (.plain (OpenSpec.ofChange cookieSetSpec)) cookieSetCard

/-- THE SECOND FORM's CARD OF 'countersignlaw14.CookieParse'. -/
def cookieParseUptoCard : Claim7 := { stood := { row := cookieParseUptoRow, standIns := [], harness := (true, "f587aee573015102fbd9e6dac8a74cceb374a71a7fc5f6d71ab135d7a2ef3c22"), looks := false }, kinds := [], alts := [], laidByText := true, laidKinds := [.data, .data, .data, .data, .pinned], laidTests := true, laidLooks := .later }
def CookieParseUptoCardSaid : Prop := Claim7.holds Tryd.pinned (.plain (OpenSpec.upto cookieParseSpec)) cookieParseUptoCard

/-- THE SECOND FORM's CARD OF 'countersignlaw14.CookieBack'. -/
def cookieBackUptoCard : Claim7 := { stood := { row := cookieBackUptoRow, standIns := [], harness := (true, "f587aee573015102fbd9e6dac8a74cceb374a71a7fc5f6d71ab135d7a2ef3c22"), looks := false }, kinds := [], alts := [], laidByText := true, laidKinds := [.data, .data, .data, .data, .pinned], laidTests := true, laidLooks := .later }
def CookieBackUptoCardSaid : Prop := Claim7.holds Tryd.pinned (.plain (OpenSpec.upto cookieBackSpec)) cookieBackUptoCard

/-- THE SECOND FORM's CARD OF 'countersignlaw14.CookieSet'. -/
def cookieSetUptoCard : Claim7 := { stood := { row := cookieSetUptoRow, standIns := [], harness := (true, "f587aee573015102fbd9e6dac8a74cceb374a71a7fc5f6d71ab135d7a2ef3c22"), looks := false }, kinds := [], alts := [], laidByText := true, laidKinds := [.data, .data, .data, .data, .pinned], laidTests := true, laidLooks := .later }
def CookieSetUptoCardSaid : Prop := Claim7.holds Tryd.pinned (.plain (OpenSpec.upto cookieSetSpec)) cookieSetUptoCard
end Rows
end Go.Proofs.YtpiglhfboigfkaaDoor
