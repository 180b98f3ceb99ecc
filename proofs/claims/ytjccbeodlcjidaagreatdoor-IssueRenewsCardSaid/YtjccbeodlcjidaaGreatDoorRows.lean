/-
  NARROWER THAN 'FOR EVERY INPUT', by the rows' own cells (each row's printed sentence says how): IssueOnce: laid · IssueReplay: laid · IssueRenews: laid · IssueFull: laid.
  DERIVED. THE GIVEN ROWS OF THIS SEAT. 4 by the template 'for every input the law returns true; each argument reads behind the call as it read before'; 0 by the template 'total and deterministic' (their statements: YtjccbeodlcjidaaGreatDoorTotals.lean).
  GIVEN WITH THE SEED: the statements are not yours to turn. If you find one false, say at which input.
  Laid BY PROGRAM, IN A SANDBOX (cutbox-rows.mjs): the forced cells as the released guide's own fill.sh prints them over the translation 5e0a5f924faf5cf6… (all of the seat's roots in one cut). By AI agents, Wed Nov 11 2026. No macro, syntax, notation, axiom, sorry.
-/
import Derived.Test.YtjccbeodlcjidaaGreatDoorChecked
import GoSem.PinnedTables
import GoSem.Claim
import GoSem.ClaimJoined
import GoSem.ClaimMapViews
import Derived.JoinedTies
import Derived.KernelRfl
namespace Go.Proofs.YtjccbeodlcjidaaGreatDoor
/- THE CELL 'sum', in the pinned program and in every row, IS THE sha256 OF THE DUMP (.gsa) THAT YtjccbeodlcjidaaGreatDoorProg.lean LOADS. Nothing in Lean hashes anything: it is a label: what it is worth is what the hold of that sum in a sandbox is worth. -/
noncomputable def Tryz.pinned : Pinned := { name := "ytjccbeodlcjidaagreatdoor", sum := "5e0a5f924faf5cf6b441f309e03c890921d90e47ff19f149a1e4873256195e75", checked := Tryz.checked }
namespace Rows
def none {H : Type} : Left H := { results := [], args := [] }

/- WHAT THE LISTED PACKAGE-LEVEL VARIABLES READ AS WHEN THE CALL BEGINS. Each datum BY PROGRAM (the guide's laid-datum.mjs) off the statement by which the dump's own 'gosem.cut.vars' lays the variable. In a bare row this is a premise. The card (YtjccbeodlcjidaaGreatDoorCards.lean) ties it to the program's text. -/
def laid_unicode_utf8_acceptRanges {H : Type} : DataW H := .agg [.agg [.lit (.int .u8 128), .lit (.int .u8 191)], .agg [.lit (.int .u8 160), .lit (.int .u8 191)], .agg [.lit (.int .u8 128), .lit (.int .u8 159)], .agg [.lit (.int .u8 144), .lit (.int .u8 191)], .agg [.lit (.int .u8 128), .lit (.int .u8 143)], .agg [.lit (.int .u8 0), .lit (.int .u8 0)], .agg [.lit (.int .u8 0), .lit (.int .u8 0)], .agg [.lit (.int .u8 0), .lit (.int .u8 0)], .agg [.lit (.int .u8 0), .lit (.int .u8 0)], .agg [.lit (.int .u8 0), .lit (.int .u8 0)], .agg [.lit (.int .u8 0), .lit (.int .u8 0)], .agg [.lit (.int .u8 0), .lit (.int .u8 0)], .agg [.lit (.int .u8 0), .lit (.int .u8 0)], .agg [.lit (.int .u8 0), .lit (.int .u8 0)], .agg [.lit (.int .u8 0), .lit (.int .u8 0)], .agg [.lit (.int .u8 0), .lit (.int .u8 0)]]
/-- One of Go's own tables, pinned by name: the form's constant. -/
def laid_unicode_utf8_first : DataW Unit := Go.Pinned.utf8First

/-- 'countersignlaw22.IssueOnce': WHATEVER THE INPUT: true; the input reads as it did. -/
def issueOnceSpec : ChangeSpec := { name := "issueOnce", fn := fun _ => fun
  | [d1, d2, d3, d4, d5, d6] => { results := [.lit (.bool true)], args := [d1, d2, d3, d4, d5, d6] }
  | _ => none }
def issueOnceRow : OpenClaim := { program := "ytjccbeodlcjidaagreatdoor", sum := "5e0a5f924faf5cf6b441f309e03c890921d90e47ff19f149a1e4873256195e75", func := "countersign/countersignlaw22.IssueOnce", spec := "issueOnce", inPlace := ["internal/bytealg.IndexByteString", "internal/abi.NoEscape", "internal/bytealg.CountString", "internal/bytealg.IndexString"], unfollowed := true, recurses := true, named := ["unicode/utf8.first", "unicode/utf8.acceptRanges", "internal/bytealg.MaxLen"], apart := false, laid := [("unicode/utf8.acceptRanges", laid_unicode_utf8_acceptRanges), ("unicode/utf8.first", laid_unicode_utf8_first)] }
def IssueOnceSaid : Prop := issueOnceRow.holds Tryz.pinned (OpenSpec.ofChange issueOnceSpec)

/-- ITS FALSE NEIGHBOUR: 'it returns false'. Refute it at one input. -/
def issueOnceWrong : ChangeSpec := { name := "issueOnce", fn := fun _ => fun
  | [d1, d2, d3, d4, d5, d6] => { results := [.lit (.bool false)], args := [d1, d2, d3, d4, d5, d6] }
  | _ => none }
def IssueOnceWrongFalsely : Prop := issueOnceRow.holds Tryz.pinned (OpenSpec.ofChange issueOnceWrong)

/-- 'countersignlaw22.IssueReplay': WHATEVER THE INPUT: true; the input reads as it did. -/
def issueReplaySpec : ChangeSpec := { name := "issueReplay", fn := fun _ => fun
  | [d1, d2, d3, d4] => { results := [.lit (.bool true)], args := [d1, d2, d3, d4] }
  | _ => none }
def issueReplayRow : OpenClaim := { program := "ytjccbeodlcjidaagreatdoor", sum := "5e0a5f924faf5cf6b441f309e03c890921d90e47ff19f149a1e4873256195e75", func := "countersign/countersignlaw22.IssueReplay", spec := "issueReplay", inPlace := ["internal/bytealg.IndexByteString", "internal/abi.NoEscape", "internal/bytealg.CountString", "internal/bytealg.IndexString"], unfollowed := true, recurses := true, named := ["unicode/utf8.first", "unicode/utf8.acceptRanges", "internal/bytealg.MaxLen"], apart := false, laid := [("unicode/utf8.acceptRanges", laid_unicode_utf8_acceptRanges), ("unicode/utf8.first", laid_unicode_utf8_first)] }
def IssueReplaySaid : Prop := issueReplayRow.holds Tryz.pinned (OpenSpec.ofChange issueReplaySpec)

/-- ITS FALSE NEIGHBOUR: 'it returns false'. Refute it at one input. -/
def issueReplayWrong : ChangeSpec := { name := "issueReplay", fn := fun _ => fun
  | [d1, d2, d3, d4] => { results := [.lit (.bool false)], args := [d1, d2, d3, d4] }
  | _ => none }
def IssueReplayWrongFalsely : Prop := issueReplayRow.holds Tryz.pinned (OpenSpec.ofChange issueReplayWrong)

/-- 'countersignlaw22.IssueRenews': WHATEVER THE INPUT: true; the input reads as it did. -/
def issueRenewsSpec : ChangeSpec := { name := "issueRenews", fn := fun _ => fun
  | [d1, d2, d3, d4] => { results := [.lit (.bool true)], args := [d1, d2, d3, d4] }
  | _ => none }
def issueRenewsRow : OpenClaim := { program := "ytjccbeodlcjidaagreatdoor", sum := "5e0a5f924faf5cf6b441f309e03c890921d90e47ff19f149a1e4873256195e75", func := "countersign/countersignlaw22.IssueRenews", spec := "issueRenews", inPlace := ["internal/bytealg.IndexByteString", "internal/abi.NoEscape", "internal/bytealg.CountString", "internal/bytealg.IndexString"], unfollowed := true, recurses := true, named := ["unicode/utf8.first", "unicode/utf8.acceptRanges", "internal/bytealg.MaxLen"], apart := false, laid := [("unicode/utf8.acceptRanges", laid_unicode_utf8_acceptRanges), ("unicode/utf8.first", laid_unicode_utf8_first)] }
def IssueRenewsSaid : Prop := issueRenewsRow.holds Tryz.pinned (OpenSpec.ofChange issueRenewsSpec)

/-- ITS FALSE NEIGHBOUR: 'it returns false'. Refute it at one input. -/
def issueRenewsWrong : ChangeSpec := { name := "issueRenews", fn := fun _ => fun
  | [d1, d2, d3, d4] => { results := [.lit (.bool false)], args := [d1, d2, d3, d4] }
  | _ => none }
def IssueRenewsWrongFalsely : Prop := issueRenewsRow.holds Tryz.pinned (OpenSpec.ofChange issueRenewsWrong)

/-- 'countersignlaw22.IssueFull': WHATEVER THE INPUT: true; the input reads as it did. -/
def issueFullSpec : ChangeSpec := { name := "issueFull", fn := fun _ => fun
  | [d1, d2] => { results := [.lit (.bool true)], args := [d1, d2] }
  | _ => none }
def issueFullRow : OpenClaim := { program := "ytjccbeodlcjidaagreatdoor", sum := "5e0a5f924faf5cf6b441f309e03c890921d90e47ff19f149a1e4873256195e75", func := "countersign/countersignlaw22.IssueFull", spec := "issueFull", inPlace := ["internal/bytealg.IndexByteString", "internal/abi.NoEscape", "internal/bytealg.CountString", "internal/bytealg.IndexString"], unfollowed := true, recurses := true, named := ["unicode/utf8.first", "unicode/utf8.acceptRanges", "internal/bytealg.MaxLen"], apart := false, laid := [("unicode/utf8.acceptRanges", laid_unicode_utf8_acceptRanges), ("unicode/utf8.first", laid_unicode_utf8_first)] }
def IssueFullSaid : Prop := issueFullRow.holds Tryz.pinned (OpenSpec.ofChange issueFullSpec)

/-- ITS FALSE NEIGHBOUR: 'it returns false'. Refute it at one input. -/
def issueFullWrong : ChangeSpec := { name := "issueFull", fn := fun _ => fun
  | [d1, d2] => { results := [.lit (.bool false)], args := [d1, d2] }
  | _ => none }
def IssueFullWrongFalsely : Prop := issueFullRow.holds Tryz.pinned (OpenSpec.ofChange issueFullWrong)

/- THE SECOND FORM. 'bulk': how many values and letters a reading holds, each counted each time it is reached (what is shared counts as often as it is met; a slice's spare places count too). A statement '..UptoSaid' is the law's where the arguments, and the package variables that the reading takes, are together of bulk at most 1048576: NARROWER than '..Said'. Prove '..Said' where nothing that the law and all that it calls make is longer than what came in: it says more and counts as full. Else prove '..UptoSaid'. A law counts once. -/
mutual
def uptoBulk {H : Type} : DataW H → Nat
  | .lit (.string bytes) => bytes.length + 1
  | .lit _ => 1
  | .nil => 1
  | .ptr d => uptoBulk d + 1
  | .slice elems spare => uptoBulkAll elems + uptoBulkAll spare + 1
  | .agg parts => uptoBulkAll parts + 1
  | .iface _ d => uptoBulk d + 1
  | .map entries => uptoBulkEntries entries + 1
  | .held _ => 1
def uptoBulkAll {H : Type} : List (DataW H) → Nat
  | [] => 0
  | d :: r => uptoBulk d + uptoBulkAll r
def uptoBulkEntries {H : Type} : List (Lit × DataW H) → Nat
  | [] => 0
  | x :: r => uptoBulkEntry x + uptoBulkEntries r
def uptoBulkEntry {H : Type} : Lit × DataW H → Nat
  | (.string bytes, d) => bytes.length + uptoBulk d + 1
  | (_, d) => uptoBulk d + 1
 end
def uptoSmall : (H : Type) → List (DataW H) → Bool := fun _ ds => decide (uptoBulkAll ds ≤ 1048576)
def OpenSpec.upto (s : _root_.Go.ChangeSpec) : _root_.Go.OpenSpec := { _root_.Go.OpenSpec.ofChange s with cond := some uptoSmall }

/-- 'countersignlaw22.IssueOnce', WHERE WHAT IT READS IS OF BULK AT MOST 1048576: true; the input reads as it did. -/
def issueOnceUptoRow : OpenClaim := { program := "ytjccbeodlcjidaagreatdoor", sum := "5e0a5f924faf5cf6b441f309e03c890921d90e47ff19f149a1e4873256195e75", func := "countersign/countersignlaw22.IssueOnce", spec := "issueOnce", inPlace := ["internal/bytealg.IndexByteString", "internal/abi.NoEscape", "internal/bytealg.CountString", "internal/bytealg.IndexString"], unfollowed := true, recurses := true, named := ["unicode/utf8.first", "unicode/utf8.acceptRanges", "internal/bytealg.MaxLen"], apart := false, laid := [("unicode/utf8.acceptRanges", laid_unicode_utf8_acceptRanges), ("unicode/utf8.first", laid_unicode_utf8_first)], narrowed := true }
def IssueOnceUptoSaid : Prop := issueOnceUptoRow.holds Tryz.pinned (OpenSpec.upto issueOnceSpec)

/-- 'countersignlaw22.IssueReplay', WHERE WHAT IT READS IS OF BULK AT MOST 1048576: true; the input reads as it did. -/
def issueReplayUptoRow : OpenClaim := { program := "ytjccbeodlcjidaagreatdoor", sum := "5e0a5f924faf5cf6b441f309e03c890921d90e47ff19f149a1e4873256195e75", func := "countersign/countersignlaw22.IssueReplay", spec := "issueReplay", inPlace := ["internal/bytealg.IndexByteString", "internal/abi.NoEscape", "internal/bytealg.CountString", "internal/bytealg.IndexString"], unfollowed := true, recurses := true, named := ["unicode/utf8.first", "unicode/utf8.acceptRanges", "internal/bytealg.MaxLen"], apart := false, laid := [("unicode/utf8.acceptRanges", laid_unicode_utf8_acceptRanges), ("unicode/utf8.first", laid_unicode_utf8_first)], narrowed := true }
def IssueReplayUptoSaid : Prop := issueReplayUptoRow.holds Tryz.pinned (OpenSpec.upto issueReplaySpec)

/-- 'countersignlaw22.IssueRenews', WHERE WHAT IT READS IS OF BULK AT MOST 1048576: true; the input reads as it did. -/
def issueRenewsUptoRow : OpenClaim := { program := "ytjccbeodlcjidaagreatdoor", sum := "5e0a5f924faf5cf6b441f309e03c890921d90e47ff19f149a1e4873256195e75", func := "countersign/countersignlaw22.IssueRenews", spec := "issueRenews", inPlace := ["internal/bytealg.IndexByteString", "internal/abi.NoEscape", "internal/bytealg.CountString", "internal/bytealg.IndexString"], unfollowed := true, recurses := true, named := ["unicode/utf8.first", "unicode/utf8.acceptRanges", "internal/bytealg.MaxLen"], apart := false, laid := [("unicode/utf8.acceptRanges", laid_unicode_utf8_acceptRanges), ("unicode/utf8.first", laid_unicode_utf8_first)], narrowed := true }
def IssueRenewsUptoSaid : Prop := issueRenewsUptoRow.holds Tryz.pinned (OpenSpec.upto issueRenewsSpec)

/-- 'countersignlaw22.IssueFull', WHERE WHAT IT READS IS OF BULK AT MOST 1048576: true; the input reads as it did. -/
def issueFullUptoRow : OpenClaim := { program := "ytjccbeodlcjidaagreatdoor", sum := "5e0a5f924faf5cf6b441f309e03c890921d90e47ff19f149a1e4873256195e75", func := "countersign/countersignlaw22.IssueFull", spec := "issueFull", inPlace := ["internal/bytealg.IndexByteString", "internal/abi.NoEscape", "internal/bytealg.CountString", "internal/bytealg.IndexString"], unfollowed := true, recurses := true, named := ["unicode/utf8.first", "unicode/utf8.acceptRanges", "internal/bytealg.MaxLen"], apart := false, laid := [("unicode/utf8.acceptRanges", laid_unicode_utf8_acceptRanges), ("unicode/utf8.first", laid_unicode_utf8_first)], narrowed := true }
def IssueFullUptoSaid : Prop := issueFullUptoRow.holds Tryz.pinned (OpenSpec.upto issueFullSpec)

end Rows
end Go.Proofs.YtjccbeodlcjidaaGreatDoor
