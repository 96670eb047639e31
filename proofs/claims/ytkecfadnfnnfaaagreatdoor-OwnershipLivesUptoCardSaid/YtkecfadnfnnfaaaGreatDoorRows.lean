/-
  NARROWER THAN 'FOR EVERY INPUT', by the rows' own cells (each row's printed sentence says how): OwnershipCompletes: laid · OwnershipPaths: laid · OwnershipChecks: laid · OwnershipSettles: laid · OwnershipDrops: laid · RenameInlines: laid · OwnershipLives: laid · RenameCompares: laid · RenameMoves: laid.
  DERIVED. THE GIVEN ROWS OF THIS SEAT. 9 by the template 'for every input the law returns true; each argument reads behind the call as it read before'; 0 by the template 'total and deterministic' (their statements: YtkecfadnfnnfaaaGreatDoorTotals.lean).
  GIVEN WITH THE SEED: the statements are not yours to turn. If you find one false, say at which input.
  Laid BY PROGRAM, IN A SANDBOX (cutbox-rows.mjs): the forced cells as the released guide's own fill.sh prints them over the translation 9d76900b64d1a560… (all of the seat's roots in one cut). By AI agents, Wed Nov 11 2026. No macro, syntax, notation, axiom, sorry.
-/
import Derived.Test.YtkecfadnfnnfaaaGreatDoorChecked
import GoSem.PinnedTables
import GoSem.Claim
import GoSem.ClaimJoined
import GoSem.ClaimMapViews
import Derived.JoinedTies
import Derived.KernelRfl
namespace Go.Proofs.YtkecfadnfnnfaaaGreatDoor
/- THE CELL 'sum', in the pinned program and in every row, IS THE sha256 OF THE DUMP (.gsa) THAT YtkecfadnfnnfaaaGreatDoorProg.lean LOADS. Nothing in Lean hashes anything: it is a label: what it is worth is what the hold of that sum in a sandbox is worth. -/
noncomputable def Tryz.pinned : Pinned := { name := "ytkecfadnfnnfaaagreatdoor", sum := "9d76900b64d1a5606346a0691ec626935d3518517d0bc4ea32b76cfd392f5cb3", checked := Tryz.checked }
namespace Rows
def none {H : Type} : Left H := { results := [], args := [] }

/- WHAT THE LISTED PACKAGE-LEVEL VARIABLES READ AS WHEN THE CALL BEGINS. Each datum BY PROGRAM (the guide's laid-datum.mjs) off the statement by which the dump's own 'gosem.cut.vars' lays the variable. In a bare row this is a premise. The card (YtkecfadnfnnfaaaGreatDoorCards.lean) ties it to the program's text. -/
def laid_unicode_utf8_acceptRanges {H : Type} : DataW H := .agg [.agg [.lit (.int .u8 128), .lit (.int .u8 191)], .agg [.lit (.int .u8 160), .lit (.int .u8 191)], .agg [.lit (.int .u8 128), .lit (.int .u8 159)], .agg [.lit (.int .u8 144), .lit (.int .u8 191)], .agg [.lit (.int .u8 128), .lit (.int .u8 143)], .agg [.lit (.int .u8 0), .lit (.int .u8 0)], .agg [.lit (.int .u8 0), .lit (.int .u8 0)], .agg [.lit (.int .u8 0), .lit (.int .u8 0)], .agg [.lit (.int .u8 0), .lit (.int .u8 0)], .agg [.lit (.int .u8 0), .lit (.int .u8 0)], .agg [.lit (.int .u8 0), .lit (.int .u8 0)], .agg [.lit (.int .u8 0), .lit (.int .u8 0)], .agg [.lit (.int .u8 0), .lit (.int .u8 0)], .agg [.lit (.int .u8 0), .lit (.int .u8 0)], .agg [.lit (.int .u8 0), .lit (.int .u8 0)], .agg [.lit (.int .u8 0), .lit (.int .u8 0)]]
/-- One of Go's own tables, pinned by name: the form's constant. -/
def laid_unicode_utf8_first : DataW Unit := Go.Pinned.utf8First

/-- 'cellarerlaw22.OwnershipCompletes': WHATEVER THE INPUT: true; the input reads as it did. -/
def ownershipCompletesSpec : ChangeSpec := { name := "ownershipCompletes", fn := fun _ => fun
  | [d] => { results := [.lit (.bool true)], args := [d] }
  | _ => none }
def ownershipCompletesRow : OpenClaim := { program := "ytkecfadnfnnfaaagreatdoor", sum := "9d76900b64d1a5606346a0691ec626935d3518517d0bc4ea32b76cfd392f5cb3", func := "cellarer/cellarerlaw22.OwnershipCompletes", spec := "ownershipCompletes", inPlace := ["internal/bytealg.IndexByteString", "internal/bytealg.IndexString"], unfollowed := true, recurses := true, named := ["internal/bytealg.MaxLen", "unicode/utf8.first", "unicode/utf8.acceptRanges"], apart := false, laid := [("unicode/utf8.acceptRanges", laid_unicode_utf8_acceptRanges), ("unicode/utf8.first", laid_unicode_utf8_first)] }
def OwnershipCompletesSaid : Prop := ownershipCompletesRow.holds Tryz.pinned (OpenSpec.ofChange ownershipCompletesSpec)

/-- ITS FALSE NEIGHBOUR: 'it returns false'. Refute it at one input. -/
def ownershipCompletesWrong : ChangeSpec := { name := "ownershipCompletes", fn := fun _ => fun
  | [d] => { results := [.lit (.bool false)], args := [d] }
  | _ => none }
def OwnershipCompletesWrongFalsely : Prop := ownershipCompletesRow.holds Tryz.pinned (OpenSpec.ofChange ownershipCompletesWrong)

/-- 'cellarerlaw22.OwnershipPaths': WHATEVER THE INPUT: true; the input reads as it did. -/
def ownershipPathsSpec : ChangeSpec := { name := "ownershipPaths", fn := fun _ => fun
  | [d] => { results := [.lit (.bool true)], args := [d] }
  | _ => none }
def ownershipPathsRow : OpenClaim := { program := "ytkecfadnfnnfaaagreatdoor", sum := "9d76900b64d1a5606346a0691ec626935d3518517d0bc4ea32b76cfd392f5cb3", func := "cellarer/cellarerlaw22.OwnershipPaths", spec := "ownershipPaths", inPlace := ["internal/bytealg.IndexByteString", "internal/bytealg.IndexString"], unfollowed := true, recurses := true, named := ["internal/bytealg.MaxLen", "unicode/utf8.first", "unicode/utf8.acceptRanges"], apart := false, laid := [("unicode/utf8.acceptRanges", laid_unicode_utf8_acceptRanges), ("unicode/utf8.first", laid_unicode_utf8_first)] }
def OwnershipPathsSaid : Prop := ownershipPathsRow.holds Tryz.pinned (OpenSpec.ofChange ownershipPathsSpec)

/-- ITS FALSE NEIGHBOUR: 'it returns false'. Refute it at one input. -/
def ownershipPathsWrong : ChangeSpec := { name := "ownershipPaths", fn := fun _ => fun
  | [d] => { results := [.lit (.bool false)], args := [d] }
  | _ => none }
def OwnershipPathsWrongFalsely : Prop := ownershipPathsRow.holds Tryz.pinned (OpenSpec.ofChange ownershipPathsWrong)

/-- 'cellarerlaw22.OwnershipChecks': WHATEVER THE INPUT: true; the input reads as it did. -/
def ownershipChecksSpec : ChangeSpec := { name := "ownershipChecks", fn := fun _ => fun
  | [d1, d2] => { results := [.lit (.bool true)], args := [d1, d2] }
  | _ => none }
def ownershipChecksRow : OpenClaim := { program := "ytkecfadnfnnfaaagreatdoor", sum := "9d76900b64d1a5606346a0691ec626935d3518517d0bc4ea32b76cfd392f5cb3", func := "cellarer/cellarerlaw22.OwnershipChecks", spec := "ownershipChecks", inPlace := ["internal/bytealg.IndexByteString", "internal/bytealg.IndexString"], unfollowed := true, recurses := true, named := ["internal/bytealg.MaxLen", "unicode/utf8.first", "unicode/utf8.acceptRanges"], apart := false, laid := [("unicode/utf8.acceptRanges", laid_unicode_utf8_acceptRanges), ("unicode/utf8.first", laid_unicode_utf8_first)] }
def OwnershipChecksSaid : Prop := ownershipChecksRow.holds Tryz.pinned (OpenSpec.ofChange ownershipChecksSpec)

/-- ITS FALSE NEIGHBOUR: 'it returns false'. Refute it at one input. -/
def ownershipChecksWrong : ChangeSpec := { name := "ownershipChecks", fn := fun _ => fun
  | [d1, d2] => { results := [.lit (.bool false)], args := [d1, d2] }
  | _ => none }
def OwnershipChecksWrongFalsely : Prop := ownershipChecksRow.holds Tryz.pinned (OpenSpec.ofChange ownershipChecksWrong)

/-- 'cellarerlaw22.OwnershipSettles': WHATEVER THE INPUT: true; the input reads as it did. -/
def ownershipSettlesSpec : ChangeSpec := { name := "ownershipSettles", fn := fun _ => fun
  | [d] => { results := [.lit (.bool true)], args := [d] }
  | _ => none }
def ownershipSettlesRow : OpenClaim := { program := "ytkecfadnfnnfaaagreatdoor", sum := "9d76900b64d1a5606346a0691ec626935d3518517d0bc4ea32b76cfd392f5cb3", func := "cellarer/cellarerlaw22.OwnershipSettles", spec := "ownershipSettles", inPlace := ["internal/bytealg.IndexByteString", "internal/bytealg.IndexString"], unfollowed := true, recurses := true, named := ["internal/bytealg.MaxLen", "unicode/utf8.first", "unicode/utf8.acceptRanges"], apart := false, laid := [("unicode/utf8.acceptRanges", laid_unicode_utf8_acceptRanges), ("unicode/utf8.first", laid_unicode_utf8_first)] }
def OwnershipSettlesSaid : Prop := ownershipSettlesRow.holds Tryz.pinned (OpenSpec.ofChange ownershipSettlesSpec)

/-- ITS FALSE NEIGHBOUR: 'it returns false'. Refute it at one input. -/
def ownershipSettlesWrong : ChangeSpec := { name := "ownershipSettles", fn := fun _ => fun
  | [d] => { results := [.lit (.bool false)], args := [d] }
  | _ => none }
def OwnershipSettlesWrongFalsely : Prop := ownershipSettlesRow.holds Tryz.pinned (OpenSpec.ofChange ownershipSettlesWrong)

/-- 'cellarerlaw22.OwnershipDrops': WHATEVER THE INPUT: true; the input reads as it did. -/
def ownershipDropsSpec : ChangeSpec := { name := "ownershipDrops", fn := fun _ => fun
  | [d] => { results := [.lit (.bool true)], args := [d] }
  | _ => none }
def ownershipDropsRow : OpenClaim := { program := "ytkecfadnfnnfaaagreatdoor", sum := "9d76900b64d1a5606346a0691ec626935d3518517d0bc4ea32b76cfd392f5cb3", func := "cellarer/cellarerlaw22.OwnershipDrops", spec := "ownershipDrops", inPlace := ["internal/bytealg.IndexByteString", "internal/bytealg.IndexString"], unfollowed := true, recurses := true, named := ["internal/bytealg.MaxLen", "unicode/utf8.first", "unicode/utf8.acceptRanges"], apart := false, laid := [("unicode/utf8.acceptRanges", laid_unicode_utf8_acceptRanges), ("unicode/utf8.first", laid_unicode_utf8_first)] }
def OwnershipDropsSaid : Prop := ownershipDropsRow.holds Tryz.pinned (OpenSpec.ofChange ownershipDropsSpec)

/-- ITS FALSE NEIGHBOUR: 'it returns false'. Refute it at one input. -/
def ownershipDropsWrong : ChangeSpec := { name := "ownershipDrops", fn := fun _ => fun
  | [d] => { results := [.lit (.bool false)], args := [d] }
  | _ => none }
def OwnershipDropsWrongFalsely : Prop := ownershipDropsRow.holds Tryz.pinned (OpenSpec.ofChange ownershipDropsWrong)

/-- 'cellarerlaw21.RenameInlines': WHATEVER THE INPUT: true; the input reads as it did. -/
def renameInlinesSpec : ChangeSpec := { name := "renameInlines", fn := fun _ => fun
  | [d1, d2, d3] => { results := [.lit (.bool true)], args := [d1, d2, d3] }
  | _ => none }
def renameInlinesRow : OpenClaim := { program := "ytkecfadnfnnfaaagreatdoor", sum := "9d76900b64d1a5606346a0691ec626935d3518517d0bc4ea32b76cfd392f5cb3", func := "cellarer/cellarerlaw21.RenameInlines", spec := "renameInlines", inPlace := ["internal/bytealg.IndexByteString", "internal/bytealg.IndexString"], unfollowed := true, recurses := true, named := ["internal/bytealg.MaxLen", "unicode/utf8.first", "unicode/utf8.acceptRanges"], apart := false, laid := [("unicode/utf8.acceptRanges", laid_unicode_utf8_acceptRanges), ("unicode/utf8.first", laid_unicode_utf8_first)] }
def RenameInlinesSaid : Prop := renameInlinesRow.holds Tryz.pinned (OpenSpec.ofChange renameInlinesSpec)

/-- ITS FALSE NEIGHBOUR: 'it returns false'. Refute it at one input. -/
def renameInlinesWrong : ChangeSpec := { name := "renameInlines", fn := fun _ => fun
  | [d1, d2, d3] => { results := [.lit (.bool false)], args := [d1, d2, d3] }
  | _ => none }
def RenameInlinesWrongFalsely : Prop := renameInlinesRow.holds Tryz.pinned (OpenSpec.ofChange renameInlinesWrong)

/-- 'cellarerlaw22.OwnershipLives': WHATEVER THE INPUT: true; the input reads as it did. -/
def ownershipLivesSpec : ChangeSpec := { name := "ownershipLives", fn := fun _ => fun
  | [d1, d2, d3] => { results := [.lit (.bool true)], args := [d1, d2, d3] }
  | _ => none }
def ownershipLivesRow : OpenClaim := { program := "ytkecfadnfnnfaaagreatdoor", sum := "9d76900b64d1a5606346a0691ec626935d3518517d0bc4ea32b76cfd392f5cb3", func := "cellarer/cellarerlaw22.OwnershipLives", spec := "ownershipLives", inPlace := ["internal/bytealg.IndexByteString", "internal/bytealg.IndexString"], unfollowed := true, recurses := true, named := ["internal/bytealg.MaxLen", "unicode/utf8.first", "unicode/utf8.acceptRanges"], apart := false, laid := [("unicode/utf8.acceptRanges", laid_unicode_utf8_acceptRanges), ("unicode/utf8.first", laid_unicode_utf8_first)] }
def OwnershipLivesSaid : Prop := ownershipLivesRow.holds Tryz.pinned (OpenSpec.ofChange ownershipLivesSpec)

/-- ITS FALSE NEIGHBOUR: 'it returns false'. Refute it at one input. -/
def ownershipLivesWrong : ChangeSpec := { name := "ownershipLives", fn := fun _ => fun
  | [d1, d2, d3] => { results := [.lit (.bool false)], args := [d1, d2, d3] }
  | _ => none }
def OwnershipLivesWrongFalsely : Prop := ownershipLivesRow.holds Tryz.pinned (OpenSpec.ofChange ownershipLivesWrong)

/-- 'cellarerlaw21.RenameCompares': WHATEVER THE INPUT: true; the input reads as it did. -/
def renameComparesSpec : ChangeSpec := { name := "renameCompares", fn := fun _ => fun
  | [d1, d2] => { results := [.lit (.bool true)], args := [d1, d2] }
  | _ => none }
def renameComparesRow : OpenClaim := { program := "ytkecfadnfnnfaaagreatdoor", sum := "9d76900b64d1a5606346a0691ec626935d3518517d0bc4ea32b76cfd392f5cb3", func := "cellarer/cellarerlaw21.RenameCompares", spec := "renameCompares", inPlace := ["internal/bytealg.IndexByteString", "internal/bytealg.IndexString"], unfollowed := true, recurses := true, named := ["internal/bytealg.MaxLen", "unicode/utf8.first", "unicode/utf8.acceptRanges"], apart := false, laid := [("unicode/utf8.acceptRanges", laid_unicode_utf8_acceptRanges), ("unicode/utf8.first", laid_unicode_utf8_first)] }
def RenameComparesSaid : Prop := renameComparesRow.holds Tryz.pinned (OpenSpec.ofChange renameComparesSpec)

/-- ITS FALSE NEIGHBOUR: 'it returns false'. Refute it at one input. -/
def renameComparesWrong : ChangeSpec := { name := "renameCompares", fn := fun _ => fun
  | [d1, d2] => { results := [.lit (.bool false)], args := [d1, d2] }
  | _ => none }
def RenameComparesWrongFalsely : Prop := renameComparesRow.holds Tryz.pinned (OpenSpec.ofChange renameComparesWrong)

/-- 'cellarerlaw21.RenameMoves': WHATEVER THE INPUT: true; the input reads as it did. -/
def renameMovesSpec : ChangeSpec := { name := "renameMoves", fn := fun _ => fun
  | [d] => { results := [.lit (.bool true)], args := [d] }
  | _ => none }
def renameMovesRow : OpenClaim := { program := "ytkecfadnfnnfaaagreatdoor", sum := "9d76900b64d1a5606346a0691ec626935d3518517d0bc4ea32b76cfd392f5cb3", func := "cellarer/cellarerlaw21.RenameMoves", spec := "renameMoves", inPlace := ["internal/bytealg.IndexByteString", "internal/bytealg.IndexString"], unfollowed := true, recurses := true, named := ["internal/bytealg.MaxLen", "unicode/utf8.first", "unicode/utf8.acceptRanges"], apart := false, laid := [("unicode/utf8.acceptRanges", laid_unicode_utf8_acceptRanges), ("unicode/utf8.first", laid_unicode_utf8_first)] }
def RenameMovesSaid : Prop := renameMovesRow.holds Tryz.pinned (OpenSpec.ofChange renameMovesSpec)

/-- ITS FALSE NEIGHBOUR: 'it returns false'. Refute it at one input. -/
def renameMovesWrong : ChangeSpec := { name := "renameMoves", fn := fun _ => fun
  | [d] => { results := [.lit (.bool false)], args := [d] }
  | _ => none }
def RenameMovesWrongFalsely : Prop := renameMovesRow.holds Tryz.pinned (OpenSpec.ofChange renameMovesWrong)

/- THE SECOND FORM. 'bulk': how many values and letters a reading holds, each counted each time it is reached (what is shared counts as often as it is met; a slice's spare places count too). A statement '..UptoSaid' is the law's where the arguments, and the package variables that the reading takes, are together of bulk at most 1048576: NARROWER than '..Said'. Prove '..Said' where nothing that the law and all that it calls make is longer than what came in: it says more and counts as full. Else prove '..UptoSaid'. A law counts once. -/
mutual
def uptoBulk {H : Type} : DataW H → Nat
  | .lit (.string bytes) => bytes.length + 1
  | .lit _ => 1
  | .nil => 1
  | .ptr d => uptoBulk d + 1
  | .slice elems spare => uptoBulkAll elems + uptoBulkAll spare + 1
  | .agg parts => uptoBulkAll parts + 1
  | .iface _ d => uptoBulk d + 1
  | .map entries => uptoBulkEntries entries + 1
  | .held _ => 1
def uptoBulkAll {H : Type} : List (DataW H) → Nat
  | [] => 0
  | d :: r => uptoBulk d + uptoBulkAll r
def uptoBulkEntries {H : Type} : List (Lit × DataW H) → Nat
  | [] => 0
  | x :: r => uptoBulkEntry x + uptoBulkEntries r
def uptoBulkEntry {H : Type} : Lit × DataW H → Nat
  | (.string bytes, d) => bytes.length + uptoBulk d + 1
  | (_, d) => uptoBulk d + 1
 end
def uptoSmall : (H : Type) → List (DataW H) → Bool := fun _ ds => decide (uptoBulkAll ds ≤ 1048576)
def OpenSpec.upto (s : _root_.Go.ChangeSpec) : _root_.Go.OpenSpec := { _root_.Go.OpenSpec.ofChange s with cond := some uptoSmall }

/-- 'cellarerlaw22.OwnershipCompletes', WHERE WHAT IT READS IS OF BULK AT MOST 1048576: true; the input reads as it did. -/
def ownershipCompletesUptoRow : OpenClaim := { program := "ytkecfadnfnnfaaagreatdoor", sum := "9d76900b64d1a5606346a0691ec626935d3518517d0bc4ea32b76cfd392f5cb3", func := "cellarer/cellarerlaw22.OwnershipCompletes", spec := "ownershipCompletes", inPlace := ["internal/bytealg.IndexByteString", "internal/bytealg.IndexString"], unfollowed := true, recurses := true, named := ["internal/bytealg.MaxLen", "unicode/utf8.first", "unicode/utf8.acceptRanges"], apart := false, laid := [("unicode/utf8.acceptRanges", laid_unicode_utf8_acceptRanges), ("unicode/utf8.first", laid_unicode_utf8_first)], narrowed := true }
def OwnershipCompletesUptoSaid : Prop := ownershipCompletesUptoRow.holds Tryz.pinned (OpenSpec.upto ownershipCompletesSpec)

/-- 'cellarerlaw22.OwnershipPaths', WHERE WHAT IT READS IS OF BULK AT MOST 1048576: true; the input reads as it did. -/
def ownershipPathsUptoRow : OpenClaim := { program := "ytkecfadnfnnfaaagreatdoor", sum := "9d76900b64d1a5606346a0691ec626935d3518517d0bc4ea32b76cfd392f5cb3", func := "cellarer/cellarerlaw22.OwnershipPaths", spec := "ownershipPaths", inPlace := ["internal/bytealg.IndexByteString", "internal/bytealg.IndexString"], unfollowed := true, recurses := true, named := ["internal/bytealg.MaxLen", "unicode/utf8.first", "unicode/utf8.acceptRanges"], apart := false, laid := [("unicode/utf8.acceptRanges", laid_unicode_utf8_acceptRanges), ("unicode/utf8.first", laid_unicode_utf8_first)], narrowed := true }
def OwnershipPathsUptoSaid : Prop := ownershipPathsUptoRow.holds Tryz.pinned (OpenSpec.upto ownershipPathsSpec)

/-- 'cellarerlaw22.OwnershipChecks', WHERE WHAT IT READS IS OF BULK AT MOST 1048576: true; the input reads as it did. -/
def ownershipChecksUptoRow : OpenClaim := { program := "ytkecfadnfnnfaaagreatdoor", sum := "9d76900b64d1a5606346a0691ec626935d3518517d0bc4ea32b76cfd392f5cb3", func := "cellarer/cellarerlaw22.OwnershipChecks", spec := "ownershipChecks", inPlace := ["internal/bytealg.IndexByteString", "internal/bytealg.IndexString"], unfollowed := true, recurses := true, named := ["internal/bytealg.MaxLen", "unicode/utf8.first", "unicode/utf8.acceptRanges"], apart := false, laid := [("unicode/utf8.acceptRanges", laid_unicode_utf8_acceptRanges), ("unicode/utf8.first", laid_unicode_utf8_first)], narrowed := true }
def OwnershipChecksUptoSaid : Prop := ownershipChecksUptoRow.holds Tryz.pinned (OpenSpec.upto ownershipChecksSpec)

/-- 'cellarerlaw22.OwnershipSettles', WHERE WHAT IT READS IS OF BULK AT MOST 1048576: true; the input reads as it did. -/
def ownershipSettlesUptoRow : OpenClaim := { program := "ytkecfadnfnnfaaagreatdoor", sum := "9d76900b64d1a5606346a0691ec626935d3518517d0bc4ea32b76cfd392f5cb3", func := "cellarer/cellarerlaw22.OwnershipSettles", spec := "ownershipSettles", inPlace := ["internal/bytealg.IndexByteString", "internal/bytealg.IndexString"], unfollowed := true, recurses := true, named := ["internal/bytealg.MaxLen", "unicode/utf8.first", "unicode/utf8.acceptRanges"], apart := false, laid := [("unicode/utf8.acceptRanges", laid_unicode_utf8_acceptRanges), ("unicode/utf8.first", laid_unicode_utf8_first)], narrowed := true }
def OwnershipSettlesUptoSaid : Prop := ownershipSettlesUptoRow.holds Tryz.pinned (OpenSpec.upto ownershipSettlesSpec)

/-- 'cellarerlaw22.OwnershipDrops', WHERE WHAT IT READS IS OF BULK AT MOST 1048576: true; the input reads as it did. -/
def ownershipDropsUptoRow : OpenClaim := { program := "ytkecfadnfnnfaaagreatdoor", sum := "9d76900b64d1a5606346a0691ec626935d3518517d0bc4ea32b76cfd392f5cb3", func := "cellarer/cellarerlaw22.OwnershipDrops", spec := "ownershipDrops", inPlace := ["internal/bytealg.IndexByteString", "internal/bytealg.IndexString"], unfollowed := true, recurses := true, named := ["internal/bytealg.MaxLen", "unicode/utf8.first", "unicode/utf8.acceptRanges"], apart := false, laid := [("unicode/utf8.acceptRanges", laid_unicode_utf8_acceptRanges), ("unicode/utf8.first", laid_unicode_utf8_first)], narrowed := true }
def OwnershipDropsUptoSaid : Prop := ownershipDropsUptoRow.holds Tryz.pinned (OpenSpec.upto ownershipDropsSpec)

/-- 'cellarerlaw21.RenameInlines', WHERE WHAT IT READS IS OF BULK AT MOST 1048576: true; the input reads as it did. -/
def renameInlinesUptoRow : OpenClaim := { program := "ytkecfadnfnnfaaagreatdoor", sum := "9d76900b64d1a5606346a0691ec626935d3518517d0bc4ea32b76cfd392f5cb3", func := "cellarer/cellarerlaw21.RenameInlines", spec := "renameInlines", inPlace := ["internal/bytealg.IndexByteString", "internal/bytealg.IndexString"], unfollowed := true, recurses := true, named := ["internal/bytealg.MaxLen", "unicode/utf8.first", "unicode/utf8.acceptRanges"], apart := false, laid := [("unicode/utf8.acceptRanges", laid_unicode_utf8_acceptRanges), ("unicode/utf8.first", laid_unicode_utf8_first)], narrowed := true }
def RenameInlinesUptoSaid : Prop := renameInlinesUptoRow.holds Tryz.pinned (OpenSpec.upto renameInlinesSpec)

/-- 'cellarerlaw22.OwnershipLives', WHERE WHAT IT READS IS OF BULK AT MOST 1048576: true; the input reads as it did. -/
def ownershipLivesUptoRow : OpenClaim := { program := "ytkecfadnfnnfaaagreatdoor", sum := "9d76900b64d1a5606346a0691ec626935d3518517d0bc4ea32b76cfd392f5cb3", func := "cellarer/cellarerlaw22.OwnershipLives", spec := "ownershipLives", inPlace := ["internal/bytealg.IndexByteString", "internal/bytealg.IndexString"], unfollowed := true, recurses := true, named := ["internal/bytealg.MaxLen", "unicode/utf8.first", "unicode/utf8.acceptRanges"], apart := false, laid := [("unicode/utf8.acceptRanges", laid_unicode_utf8_acceptRanges), ("unicode/utf8.first", laid_unicode_utf8_first)], narrowed := true }
def OwnershipLivesUptoSaid : Prop := ownershipLivesUptoRow.holds Tryz.pinned (OpenSpec.upto ownershipLivesSpec)

/-- 'cellarerlaw21.RenameCompares', WHERE WHAT IT READS IS OF BULK AT MOST 1048576: true; the input reads as it did. -/
def renameComparesUptoRow : OpenClaim := { program := "ytkecfadnfnnfaaagreatdoor", sum := "9d76900b64d1a5606346a0691ec626935d3518517d0bc4ea32b76cfd392f5cb3", func := "cellarer/cellarerlaw21.RenameCompares", spec := "renameCompares", inPlace := ["internal/bytealg.IndexByteString", "internal/bytealg.IndexString"], unfollowed := true, recurses := true, named := ["internal/bytealg.MaxLen", "unicode/utf8.first", "unicode/utf8.acceptRanges"], apart := false, laid := [("unicode/utf8.acceptRanges", laid_unicode_utf8_acceptRanges), ("unicode/utf8.first", laid_unicode_utf8_first)], narrowed := true }
def RenameComparesUptoSaid : Prop := renameComparesUptoRow.holds Tryz.pinned (OpenSpec.upto renameComparesSpec)

/-- 'cellarerlaw21.RenameMoves', WHERE WHAT IT READS IS OF BULK AT MOST 1048576: true; the input reads as it did. -/
def renameMovesUptoRow : OpenClaim := { program := "ytkecfadnfnnfaaagreatdoor", sum := "9d76900b64d1a5606346a0691ec626935d3518517d0bc4ea32b76cfd392f5cb3", func := "cellarer/cellarerlaw21.RenameMoves", spec := "renameMoves", inPlace := ["internal/bytealg.IndexByteString", "internal/bytealg.IndexString"], unfollowed := true, recurses := true, named := ["internal/bytealg.MaxLen", "unicode/utf8.first", "unicode/utf8.acceptRanges"], apart := false, laid := [("unicode/utf8.acceptRanges", laid_unicode_utf8_acceptRanges), ("unicode/utf8.first", laid_unicode_utf8_first)], narrowed := true }
def RenameMovesUptoSaid : Prop := renameMovesUptoRow.holds Tryz.pinned (OpenSpec.upto renameMovesSpec)

end Rows
end Go.Proofs.YtkecfadnfnnfaaaGreatDoor
