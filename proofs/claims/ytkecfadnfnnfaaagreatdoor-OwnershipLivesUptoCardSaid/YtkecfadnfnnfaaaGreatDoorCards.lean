/-
  DERIVED. GIVEN WITH THE SEED: THE CARDS: each row of YtkecfadnfnnfaaaGreatDoorRows.lean that lists a variable, with what it lists TIED to the program's text (the seventh form; the later family's looks); each row that meets fmt, with fmt's text TOLD by the authors' own Lean function (tested against real Go, not proved from fmt's source: count such statements apart). THE CARD IS WHAT COUNTS. Prove the row's statement (the work); the ties are given (YtkecfadnfnnfaaaGreatDoorTie.lean); close each card by the builder's one call (the guide's Derived/Test/ToyasCard.lean, 'card_holds'). Laid BY PROGRAM, IN A SANDBOX (cutbox-door.mjs). By AI agents, Wed Nov 11 2026. No macro, syntax, notation, axiom, sorry.
-/
import Derived.Test.YtkecfadnfnnfaaaGreatDoorRows
import GoSem.ClaimSeven
namespace Go.Proofs.YtkecfadnfnnfaaaGreatDoor
namespace Rows

/-- THE TIED CARD OF 'cellarerlaw22.OwnershipCompletes'. -/
def ownershipCompletesCard : Claim7 := { stood := { row := ownershipCompletesRow, standIns := [], harness := (true, "98072779bcb222dd4e5ccf16eb900229f3b3bede65a24e9cd73c73baf145d65b"), looks := false }, kinds := [], alts := [], laidByText := true, laidKinds := [.data, .pinned], laidTests := true, laidLooks := .later }
def OwnershipCompletesCardSaid : Prop := Claim7.holds Tryz.pinned (.plain (OpenSpec.ofChange ownershipCompletesSpec)) ownershipCompletesCard

/-- THE TIED CARD OF 'cellarerlaw22.OwnershipPaths'. -/
def ownershipPathsCard : Claim7 := { stood := { row := ownershipPathsRow, standIns := [], harness := (true, "98072779bcb222dd4e5ccf16eb900229f3b3bede65a24e9cd73c73baf145d65b"), looks := false }, kinds := [], alts := [], laidByText := true, laidKinds := [.data, .pinned], laidTests := true, laidLooks := .later }
def OwnershipPathsCardSaid : Prop := Claim7.holds Tryz.pinned (.plain (OpenSpec.ofChange ownershipPathsSpec)) ownershipPathsCard

/-- THE TIED CARD OF 'cellarerlaw22.OwnershipChecks'. -/
def ownershipChecksCard : Claim7 := { stood := { row := ownershipChecksRow, standIns := [], harness := (true, "98072779bcb222dd4e5ccf16eb900229f3b3bede65a24e9cd73c73baf145d65b"), looks := false }, kinds := [], alts := [], laidByText := true, laidKinds := [.data, .pinned], laidTests := true, laidLooks := .later }
def OwnershipChecksCardSaid : Prop := Claim7.holds Tryz.pinned (.plain (OpenSpec.ofChange ownershipChecksSpec)) ownershipChecksCard

/-- THE TIED CARD OF 'cellarerlaw22.OwnershipSettles'. -/
def ownershipSettlesCard : Claim7 := { stood := { row := ownershipSettlesRow, standIns := [], harness := (true, "98072779bcb222dd4e5ccf16eb900229f3b3bede65a24e9cd73c73baf145d65b"), looks := false }, kinds := [], alts := [], laidByText := true, laidKinds := [.data, .pinned], laidTests := true, laidLooks := .later }
def OwnershipSettlesCardSaid : Prop := Claim7.holds Tryz.pinned (.plain (OpenSpec.ofChange ownershipSettlesSpec)) ownershipSettlesCard

/-- THE TIED CARD OF 'cellarerlaw22.OwnershipDrops'. -/
def ownershipDropsCard : Claim7 := { stood := { row := ownershipDropsRow, standIns := [], harness := (true, "98072779bcb222dd4e5ccf16eb900229f3b3bede65a24e9cd73c73baf145d65b"), looks := false }, kinds := [], alts := [], laidByText := true, laidKinds := [.data, .pinned], laidTests := true, laidLooks := .later }
def OwnershipDropsCardSaid : Prop := Claim7.holds Tryz.pinned (.plain (OpenSpec.ofChange ownershipDropsSpec)) ownershipDropsCard

/-- THE TIED CARD OF 'cellarerlaw21.RenameInlines'. -/
def renameInlinesCard : Claim7 := { stood := { row := renameInlinesRow, standIns := [], harness := (true, "98072779bcb222dd4e5ccf16eb900229f3b3bede65a24e9cd73c73baf145d65b"), looks := false }, kinds := [], alts := [], laidByText := true, laidKinds := [.data, .pinned], laidTests := true, laidLooks := .later }
def RenameInlinesCardSaid : Prop := Claim7.holds Tryz.pinned (.plain (OpenSpec.ofChange renameInlinesSpec)) renameInlinesCard

/-- THE TIED CARD OF 'cellarerlaw22.OwnershipLives'. -/
def ownershipLivesCard : Claim7 := { stood := { row := ownershipLivesRow, standIns := [], harness := (true, "98072779bcb222dd4e5ccf16eb900229f3b3bede65a24e9cd73c73baf145d65b"), looks := false }, kinds := [], alts := [], laidByText := true, laidKinds := [.data, .pinned], laidTests := true, laidLooks := .later }
def OwnershipLivesCardSaid : Prop := Claim7.holds Tryz.pinned (.plain (OpenSpec.ofChange ownershipLivesSpec)) ownershipLivesCard

/-- THE TIED CARD OF 'cellarerlaw21.RenameCompares'. -/
def renameComparesCard : Claim7 := { stood := { row := renameComparesRow, standIns := [], harness := (true, "98072779bcb222dd4e5ccf16eb900229f3b3bede65a24e9cd73c73baf145d65b"), looks := false }, kinds := [], alts := [], laidByText := true, laidKinds := [.data, .pinned], laidTests := true, laidLooks := .later }
def RenameComparesCardSaid : Prop := Claim7.holds Tryz.pinned (.plain (OpenSpec.ofChange renameComparesSpec)) renameComparesCard

/-- THE TIED CARD OF 'cellarerlaw21.RenameMoves'. -/
def renameMovesCard : Claim7 := { stood := { row := renameMovesRow, standIns := [], harness := (true, "98072779bcb222dd4e5ccf16eb900229f3b3bede65a24e9cd73c73baf145d65b"), looks := false }, kinds := [], alts := [], laidByText := true, laidKinds := [.data, .pinned], laidTests := true, laidLooks := .later }
def RenameMovesCardSaid : Prop := Claim7.holds Tryz.pinned (.plain (OpenSpec.ofChange renameMovesSpec)) renameMovesCard

/-- THE SECOND FORM's CARD OF 'cellarerlaw22.OwnershipCompletes'. -/
def ownershipCompletesUptoCard : Claim7 := { stood := { row := ownershipCompletesUptoRow, standIns := [], harness := (true, "98072779bcb222dd4e5ccf16eb900229f3b3bede65a24e9cd73c73baf145d65b"), looks := false }, kinds := [], alts := [], laidByText := true, laidKinds := [.data, .pinned], laidTests := true, laidLooks := .later }
def OwnershipCompletesUptoCardSaid : Prop := Claim7.holds Tryz.pinned (.plain (OpenSpec.upto ownershipCompletesSpec)) ownershipCompletesUptoCard

/-- THE SECOND FORM's CARD OF 'cellarerlaw22.OwnershipPaths'. -/
def ownershipPathsUptoCard : Claim7 := { stood := { row := ownershipPathsUptoRow, standIns := [], harness := (true, "98072779bcb222dd4e5ccf16eb900229f3b3bede65a24e9cd73c73baf145d65b"), looks := false }, kinds := [], alts := [], laidByText := true, laidKinds := [.data, .pinned], laidTests := true, laidLooks := .later }
def OwnershipPathsUptoCardSaid : Prop := Claim7.holds Tryz.pinned (.plain (OpenSpec.upto ownershipPathsSpec)) ownershipPathsUptoCard

/-- THE SECOND FORM's CARD OF 'cellarerlaw22.OwnershipChecks'. -/
def ownershipChecksUptoCard : Claim7 := { stood := { row := ownershipChecksUptoRow, standIns := [], harness := (true, "98072779bcb222dd4e5ccf16eb900229f3b3bede65a24e9cd73c73baf145d65b"), looks := false }, kinds := [], alts := [], laidByText := true, laidKinds := [.data, .pinned], laidTests := true, laidLooks := .later }
def OwnershipChecksUptoCardSaid : Prop := Claim7.holds Tryz.pinned (.plain (OpenSpec.upto ownershipChecksSpec)) ownershipChecksUptoCard

/-- THE SECOND FORM's CARD OF 'cellarerlaw22.OwnershipSettles'. -/
def ownershipSettlesUptoCard : Claim7 := { stood := { row := ownershipSettlesUptoRow, standIns := [], harness := (true, "98072779bcb222dd4e5ccf16eb900229f3b3bede65a24e9cd73c73baf145d65b"), looks := false }, kinds := [], alts := [], laidByText := true, laidKinds := [.data, .pinned], laidTests := true, laidLooks := .later }
def OwnershipSettlesUptoCardSaid : Prop := Claim7.holds Tryz.pinned (.plain (OpenSpec.upto ownershipSettlesSpec)) ownershipSettlesUptoCard

/-- THE SECOND FORM's CARD OF 'cellarerlaw22.OwnershipDrops'. -/
def ownershipDropsUptoCard : Claim7 := { stood := { row := ownershipDropsUptoRow, standIns := [], harness := (true, "98072779bcb222dd4e5ccf16eb900229f3b3bede65a24e9cd73c73baf145d65b"), looks := false }, kinds := [], alts := [], laidByText := true, laidKinds := [.data, .pinned], laidTests := true, laidLooks := .later }
def OwnershipDropsUptoCardSaid : Prop := Claim7.holds Tryz.pinned (.plain (OpenSpec.upto ownershipDropsSpec)) ownershipDropsUptoCard

/-- THE SECOND FORM's CARD OF 'cellarerlaw21.RenameInlines'. -/
def renameInlinesUptoCard : Claim7 := { stood := { row := renameInlinesUptoRow, standIns := [], harness := (true, "98072779bcb222dd4e5ccf16eb900229f3b3bede65a24e9cd73c73baf145d65b"), looks := false }, kinds := [], alts := [], laidByText := true, laidKinds := [.data, .pinned], laidTests := true, laidLooks := .later }
def RenameInlinesUptoCardSaid : Prop := Claim7.holds Tryz.pinned (.plain (OpenSpec.upto renameInlinesSpec)) renameInlinesUptoCard

/-- THE SECOND FORM's CARD OF 'cellarerlaw22.OwnershipLives'. -/
def ownershipLivesUptoCard : Claim7 := { stood := { row := ownershipLivesUptoRow, standIns := [], harness := (true, "98072779bcb222dd4e5ccf16eb900229f3b3bede65a24e9cd73c73baf145d65b"), looks := false }, kinds := [], alts := [], laidByText := true, laidKinds := [.data, .pinned], laidTests := true, laidLooks := .later }
def OwnershipLivesUptoCardSaid : Prop := Claim7.holds Tryz.pinned (.plain (OpenSpec.upto ownershipLivesSpec)) ownershipLivesUptoCard

/-- THE SECOND FORM's CARD OF 'cellarerlaw21.RenameCompares'. -/
def renameComparesUptoCard : Claim7 := { stood := { row := renameComparesUptoRow, standIns := [], harness := (true, "98072779bcb222dd4e5ccf16eb900229f3b3bede65a24e9cd73c73baf145d65b"), looks := false }, kinds := [], alts := [], laidByText := true, laidKinds := [.data, .pinned], laidTests := true, laidLooks := .later }
def RenameComparesUptoCardSaid : Prop := Claim7.holds Tryz.pinned (.plain (OpenSpec.upto renameComparesSpec)) renameComparesUptoCard

/-- THE SECOND FORM's CARD OF 'cellarerlaw21.RenameMoves'. -/
def renameMovesUptoCard : Claim7 := { stood := { row := renameMovesUptoRow, standIns := [], harness := (true, "98072779bcb222dd4e5ccf16eb900229f3b3bede65a24e9cd73c73baf145d65b"), looks := false }, kinds := [], alts := [], laidByText := true, laidKinds := [.data, .pinned], laidTests := true, laidLooks := .later }
def RenameMovesUptoCardSaid : Prop := Claim7.holds Tryz.pinned (.plain (OpenSpec.upto renameMovesSpec)) renameMovesUptoCard
end Rows
end Go.Proofs.YtkecfadnfnnfaaaGreatDoor
