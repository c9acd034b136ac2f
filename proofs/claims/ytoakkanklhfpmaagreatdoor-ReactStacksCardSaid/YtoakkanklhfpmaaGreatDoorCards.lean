/-
  DERIVED. GIVEN WITH THE SEED: THE CARDS: each row of YtoakkanklhfpmaaGreatDoorRows.lean that lists a variable, with what it lists TIED to the program's text (the seventh form; the later family's looks); each row that meets fmt, with fmt's text TOLD by the authors' own Lean function (tested against real Go, not proved from fmt's source: count such statements apart). THE CARD IS WHAT COUNTS. Prove the row's statement (the work); the ties are given (YtoakkanklhfpmaaGreatDoorTie.lean); close each card by the builder's one call (the guide's Derived/Test/ToyasCard.lean, 'card_holds'). Laid BY PROGRAM, IN A SANDBOX (cutbox-door.mjs). By AI agents, Wed Nov 11 2026. No macro, syntax, notation, axiom, sorry.
-/
import Derived.Test.YtoakkanklhfpmaaGreatDoorRows
import GoSem.ClaimSeven
namespace Go.Proofs.YtoakkanklhfpmaaGreatDoor
namespace Rows

/-- THE TIED CARD OF 'canopylaw26.ReactStacks'. -/
def reactStacksCard : Claim7 := { stood := { row := reactStacksRow, standIns := [], harness := (true, "391880461d08ed0327437be24a46d4a0c5f247b2d632bdbef7ad44011f34c2f2"), looks := false }, kinds := [], alts := [], laidByText := true, laidKinds := [.data, .pinned], laidTests := true, laidLooks := .later }
def ReactStacksCardSaid : Prop := Claim7.holds Tryz.pinned (.plain (OpenSpec.ofChange reactStacksSpec)) reactStacksCard

/-- THE TIED CARD OF 'canopylaw26.ReactDrained'. -/
def reactDrainedCard : Claim7 := { stood := { row := reactDrainedRow, standIns := [], harness := (true, "391880461d08ed0327437be24a46d4a0c5f247b2d632bdbef7ad44011f34c2f2"), looks := false }, kinds := [], alts := [], laidByText := true, laidKinds := [.data, .pinned], laidTests := true, laidLooks := .later }
def ReactDrainedCardSaid : Prop := Claim7.holds Tryz.pinned (.plain (OpenSpec.ofChange reactDrainedSpec)) reactDrainedCard

/-- THE TIED CARD OF 'canopylaw26.ReactBackup'. -/
def reactBackupCard : Claim7 := { stood := { row := reactBackupRow, standIns := [], harness := (true, "391880461d08ed0327437be24a46d4a0c5f247b2d632bdbef7ad44011f34c2f2"), looks := false }, kinds := [], alts := [], laidByText := true, laidKinds := [.data, .pinned], laidTests := true, laidLooks := .later }
def ReactBackupCardSaid : Prop := Claim7.holds Tryz.pinned (.plain (OpenSpec.ofChange reactBackupSpec)) reactBackupCard

/-- THE SECOND FORM's CARD OF 'canopylaw26.ReactStacks'. -/
def reactStacksUptoCard : Claim7 := { stood := { row := reactStacksUptoRow, standIns := [], harness := (true, "391880461d08ed0327437be24a46d4a0c5f247b2d632bdbef7ad44011f34c2f2"), looks := false }, kinds := [], alts := [], laidByText := true, laidKinds := [.data, .pinned], laidTests := true, laidLooks := .later }
def ReactStacksUptoCardSaid : Prop := Claim7.holds Tryz.pinned (.plain (OpenSpec.upto reactStacksSpec)) reactStacksUptoCard

/-- THE SECOND FORM's CARD OF 'canopylaw26.ReactDrained'. -/
def reactDrainedUptoCard : Claim7 := { stood := { row := reactDrainedUptoRow, standIns := [], harness := (true, "391880461d08ed0327437be24a46d4a0c5f247b2d632bdbef7ad44011f34c2f2"), looks := false }, kinds := [], alts := [], laidByText := true, laidKinds := [.data, .pinned], laidTests := true, laidLooks := .later }
def ReactDrainedUptoCardSaid : Prop := Claim7.holds Tryz.pinned (.plain (OpenSpec.upto reactDrainedSpec)) reactDrainedUptoCard

/-- THE SECOND FORM's CARD OF 'canopylaw26.ReactBackup'. -/
def reactBackupUptoCard : Claim7 := { stood := { row := reactBackupUptoRow, standIns := [], harness := (true, "391880461d08ed0327437be24a46d4a0c5f247b2d632bdbef7ad44011f34c2f2"), looks := false }, kinds := [], alts := [], laidByText := true, laidKinds := [.data, .pinned], laidTests := true, laidLooks := .later }
def ReactBackupUptoCardSaid : Prop := Claim7.holds Tryz.pinned (.plain (OpenSpec.upto reactBackupSpec)) reactBackupUptoCard
end Rows
end Go.Proofs.YtoakkanklhfpmaaGreatDoor
