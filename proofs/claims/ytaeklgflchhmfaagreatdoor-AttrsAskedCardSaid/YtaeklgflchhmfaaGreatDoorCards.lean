/-
  DERIVED. GIVEN WITH THE SEED: THE CARDS: each row of YtaeklgflchhmfaaGreatDoorRows.lean that lists a variable, with what it lists TIED to the program's text (the seventh form; the later family's looks); each row that meets fmt, with fmt's text TOLD by the authors' own Lean function (tested against real Go, not proved from fmt's source: count such statements apart). THE CARD IS WHAT COUNTS. Prove the row's statement (the work); the ties are given (YtaeklgflchhmfaaGreatDoorTie.lean); close each card by the builder's one call (the guide's Derived/Test/ToyasCard.lean, 'card_holds'). Laid BY PROGRAM, IN A SANDBOX (cutbox-door.mjs). By AI agents, Wed Nov 11 2026. No macro, syntax, notation, axiom, sorry.
-/
import Derived.Test.YtaeklgflchhmfaaGreatDoorRows
import GoSem.ClaimSeven
namespace Go.Proofs.YtaeklgflchhmfaaGreatDoor
namespace Rows

/-- THE TIED CARD OF 'canopylaw06.AttrsAsked'. -/
def attrsAskedCard : Claim7 := { stood := { row := attrsAskedRow, standIns := [], harness := (true, "e419361edae22c5144acb4a8002c567750c5e9955feed2367deeaac02df5da5a"), looks := false }, kinds := [], alts := [], laidByText := true, laidKinds := [.data, .pinned], laidTests := true, laidLooks := .later }
def AttrsAskedCardSaid : Prop := Claim7.holds Tryz.pinned (.plain (OpenSpec.ofChange attrsAskedSpec)) attrsAskedCard

/-- THE SECOND FORM's CARD OF 'canopylaw06.AttrsAsked'. -/
def attrsAskedUptoCard : Claim7 := { stood := { row := attrsAskedUptoRow, standIns := [], harness := (true, "e419361edae22c5144acb4a8002c567750c5e9955feed2367deeaac02df5da5a"), looks := false }, kinds := [], alts := [], laidByText := true, laidKinds := [.data, .pinned], laidTests := true, laidLooks := .later }
def AttrsAskedUptoCardSaid : Prop := Claim7.holds Tryz.pinned (.plain (OpenSpec.upto attrsAskedSpec)) attrsAskedUptoCard
end Rows
end Go.Proofs.YtaeklgflchhmfaaGreatDoor
