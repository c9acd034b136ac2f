/-
  No cell of these rows narrows 'for every input' (looked for: loops, veiled, ifaces, maps, wideKeys, modest, calm, conditions, laid).
  DERIVED. THE GIVEN ROWS OF THIS SEAT. 5 by the template 'for every input the law returns true; each argument reads behind the call as it read before'; 0 by the template 'total and deterministic' (their statements: YtohcoghaaifmgaaTotals.lean).
  GIVEN WITH THE SEED: the statements are not yours to turn. If you find one false, say at which input.
  Laid BY PROGRAM, IN A SANDBOX (cutbox-rows.mjs): the forced cells as the released guide's own fill.sh prints them over the translation e342a3b2ad75da2e… (all of the seat's roots in one cut). By AI agents, Wed Nov 11 2026. No macro, syntax, notation, axiom, sorry.
-/
import Derived.Test.YtohcoghaaifmgaaChecked
import GoSem.Claim
import GoSem.ClaimJoined
import GoSem.ClaimMapViews
import Derived.JoinedTies
import Derived.KernelRfl
namespace Go.Proofs.Ytohcoghaaifmgaa
/- THE CELL 'sum', in the pinned program and in every row, IS THE sha256 OF THE DUMP (.gsa) THAT YtohcoghaaifmgaaProg.lean LOADS. Nothing in Lean hashes anything: it is a label: what it is worth is what the hold of that sum in a sandbox is worth. -/
noncomputable def Try.pinned : Pinned := { name := "ytohcoghaaifmgaa", sum := "e342a3b2ad75da2e964b462939b2bc96aaf9a8d3fedd723ad0f5fd232242f800", checked := Try.checked }
namespace Rows
def none {H : Type} : Left H := { results := [], args := [] }

/-- 'canopylaw14.IterateMakes': WHATEVER THE INPUT: true; the input reads as it did. -/
def iterateMakesSpec : ChangeSpec := { name := "iterateMakes", fn := fun _ => fun
  | [d1, d2, d3, d4] => { results := [.lit (.bool true)], args := [d1, d2, d3, d4] }
  | _ => none }
def iterateMakesRow : OpenClaim := { program := "ytohcoghaaifmgaa", sum := "e342a3b2ad75da2e964b462939b2bc96aaf9a8d3fedd723ad0f5fd232242f800", func := "canopy/canopylaw14.IterateMakes", spec := "iterateMakes", unfollowed := true, recurses := true, plainKeys := false, apart := false }
def IterateMakesSaid : Prop := iterateMakesRow.holds Try.pinned (OpenSpec.ofChange iterateMakesSpec)

/-- ITS FALSE NEIGHBOUR: 'it returns false'. Refute it at one input. -/
def iterateMakesWrong : ChangeSpec := { name := "iterateMakes", fn := fun _ => fun
  | [d1, d2, d3, d4] => { results := [.lit (.bool false)], args := [d1, d2, d3, d4] }
  | _ => none }
def IterateMakesWrongFalsely : Prop := iterateMakesRow.holds Try.pinned (OpenSpec.ofChange iterateMakesWrong)

/-- 'canopylaw14.IterateRemoves': WHATEVER THE INPUT: true; the input reads as it did. -/
def iterateRemovesSpec : ChangeSpec := { name := "iterateRemoves", fn := fun _ => fun
  | [d1, d2, d3] => { results := [.lit (.bool true)], args := [d1, d2, d3] }
  | _ => none }
def iterateRemovesRow : OpenClaim := { program := "ytohcoghaaifmgaa", sum := "e342a3b2ad75da2e964b462939b2bc96aaf9a8d3fedd723ad0f5fd232242f800", func := "canopy/canopylaw14.IterateRemoves", spec := "iterateRemoves", unfollowed := true, recurses := true, plainKeys := false, apart := false }
def IterateRemovesSaid : Prop := iterateRemovesRow.holds Try.pinned (OpenSpec.ofChange iterateRemovesSpec)

/-- ITS FALSE NEIGHBOUR: 'it returns false'. Refute it at one input. -/
def iterateRemovesWrong : ChangeSpec := { name := "iterateRemoves", fn := fun _ => fun
  | [d1, d2, d3] => { results := [.lit (.bool false)], args := [d1, d2, d3] }
  | _ => none }
def IterateRemovesWrongFalsely : Prop := iterateRemovesRow.holds Try.pinned (OpenSpec.ofChange iterateRemovesWrong)

/-- 'canopylaw14.IterateSteps': WHATEVER THE INPUT: true; the input reads as it did. -/
def iterateStepsSpec : ChangeSpec := { name := "iterateSteps", fn := fun _ => fun
  | [d1, d2] => { results := [.lit (.bool true)], args := [d1, d2] }
  | _ => none }
def iterateStepsRow : OpenClaim := { program := "ytohcoghaaifmgaa", sum := "e342a3b2ad75da2e964b462939b2bc96aaf9a8d3fedd723ad0f5fd232242f800", func := "canopy/canopylaw14.IterateSteps", spec := "iterateSteps", unfollowed := true, recurses := true, plainKeys := false, apart := false }
def IterateStepsSaid : Prop := iterateStepsRow.holds Try.pinned (OpenSpec.ofChange iterateStepsSpec)

/-- ITS FALSE NEIGHBOUR: 'it returns false'. Refute it at one input. -/
def iterateStepsWrong : ChangeSpec := { name := "iterateSteps", fn := fun _ => fun
  | [d1, d2] => { results := [.lit (.bool false)], args := [d1, d2] }
  | _ => none }
def IterateStepsWrongFalsely : Prop := iterateStepsRow.holds Try.pinned (OpenSpec.ofChange iterateStepsWrong)

/-- 'canopylaw14.IterateBack': WHATEVER THE INPUT: true; the input reads as it did. -/
def iterateBackSpec : ChangeSpec := { name := "iterateBack", fn := fun _ => fun
  | [d1, d2] => { results := [.lit (.bool true)], args := [d1, d2] }
  | _ => none }
def iterateBackRow : OpenClaim := { program := "ytohcoghaaifmgaa", sum := "e342a3b2ad75da2e964b462939b2bc96aaf9a8d3fedd723ad0f5fd232242f800", func := "canopy/canopylaw14.IterateBack", spec := "iterateBack", unfollowed := true, recurses := true, plainKeys := false, apart := false }
def IterateBackSaid : Prop := iterateBackRow.holds Try.pinned (OpenSpec.ofChange iterateBackSpec)

/-- ITS FALSE NEIGHBOUR: 'it returns false'. Refute it at one input. -/
def iterateBackWrong : ChangeSpec := { name := "iterateBack", fn := fun _ => fun
  | [d1, d2] => { results := [.lit (.bool false)], args := [d1, d2] }
  | _ => none }
def IterateBackWrongFalsely : Prop := iterateBackRow.holds Try.pinned (OpenSpec.ofChange iterateBackWrong)

/-- 'canopylaw14.IterateAll': WHATEVER THE INPUT: true; the input reads as it did. -/
def iterateAllSpec : ChangeSpec := { name := "iterateAll", fn := fun _ => fun
  | [d1, d2, d3] => { results := [.lit (.bool true)], args := [d1, d2, d3] }
  | _ => none }
def iterateAllRow : OpenClaim := { program := "ytohcoghaaifmgaa", sum := "e342a3b2ad75da2e964b462939b2bc96aaf9a8d3fedd723ad0f5fd232242f800", func := "canopy/canopylaw14.IterateAll", spec := "iterateAll", unfollowed := true, recurses := true, plainKeys := false, apart := false }
def IterateAllSaid : Prop := iterateAllRow.holds Try.pinned (OpenSpec.ofChange iterateAllSpec)

/-- ITS FALSE NEIGHBOUR: 'it returns false'. Refute it at one input. -/
def iterateAllWrong : ChangeSpec := { name := "iterateAll", fn := fun _ => fun
  | [d1, d2, d3] => { results := [.lit (.bool false)], args := [d1, d2, d3] }
  | _ => none }
def IterateAllWrongFalsely : Prop := iterateAllRow.holds Try.pinned (OpenSpec.ofChange iterateAllWrong)

/- THE SECOND FORM. 'bulk': how many values and letters a reading holds, each counted each time it is reached (what is shared counts as often as it is met; a slice's spare places count too). A statement '..UptoSaid' is the law's where the arguments, and the package variables that the reading takes, are together of bulk at most 1048576: NARROWER than '..Said'. Prove '..Said' where nothing that the law and all that it calls make is longer than what came in: it says more and counts as full. Else prove '..UptoSaid'. A law counts once. -/
mutual
def uptoBulk {H : Type} : DataW H → Nat
  | .lit (.string bytes) => bytes.length + 1
  | .lit _ => 1
  | .nil => 1
  | .ptr d => uptoBulk d + 1
  | .slice elems spare => uptoBulkAll elems + uptoBulkAll spare + 1
  | .agg parts => uptoBulkAll parts + 1
  | .iface _ d => uptoBulk d + 1
  | .map entries => uptoBulkEntries entries + 1
  | .held _ => 1
def uptoBulkAll {H : Type} : List (DataW H) → Nat
  | [] => 0
  | d :: r => uptoBulk d + uptoBulkAll r
def uptoBulkEntries {H : Type} : List (Lit × DataW H) → Nat
  | [] => 0
  | x :: r => uptoBulkEntry x + uptoBulkEntries r
def uptoBulkEntry {H : Type} : Lit × DataW H → Nat
  | (.string bytes, d) => bytes.length + uptoBulk d + 1
  | (_, d) => uptoBulk d + 1
 end
def uptoSmall : (H : Type) → List (DataW H) → Bool := fun _ ds => decide (uptoBulkAll ds ≤ 1048576)
def OpenSpec.upto (s : _root_.Go.ChangeSpec) : _root_.Go.OpenSpec := { _root_.Go.OpenSpec.ofChange s with cond := some uptoSmall }

/-- 'canopylaw14.IterateMakes', WHERE WHAT IT READS IS OF BULK AT MOST 1048576: true; the input reads as it did. -/
def iterateMakesUptoRow : OpenClaim := { program := "ytohcoghaaifmgaa", sum := "e342a3b2ad75da2e964b462939b2bc96aaf9a8d3fedd723ad0f5fd232242f800", func := "canopy/canopylaw14.IterateMakes", spec := "iterateMakes", unfollowed := true, recurses := true, plainKeys := false, apart := false, narrowed := true }
def IterateMakesUptoSaid : Prop := iterateMakesUptoRow.holds Try.pinned (OpenSpec.upto iterateMakesSpec)

/-- 'canopylaw14.IterateRemoves', WHERE WHAT IT READS IS OF BULK AT MOST 1048576: true; the input reads as it did. -/
def iterateRemovesUptoRow : OpenClaim := { program := "ytohcoghaaifmgaa", sum := "e342a3b2ad75da2e964b462939b2bc96aaf9a8d3fedd723ad0f5fd232242f800", func := "canopy/canopylaw14.IterateRemoves", spec := "iterateRemoves", unfollowed := true, recurses := true, plainKeys := false, apart := false, narrowed := true }
def IterateRemovesUptoSaid : Prop := iterateRemovesUptoRow.holds Try.pinned (OpenSpec.upto iterateRemovesSpec)

/-- 'canopylaw14.IterateSteps', WHERE WHAT IT READS IS OF BULK AT MOST 1048576: true; the input reads as it did. -/
def iterateStepsUptoRow : OpenClaim := { program := "ytohcoghaaifmgaa", sum := "e342a3b2ad75da2e964b462939b2bc96aaf9a8d3fedd723ad0f5fd232242f800", func := "canopy/canopylaw14.IterateSteps", spec := "iterateSteps", unfollowed := true, recurses := true, plainKeys := false, apart := false, narrowed := true }
def IterateStepsUptoSaid : Prop := iterateStepsUptoRow.holds Try.pinned (OpenSpec.upto iterateStepsSpec)

/-- 'canopylaw14.IterateBack', WHERE WHAT IT READS IS OF BULK AT MOST 1048576: true; the input reads as it did. -/
def iterateBackUptoRow : OpenClaim := { program := "ytohcoghaaifmgaa", sum := "e342a3b2ad75da2e964b462939b2bc96aaf9a8d3fedd723ad0f5fd232242f800", func := "canopy/canopylaw14.IterateBack", spec := "iterateBack", unfollowed := true, recurses := true, plainKeys := false, apart := false, narrowed := true }
def IterateBackUptoSaid : Prop := iterateBackUptoRow.holds Try.pinned (OpenSpec.upto iterateBackSpec)

/-- 'canopylaw14.IterateAll', WHERE WHAT IT READS IS OF BULK AT MOST 1048576: true; the input reads as it did. -/
def iterateAllUptoRow : OpenClaim := { program := "ytohcoghaaifmgaa", sum := "e342a3b2ad75da2e964b462939b2bc96aaf9a8d3fedd723ad0f5fd232242f800", func := "canopy/canopylaw14.IterateAll", spec := "iterateAll", unfollowed := true, recurses := true, plainKeys := false, apart := false, narrowed := true }
def IterateAllUptoSaid : Prop := iterateAllUptoRow.holds Try.pinned (OpenSpec.upto iterateAllSpec)

end Rows
end Go.Proofs.Ytohcoghaaifmgaa
