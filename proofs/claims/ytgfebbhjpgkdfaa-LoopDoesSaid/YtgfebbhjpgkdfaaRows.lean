/-
  No cell of these rows narrows 'for every input' (looked for: loops, veiled, ifaces, maps, wideKeys, modest, calm, conditions, laid).
  DERIVED. THE GIVEN ROWS OF THIS SEAT. 5 by the template 'for every input the law returns true; each argument reads behind the call as it read before'; 0 by the template 'total and deterministic' (their statements: YtgfebbhjpgkdfaaTotals.lean).
  GIVEN WITH THE SEED: the statements are not yours to turn. If you find one false, say at which input.
  Laid BY PROGRAM, IN A SANDBOX (cutbox-rows.mjs): the forced cells as the released guide's own fill.sh prints them over the translation 95adc621d38c1794… (all of the seat's roots in one cut). By AI agents, Wed Nov 11 2026. No macro, syntax, notation, axiom, sorry.
-/
import Derived.Test.YtgfebbhjpgkdfaaChecked
import GoSem.Claim
import GoSem.ClaimJoined
import GoSem.ClaimMapViews
import Derived.JoinedTies
import Derived.KernelRfl
namespace Go.Proofs.Ytgfebbhjpgkdfaa
/- THE CELL 'sum', in the pinned program and in every row, IS THE sha256 OF THE DUMP (.gsa) THAT YtgfebbhjpgkdfaaProg.lean LOADS. Nothing in Lean hashes anything: it is a label: what it is worth is what the hold of that sum in a sandbox is worth. -/
noncomputable def Try.pinned : Pinned := { name := "ytgfebbhjpgkdfaa", sum := "95adc621d38c1794355d6c597fd08021ce78e312bc6b83196986017d0ed777a0", checked := Try.checked }
namespace Rows
def none {H : Type} : Left H := { results := [], args := [] }

/-- 'canopylaw27.LoopTimers': WHATEVER THE INPUT: true; the input reads as it did. -/
def loopTimersSpec : ChangeSpec := { name := "loopTimers", fn := fun _ => fun
  | [d1, d2, d3] => { results := [.lit (.bool true)], args := [d1, d2, d3] }
  | _ => none }
def loopTimersRow : OpenClaim := { program := "ytgfebbhjpgkdfaa", sum := "95adc621d38c1794355d6c597fd08021ce78e312bc6b83196986017d0ed777a0", func := "canopy/canopylaw27.LoopTimers", spec := "loopTimers", inPlace := ["sync/atomic.AddInt64", "slices.overlaps[canopy/loop.timer]"], unfollowed := true, recurses := true, apart := false }
def LoopTimersSaid : Prop := loopTimersRow.holds Try.pinned (OpenSpec.ofChange loopTimersSpec)

/-- ITS FALSE NEIGHBOUR: 'it returns false'. Refute it at one input. -/
def loopTimersWrong : ChangeSpec := { name := "loopTimers", fn := fun _ => fun
  | [d1, d2, d3] => { results := [.lit (.bool false)], args := [d1, d2, d3] }
  | _ => none }
def LoopTimersWrongFalsely : Prop := loopTimersRow.holds Try.pinned (OpenSpec.ofChange loopTimersWrong)

/-- 'canopylaw27.LoopOrder': WHATEVER THE INPUT: true; the input reads as it did. -/
def loopOrderSpec : ChangeSpec := { name := "loopOrder", fn := fun _ => fun
  | [d] => { results := [.lit (.bool true)], args := [d] }
  | _ => none }
def loopOrderRow : OpenClaim := { program := "ytgfebbhjpgkdfaa", sum := "95adc621d38c1794355d6c597fd08021ce78e312bc6b83196986017d0ed777a0", func := "canopy/canopylaw27.LoopOrder", spec := "loopOrder", inPlace := ["sync/atomic.AddInt64", "slices.overlaps[canopy/loop.timer]", "sync/atomic.LoadUint32", "(*internal/sync.Mutex).Lock", "internal/race.Disable", "sync/atomic.CompareAndSwapInt32", "internal/race.Enable", "internal/race.Acquire", "(*internal/sync.Mutex).lockSlow", "internal/sync.runtime_canSpin", "internal/sync.runtime_doSpin", "internal/sync.throw", "internal/sync.runtime_nanotime", "internal/sync.runtime_SemacquireMutex", "sync/atomic.AddInt32", "(*internal/sync.Mutex).Unlock", "internal/race.ReleaseMerge", "(*internal/sync.Mutex).unlockSlow", "internal/sync.fatal", "internal/sync.runtime_Semrelease", "sync/atomic.StoreUint32"], unfollowed := true, recurses := true, apart := false }
def LoopOrderSaid : Prop := loopOrderRow.holds Try.pinned (OpenSpec.ofChange loopOrderSpec)

/-- ITS FALSE NEIGHBOUR: 'it returns false'. Refute it at one input. -/
def loopOrderWrong : ChangeSpec := { name := "loopOrder", fn := fun _ => fun
  | [d] => { results := [.lit (.bool false)], args := [d] }
  | _ => none }
def LoopOrderWrongFalsely : Prop := loopOrderRow.holds Try.pinned (OpenSpec.ofChange loopOrderWrong)

/-- 'canopylaw27.LoopDoes': WHATEVER THE INPUT: true; the input reads as it did. -/
def loopDoesSpec : ChangeSpec := { name := "loopDoes", fn := fun _ => fun
  | [d] => { results := [.lit (.bool true)], args := [d] }
  | _ => none }
def loopDoesRow : OpenClaim := { program := "ytgfebbhjpgkdfaa", sum := "95adc621d38c1794355d6c597fd08021ce78e312bc6b83196986017d0ed777a0", func := "canopy/canopylaw27.LoopDoes", spec := "loopDoes", inPlace := ["sync/atomic.AddInt64", "slices.overlaps[canopy/loop.timer]", "sync/atomic.LoadUint32", "(*internal/sync.Mutex).Lock", "internal/race.Disable", "sync/atomic.CompareAndSwapInt32", "internal/race.Enable", "internal/race.Acquire", "(*internal/sync.Mutex).lockSlow", "internal/sync.runtime_canSpin", "internal/sync.runtime_doSpin", "internal/sync.throw", "internal/sync.runtime_nanotime", "internal/sync.runtime_SemacquireMutex", "sync/atomic.AddInt32", "(*internal/sync.Mutex).Unlock", "internal/race.ReleaseMerge", "(*internal/sync.Mutex).unlockSlow", "internal/sync.fatal", "internal/sync.runtime_Semrelease", "sync/atomic.StoreUint32", "sync/atomic.LoadInt64"], unfollowed := true, recurses := true, apart := false }
def LoopDoesSaid : Prop := loopDoesRow.holds Try.pinned (OpenSpec.ofChange loopDoesSpec)

/-- ITS FALSE NEIGHBOUR: 'it returns false'. Refute it at one input. -/
def loopDoesWrong : ChangeSpec := { name := "loopDoes", fn := fun _ => fun
  | [d] => { results := [.lit (.bool false)], args := [d] }
  | _ => none }
def LoopDoesWrongFalsely : Prop := loopDoesRow.holds Try.pinned (OpenSpec.ofChange loopDoesWrong)

/-- 'canopylaw27.LoopCalls': WHATEVER THE INPUT: true; the input reads as it did. -/
def loopCallsSpec : ChangeSpec := { name := "loopCalls", fn := fun _ => fun
  | [d1, d2] => { results := [.lit (.bool true)], args := [d1, d2] }
  | _ => none }
def loopCallsRow : OpenClaim := { program := "ytgfebbhjpgkdfaa", sum := "95adc621d38c1794355d6c597fd08021ce78e312bc6b83196986017d0ed777a0", func := "canopy/canopylaw27.LoopCalls", spec := "loopCalls", inPlace := ["sync/atomic.AddInt64", "slices.overlaps[canopy/loop.timer]", "sync/atomic.LoadUint32", "(*internal/sync.Mutex).Lock", "internal/race.Disable", "sync/atomic.CompareAndSwapInt32", "internal/race.Enable", "internal/race.Acquire", "(*internal/sync.Mutex).lockSlow", "internal/sync.runtime_canSpin", "internal/sync.runtime_doSpin", "internal/sync.throw", "internal/sync.runtime_nanotime", "internal/sync.runtime_SemacquireMutex", "sync/atomic.AddInt32", "(*internal/sync.Mutex).Unlock", "internal/race.ReleaseMerge", "(*internal/sync.Mutex).unlockSlow", "internal/sync.fatal", "internal/sync.runtime_Semrelease", "sync/atomic.StoreUint32", "sync/atomic.LoadInt64", "sync/atomic.StoreInt64"], unfollowed := true, recurses := true, apart := false }
def LoopCallsSaid : Prop := loopCallsRow.holds Try.pinned (OpenSpec.ofChange loopCallsSpec)

/-- ITS FALSE NEIGHBOUR: 'it returns false'. Refute it at one input. -/
def loopCallsWrong : ChangeSpec := { name := "loopCalls", fn := fun _ => fun
  | [d1, d2] => { results := [.lit (.bool false)], args := [d1, d2] }
  | _ => none }
def LoopCallsWrongFalsely : Prop := loopCallsRow.holds Try.pinned (OpenSpec.ofChange loopCallsWrong)

/-- 'canopylaw27.LoopNil': WHATEVER THE INPUT: true; the input reads as it did. -/
def loopNilSpec : ChangeSpec := { name := "loopNil", fn := fun _ => fun
  | [d1, d2] => { results := [.lit (.bool true)], args := [d1, d2] }
  | _ => none }
def loopNilRow : OpenClaim := { program := "ytgfebbhjpgkdfaa", sum := "95adc621d38c1794355d6c597fd08021ce78e312bc6b83196986017d0ed777a0", func := "canopy/canopylaw27.LoopNil", spec := "loopNil", inPlace := ["sync/atomic.AddInt64", "slices.overlaps[canopy/loop.timer]", "sync/atomic.LoadUint32", "(*internal/sync.Mutex).Lock", "internal/race.Disable", "sync/atomic.CompareAndSwapInt32", "internal/race.Enable", "internal/race.Acquire", "(*internal/sync.Mutex).lockSlow", "internal/sync.runtime_canSpin", "internal/sync.runtime_doSpin", "internal/sync.throw", "internal/sync.runtime_nanotime", "internal/sync.runtime_SemacquireMutex", "sync/atomic.AddInt32", "(*internal/sync.Mutex).Unlock", "internal/race.ReleaseMerge", "(*internal/sync.Mutex).unlockSlow", "internal/sync.fatal", "internal/sync.runtime_Semrelease", "sync/atomic.StoreUint32", "sync/atomic.LoadInt64", "sync/atomic.StoreInt64"], unfollowed := true, recurses := true, apart := false }
def LoopNilSaid : Prop := loopNilRow.holds Try.pinned (OpenSpec.ofChange loopNilSpec)

/-- ITS FALSE NEIGHBOUR: 'it returns false'. Refute it at one input. -/
def loopNilWrong : ChangeSpec := { name := "loopNil", fn := fun _ => fun
  | [d1, d2] => { results := [.lit (.bool false)], args := [d1, d2] }
  | _ => none }
def LoopNilWrongFalsely : Prop := loopNilRow.holds Try.pinned (OpenSpec.ofChange loopNilWrong)

/- THE SECOND FORM. 'bulk': how many values and letters a reading holds, each counted each time it is reached (what is shared counts as often as it is met; a slice's spare places count too). A statement '..UptoSaid' is the law's where the arguments, and the package variables that the reading takes, are together of bulk at most 1048576: NARROWER than '..Said'. Prove '..Said' where nothing that the law and all that it calls make is longer than what came in: it says more and counts as full. Else prove '..UptoSaid'. A law counts once. -/
mutual
def uptoBulk {H : Type} : DataW H → Nat
  | .lit (.string bytes) => bytes.length + 1
  | .lit _ => 1
  | .nil => 1
  | .ptr d => uptoBulk d + 1
  | .slice elems spare => uptoBulkAll elems + uptoBulkAll spare + 1
  | .agg parts => uptoBulkAll parts + 1
  | .iface _ d => uptoBulk d + 1
  | .map entries => uptoBulkEntries entries + 1
  | .held _ => 1
def uptoBulkAll {H : Type} : List (DataW H) → Nat
  | [] => 0
  | d :: r => uptoBulk d + uptoBulkAll r
def uptoBulkEntries {H : Type} : List (Lit × DataW H) → Nat
  | [] => 0
  | x :: r => uptoBulkEntry x + uptoBulkEntries r
def uptoBulkEntry {H : Type} : Lit × DataW H → Nat
  | (.string bytes, d) => bytes.length + uptoBulk d + 1
  | (_, d) => uptoBulk d + 1
 end
def uptoSmall : (H : Type) → List (DataW H) → Bool := fun _ ds => decide (uptoBulkAll ds ≤ 1048576)
def OpenSpec.upto (s : _root_.Go.ChangeSpec) : _root_.Go.OpenSpec := { _root_.Go.OpenSpec.ofChange s with cond := some uptoSmall }

/-- 'canopylaw27.LoopTimers', WHERE WHAT IT READS IS OF BULK AT MOST 1048576: true; the input reads as it did. -/
def loopTimersUptoRow : OpenClaim := { program := "ytgfebbhjpgkdfaa", sum := "95adc621d38c1794355d6c597fd08021ce78e312bc6b83196986017d0ed777a0", func := "canopy/canopylaw27.LoopTimers", spec := "loopTimers", inPlace := ["sync/atomic.AddInt64", "slices.overlaps[canopy/loop.timer]"], unfollowed := true, recurses := true, apart := false, narrowed := true }
def LoopTimersUptoSaid : Prop := loopTimersUptoRow.holds Try.pinned (OpenSpec.upto loopTimersSpec)

/-- 'canopylaw27.LoopOrder', WHERE WHAT IT READS IS OF BULK AT MOST 1048576: true; the input reads as it did. -/
def loopOrderUptoRow : OpenClaim := { program := "ytgfebbhjpgkdfaa", sum := "95adc621d38c1794355d6c597fd08021ce78e312bc6b83196986017d0ed777a0", func := "canopy/canopylaw27.LoopOrder", spec := "loopOrder", inPlace := ["sync/atomic.AddInt64", "slices.overlaps[canopy/loop.timer]", "sync/atomic.LoadUint32", "(*internal/sync.Mutex).Lock", "internal/race.Disable", "sync/atomic.CompareAndSwapInt32", "internal/race.Enable", "internal/race.Acquire", "(*internal/sync.Mutex).lockSlow", "internal/sync.runtime_canSpin", "internal/sync.runtime_doSpin", "internal/sync.throw", "internal/sync.runtime_nanotime", "internal/sync.runtime_SemacquireMutex", "sync/atomic.AddInt32", "(*internal/sync.Mutex).Unlock", "internal/race.ReleaseMerge", "(*internal/sync.Mutex).unlockSlow", "internal/sync.fatal", "internal/sync.runtime_Semrelease", "sync/atomic.StoreUint32"], unfollowed := true, recurses := true, apart := false, narrowed := true }
def LoopOrderUptoSaid : Prop := loopOrderUptoRow.holds Try.pinned (OpenSpec.upto loopOrderSpec)

/-- 'canopylaw27.LoopDoes', WHERE WHAT IT READS IS OF BULK AT MOST 1048576: true; the input reads as it did. -/
def loopDoesUptoRow : OpenClaim := { program := "ytgfebbhjpgkdfaa", sum := "95adc621d38c1794355d6c597fd08021ce78e312bc6b83196986017d0ed777a0", func := "canopy/canopylaw27.LoopDoes", spec := "loopDoes", inPlace := ["sync/atomic.AddInt64", "slices.overlaps[canopy/loop.timer]", "sync/atomic.LoadUint32", "(*internal/sync.Mutex).Lock", "internal/race.Disable", "sync/atomic.CompareAndSwapInt32", "internal/race.Enable", "internal/race.Acquire", "(*internal/sync.Mutex).lockSlow", "internal/sync.runtime_canSpin", "internal/sync.runtime_doSpin", "internal/sync.throw", "internal/sync.runtime_nanotime", "internal/sync.runtime_SemacquireMutex", "sync/atomic.AddInt32", "(*internal/sync.Mutex).Unlock", "internal/race.ReleaseMerge", "(*internal/sync.Mutex).unlockSlow", "internal/sync.fatal", "internal/sync.runtime_Semrelease", "sync/atomic.StoreUint32", "sync/atomic.LoadInt64"], unfollowed := true, recurses := true, apart := false, narrowed := true }
def LoopDoesUptoSaid : Prop := loopDoesUptoRow.holds Try.pinned (OpenSpec.upto loopDoesSpec)

/-- 'canopylaw27.LoopCalls', WHERE WHAT IT READS IS OF BULK AT MOST 1048576: true; the input reads as it did. -/
def loopCallsUptoRow : OpenClaim := { program := "ytgfebbhjpgkdfaa", sum := "95adc621d38c1794355d6c597fd08021ce78e312bc6b83196986017d0ed777a0", func := "canopy/canopylaw27.LoopCalls", spec := "loopCalls", inPlace := ["sync/atomic.AddInt64", "slices.overlaps[canopy/loop.timer]", "sync/atomic.LoadUint32", "(*internal/sync.Mutex).Lock", "internal/race.Disable", "sync/atomic.CompareAndSwapInt32", "internal/race.Enable", "internal/race.Acquire", "(*internal/sync.Mutex).lockSlow", "internal/sync.runtime_canSpin", "internal/sync.runtime_doSpin", "internal/sync.throw", "internal/sync.runtime_nanotime", "internal/sync.runtime_SemacquireMutex", "sync/atomic.AddInt32", "(*internal/sync.Mutex).Unlock", "internal/race.ReleaseMerge", "(*internal/sync.Mutex).unlockSlow", "internal/sync.fatal", "internal/sync.runtime_Semrelease", "sync/atomic.StoreUint32", "sync/atomic.LoadInt64", "sync/atomic.StoreInt64"], unfollowed := true, recurses := true, apart := false, narrowed := true }
def LoopCallsUptoSaid : Prop := loopCallsUptoRow.holds Try.pinned (OpenSpec.upto loopCallsSpec)

/-- 'canopylaw27.LoopNil', WHERE WHAT IT READS IS OF BULK AT MOST 1048576: true; the input reads as it did. -/
def loopNilUptoRow : OpenClaim := { program := "ytgfebbhjpgkdfaa", sum := "95adc621d38c1794355d6c597fd08021ce78e312bc6b83196986017d0ed777a0", func := "canopy/canopylaw27.LoopNil", spec := "loopNil", inPlace := ["sync/atomic.AddInt64", "slices.overlaps[canopy/loop.timer]", "sync/atomic.LoadUint32", "(*internal/sync.Mutex).Lock", "internal/race.Disable", "sync/atomic.CompareAndSwapInt32", "internal/race.Enable", "internal/race.Acquire", "(*internal/sync.Mutex).lockSlow", "internal/sync.runtime_canSpin", "internal/sync.runtime_doSpin", "internal/sync.throw", "internal/sync.runtime_nanotime", "internal/sync.runtime_SemacquireMutex", "sync/atomic.AddInt32", "(*internal/sync.Mutex).Unlock", "internal/race.ReleaseMerge", "(*internal/sync.Mutex).unlockSlow", "internal/sync.fatal", "internal/sync.runtime_Semrelease", "sync/atomic.StoreUint32", "sync/atomic.LoadInt64", "sync/atomic.StoreInt64"], unfollowed := true, recurses := true, apart := false, narrowed := true }
def LoopNilUptoSaid : Prop := loopNilUptoRow.holds Try.pinned (OpenSpec.upto loopNilSpec)

end Rows
end Go.Proofs.Ytgfebbhjpgkdfaa
