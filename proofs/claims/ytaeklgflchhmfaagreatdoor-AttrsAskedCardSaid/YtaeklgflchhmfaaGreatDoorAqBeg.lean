/- begins: one run, by the kernel. No conditions. -/
import Derived.Test.YtaeklgflchhmfaaGreatDoorItC
import Derived.Test.YtaeklgflchhmfaaGreatDoorEwR
set_option maxHeartbeats 16000000
set_option maxRecDepth 100000
set_option linter.unusedVariables false
set_option linter.unusedSimpArgs false
set_option linter.unusedSectionVars false
namespace Go.Proofs.It
open Go Go.Ev
theorem begins0 : evCall3 Φ 90 qZl [] [] = some (.bool true, []) := by kernel_rfl
theorem begins_spec (H : Heap) : callW Φ qZl [] H = some (.bool true, H) :=
 jZV (h0 := []) (h0' := []) qZl.Φ rfl (args := []) («as» := []) rfl rfl (callW_of3 begins0)
end Go.Proofs.It
