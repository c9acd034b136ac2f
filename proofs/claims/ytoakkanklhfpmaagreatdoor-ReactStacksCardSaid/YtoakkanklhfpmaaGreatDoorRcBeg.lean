/- begins: one run, by the kernel. No conditions. -/
import Derived.Test.YtoakkanklhfpmaaGreatDoorRcC
import Derived.Test.YtoakkanklhfpmaaGreatDoorEwR
set_option maxHeartbeats 16000000
set_option maxRecDepth 100000
set_option linter.unusedVariables false
set_option linter.unusedSimpArgs false
set_option linter.unusedSectionVars false
namespace Go.Proofs.Rc
open Go Go.Ev
theorem begins0 : evCall3 Φ 90 qZg [] [] = some (.bool true, []) := by kernel_rfl
theorem kZS (H : Heap) : callW Φ qZg [] H = some (.bool true, H) :=
 callW_args (h0 := []) (h0' := []) qZg.Φ rfl (args := []) («as» := []) rfl rfl (callW_of3 begins0)
end Go.Proofs.Rc
