/- begins: one run, by the kernel. No conditions. -/
import Derived.Test.YtcfgiajpbjbdpaaGreatDoorScC
set_option maxHeartbeats 16000000
set_option maxRecDepth 100000
set_option linter.unusedVariables false
set_option linter.unusedSimpArgs false
set_option linter.unusedSectionVars false
namespace Go.Proofs.Sc
open Go Go.Ev
theorem begins0 : evCall Φ 70 qZb [] [] = some (.bool true, []) := by kernel_rfl
theorem zYao (H : Heap) : callW Φ qZb [] H = some (.bool true, H) :=
 wZ3 (h0 := []) (h0' := []) qZb.Φ rfl (args := []) («as» := []) rfl rfl (vZ4 begins0)
end Go.Proofs.Sc
