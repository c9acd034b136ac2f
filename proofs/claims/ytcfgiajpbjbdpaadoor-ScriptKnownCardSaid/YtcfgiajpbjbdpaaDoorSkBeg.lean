/- begins: one run, by the kernel. No conditions. -/
import Derived.Test.YtcfgiajpbjbdpaaDoorSkC
set_option maxHeartbeats 16000000
set_option maxRecDepth 100000
set_option linter.unusedVariables false
set_option linter.unusedSimpArgs false
set_option linter.unusedSectionVars false
namespace Go.Proofs.Sc
open Go Go.Ev
theorem begins0 : evCall Φ 70 zZA [] [] = some (.bool true, []) := by kernel_rfl
theorem begins_spec (H : Heap) : callW Φ zZA [] H = some (.bool true, H) :=
 jZs (h0 := []) (h0' := []) zZA.Φ rfl (args := []) («as» := []) rfl rfl (vZv begins0)
end Go.Proofs.Sc
