/- PRINTED by ords.py: orders that stand for all. No conditions. -/
import Derived.Test.YtohcoghaaifmgaaItC
import Derived.Test.YtohcoghaaifmgaaEwM
set_option maxHeartbeats 16000000
set_option maxRecDepth 100000
set_option linter.unusedVariables false
set_option linter.unusedSimpArgs false
set_option linter.unusedSectionVars false
namespace Go.Proofs.It
open Go Go.Ev
theorem zZF.r3.ord : orders2 zZF.r3 [[], [], [0, 1], [2, 2], [3], [3], [4, 5, 3], [3, 6], [7, 3], [8], [8], [9, 10, 8, 8], [8], [8], [12, 13, 11, 8], [11, 14, 8], [8, 15], [16, 14], [17, 17], [17, 18], [19, 18, 0, 1, 2, 3, 4, 5, 6, 7, 8, 9, 10, 11, 12, 13, 14, 15, 16, 17, 18, 19]] zZF.r3.length (List.replicate zZF.r3.length false) = some [[0, 1, 2, 3, 4, 5, 6, 7, 8, 9, 10, 11, 12, 13, 14, 15, 16, 17, 18, 19, 20],     [0, 1, 2, 3, 4, 5, 6, 7, 8, 9, 10, 12, 11, 13, 14, 15, 16, 17, 18, 19, 20],     [0, 1, 2, 3, 4, 5, 6, 7, 8, 9, 10, 12, 13, 11, 14, 15, 16, 17, 18, 19, 20],     [0, 1, 2, 3, 4, 5, 6, 7, 8, 9, 10, 13, 11, 12, 14, 15, 16, 17, 18, 19, 20],     [0, 1, 2, 3, 4, 5, 6, 7, 8, 9, 10, 13, 12, 11, 14, 15, 16, 17, 18, 19, 20]] := by kernel_rfl
theorem zZj.r12.ord : orders2 zZj.r12 [[], [], [], [], [2, 3], [4], [0, 1, 5], [6], [7], [7], [8, 6, 0, 1, 2, 3, 4, 5, 6, 7, 8], [9, 10, 0, 1, 2, 3, 4, 5, 6, 7, 8, 9, 10]] zZj.r12.length (List.replicate zZj.r12.length false) = some [[0, 1, 2, 3, 4, 5, 6, 7, 8, 9, 10, 11]] := by kernel_rfl
theorem zZu.r9.ord : orders2 zZu.r9 [[], [], [], [], [2, 3], [4], [0, 1, 5]] zZu.r9.length (List.replicate zZu.r9.length false) = some [[0, 1, 2, 3, 4, 5, 6]] := by kernel_rfl
theorem zZu.r12.ord : orders2 zZu.r12 [[], [], [], [1, 2], [3], [0, 0], [4, 5, 0, 1, 2, 3, 4, 5], [6, 0, 1, 2, 3, 4, 5, 6]] zZu.r12.length (List.replicate zZu.r12.length false) = some [[0, 1, 2, 3, 4, 5, 6, 7], [0, 1, 2, 3, 5, 4, 6, 7], [0, 1, 2, 5, 3, 4, 6, 7]] := by kernel_rfl
theorem zZv.r9.ord : orders2 zZv.r9 [[], [], [], [], [2, 3], [4], [0, 1, 5]] zZv.r9.length (List.replicate zZv.r9.length false) = some [[0, 1, 2, 3, 4, 5, 6]] := by kernel_rfl
theorem zZv.r12.ord : orders2 zZv.r12 [[], [], [], [1, 2], [3], [0, 0], [4, 5, 0, 1, 2, 3, 4, 5], [6, 0, 1, 2, 3, 4, 5, 6]] zZv.r12.length (List.replicate zZv.r12.length false) = some [[0, 1, 2, 3, 4, 5, 6, 7], [0, 1, 2, 3, 5, 4, 6, 7], [0, 1, 2, 5, 3, 4, 6, 7]] := by kernel_rfl
theorem zZs.r5.ord : orders2 zZs.r5 [[], [0], [], [1, 2], [3], [], [5], [], [6, 7], [8], [4, 9]] zZs.r5.length (List.replicate zZs.r5.length false) = some [[0, 1, 2, 3, 4, 5, 6, 7, 8, 9, 10]] := by kernel_rfl
theorem zZL.r5.ord : orders2 zZL.r5 [[], [], [0, 1], [2], [3], [4], [5], [5], [6, 7, 5], [8, 5], [5], [10, 5], [11, 5], [9, 12, 5], [5, 13]] zZL.r5.length (List.replicate zZL.r5.length false) = some [[0, 1, 2, 3, 4, 5, 6, 7, 8, 9, 10, 11, 12, 13, 14]] := by kernel_rfl
theorem zZc.r6.ord : orders2 zZc.r6 [[], [], [0, 1], [], [], [3, 4, 2], [5], [2, 6], [7, 5, 0, 1, 2, 3, 4, 5, 6, 7]] zZc.r6.length (List.replicate zZc.r6.length false) = some [[0, 1, 4, 2, 3, 5, 6, 7, 8], [0, 1, 4, 3, 2, 5, 6, 7, 8]] := by kernel_rfl
theorem zZd.r15.ord : orders2 zZd.r15 [[], [], [], [1, 2], [3], [], [5], [4, 6], [7], [0, 8, 3], [9, 9, 0, 1, 2, 3, 4, 5, 6, 7, 8, 9]] zZd.r15.length (List.replicate zZd.r15.length false) = some [[1, 2, 5, 6, 0, 3, 4, 7, 8, 9, 10], [1, 2, 5, 6, 3, 0, 4, 7, 8, 9, 10]] := by kernel_rfl
theorem zZa.r10.ord : orders2 zZa.r10 [[], [], [1], [], [], [3, 4], [5], [0, 2, 6], [7], [8], [8], [9, 7, 0, 1, 2, 3, 4, 5, 6, 7, 8, 9], [10, 11, 0, 1, 2, 3, 4, 5, 6, 7, 8, 9, 10, 11]] zZa.r10.length (List.replicate zZa.r10.length false) = some [[0, 1, 2, 3, 4, 5, 6, 7, 8, 9, 10, 11, 12]] := by kernel_rfl
theorem zZa.r13.ord : orders2 zZa.r13 [[], [], [0, 1], [2], [], [4], [0, 1, 2, 3], [6, 3, 0, 1, 2, 3], [0, 1, 2, 3, 4, 5, 6, 7], [8, 5, 7, 0, 1, 2, 3, 4, 5, 6, 7]] zZa.r13.length (List.replicate zZa.r13.length false) = some [[0, 1, 2, 3, 4, 6, 5, 7, 8, 9], [0, 1, 2, 3, 4, 6, 7, 5, 8, 9]] := by kernel_rfl
theorem zZa.r14.ord : orders2 zZa.r14 [[], [], [], [1, 2], [3], [0, 0], [4, 5, 0, 1, 2, 3, 4, 5], [6, 0, 1, 2, 3, 4, 5, 6]] zZa.r14.length (List.replicate zZa.r14.length false) = some [[0, 1, 2, 3, 4, 5, 6, 7], [0, 1, 2, 3, 5, 4, 6, 7], [0, 1, 2, 5, 3, 4, 6, 7]] := by kernel_rfl
theorem zZ2.r5.ord : orders2 zZ2.r5 [[], [], [], [], [2, 3], [4], [1, 5], [0, 6, 6], [7, 7, 0, 1, 2, 3, 4, 5, 6, 7]] zZ2.r5.length (List.replicate zZ2.r5.length false) = some [[0, 1, 2, 3, 4, 5, 6, 7, 8]] := by kernel_rfl
theorem zZm.r10.ord : orders2 zZm.r10 [[], [], [0, 1], [2], [0, 1, 0, 1], [4], [0, 5, 3, 4, 0, 1, 2, 3, 4, 5]] zZm.r10.length (List.replicate zZm.r10.length false) = some [[0, 1, 2, 3, 4, 5, 6], [0, 1, 4, 2, 3, 5, 6]] := by kernel_rfl
theorem zZz.r6.ord : orders2 zZz.r6 [[], [0], [1], [2], [3, 2], [4], [5, 4], [6, 4], [7, 4], [4, 8], [9, 4], [10], [10], [11, 12, 10], [10], [14, 10], [13, 15, 10, 10], [16, 10], [10, 17]] zZz.r6.length (List.replicate zZz.r6.length false) = some [[0, 1, 2, 3, 4, 5, 6, 7, 8, 9, 10, 11, 12, 13, 14, 15, 16, 17, 18]] := by kernel_rfl
end Go.Proofs.It
