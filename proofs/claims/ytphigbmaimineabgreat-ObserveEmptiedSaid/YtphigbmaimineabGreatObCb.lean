/- PRINTED by cir3.py: the table tells of the program. Conditions: Laid. No conditions. -/
import Derived.Test.YtphigbmaimineabGreatObC
import Derived.Test.YtphigbmaimineabGreatObP
set_option maxHeartbeats 16000000
set_option maxRecDepth 100000
set_option linter.unusedVariables false
set_option linter.unusedSimpArgs false
set_option linter.unusedSectionVars false
namespace Go.Proofs.Ob
open Go Go.Ev
theorem mixed : Tryz.prog.follows .mixedOrders = true := by kernel_rfl
theorem zZd.made : cFunc Tryz.prog zZd.c.pure Tryz.f3 = some zZd.c := by kernel_rfl
theorem zZd.told {G : Glob} : Ev.Told G Tryz.prog 3 zZd.c := zZJ mixed Tryz.func3 (by decide +kernel) zZd.made
theorem qZh.made : cFunc Tryz.prog qZh.c.pure Tryz.f4 = some qZh.c := by kernel_rfl
theorem qZh.told {G : Glob} : Ev.Told G Tryz.prog 4 qZh.c := zZJ mixed Tryz.func4 (by decide +kernel) qZh.made
theorem zZp.made : cFunc Tryz.prog zZp.c.pure Tryz.f5 = some zZp.c := by kernel_rfl
theorem zZp.told {G : Glob} : Ev.Told G Tryz.prog 5 zZp.c := zZJ mixed Tryz.func5 (by decide +kernel) zZp.made
theorem zZg.made : cFunc Tryz.prog zZg.c.pure Tryz.f6 = some zZg.c := by kernel_rfl
theorem zZg.told {G : Glob} : Ev.Told G Tryz.prog 6 zZg.c := zZJ mixed Tryz.func6 (by decide +kernel) zZg.made
theorem zZo.made : cFunc Tryz.prog zZo.c.pure Tryz.f7 = some zZo.c := by kernel_rfl
theorem zZo.told {G : Glob} : Ev.Told G Tryz.prog 7 zZo.c := zZJ mixed Tryz.func7 (by decide +kernel) zZo.made
theorem qZL.made : cFunc Tryz.prog qZL.c.pure Tryz.f8 = some qZL.c := by kernel_rfl
theorem qZL.told {G : Glob} : Ev.Told G Tryz.prog 8 qZL.c := zZJ mixed Tryz.func8 (by decide +kernel) qZL.made
theorem vZc.made : cFunc Tryz.prog vZc.c.pure Tryz.f9 = some vZc.c := by kernel_rfl
theorem vZc.told {G : Glob} : Ev.Told G Tryz.prog 9 vZc.c := zZJ mixed Tryz.func9 (by decide +kernel) vZc.made
theorem zZH.made : cFunc Tryz.prog zZH.c.pure Tryz.f10 = some zZH.c := by kernel_rfl
theorem zZH.told {G : Glob} : Ev.Told G Tryz.prog 10 zZH.c := zZJ mixed Tryz.func10 (by decide +kernel) zZH.made
theorem zZf.made : cFunc Tryz.prog zZf.c.pure Tryz.f11 = some zZf.c := by kernel_rfl
theorem zZf.told {G : Glob} : Ev.Told G Tryz.prog 11 zZf.c := zZJ mixed Tryz.func11 (by decide +kernel) zZf.made
theorem qZo.made : cFunc Tryz.prog qZo.c.pure Tryz.f12 = some qZo.c := by kernel_rfl
theorem qZo.told {G : Glob} : Ev.Told G Tryz.prog 12 qZo.c := zZJ mixed Tryz.func12 (by decide +kernel) qZo.made
theorem zZh.made : cFunc Tryz.prog zZh.c.pure Tryz.f13 = some zZh.c := by kernel_rfl
theorem zZh.told {G : Glob} : Ev.Told G Tryz.prog 13 zZh.c := zZJ mixed Tryz.func13 (by decide +kernel) zZh.made
theorem zZq.made : cFunc Tryz.prog zZq.c.pure Tryz.f14 = some zZq.c := by kernel_rfl
theorem zZq.told {G : Glob} : Ev.Told G Tryz.prog 14 zZq.c := zZJ mixed Tryz.func14 (by decide +kernel) zZq.made
theorem zZa.made : cFunc Tryz.prog zZa.c.pure Tryz.f15 = some zZa.c := by kernel_rfl
theorem zZa.told {G : Glob} : Ev.Told G Tryz.prog 15 zZa.c := zZJ mixed Tryz.func15 (by decide +kernel) zZa.made
theorem zZI.made : cFunc Tryz.prog zZI.c.pure Tryz.f16 = some zZI.c := by kernel_rfl
theorem zZI.told {G : Glob} : Ev.Told G Tryz.prog 16 zZI.c := zZJ mixed Tryz.func16 (by decide +kernel) zZI.made
theorem zZt.made : cFunc Tryz.prog zZt.c.pure Tryz.f17 = some zZt.c := by kernel_rfl
theorem zZt.told {G : Glob} : Ev.Told G Tryz.prog 17 zZt.c := zZJ mixed Tryz.func17 (by decide +kernel) zZt.made
theorem zZC.made : cFunc Tryz.prog zZC.c.pure Tryz.f18 = some zZC.c := by kernel_rfl
theorem zZC.told {G : Glob} : Ev.Told G Tryz.prog 18 zZC.c := zZJ mixed Tryz.func18 (by decide +kernel) zZC.made
theorem zZu.made : cFunc Tryz.prog zZu.c.pure Tryz.f19 = some zZu.c := by kernel_rfl
theorem zZu.told {G : Glob} : Ev.Told G Tryz.prog 19 zZu.c := zZJ mixed Tryz.func19 (by decide +kernel) zZu.made
theorem qZj.made : cFunc Tryz.prog qZj.c.pure Tryz.f20 = some qZj.c := by kernel_rfl
theorem qZj.told {G : Glob} : Ev.Told G Tryz.prog 20 qZj.c := zZJ mixed Tryz.func20 (by decide +kernel) qZj.made
theorem qZd.made : cFunc Tryz.prog qZd.c.pure Tryz.f21 = some qZd.c := by kernel_rfl
theorem qZd.told {G : Glob} : Ev.Told G Tryz.prog 21 qZd.c := zZJ mixed Tryz.func21 (by decide +kernel) qZd.made
theorem zZV.made : cFunc Tryz.prog zZV.c.pure Tryz.f22 = some zZV.c := by kernel_rfl
theorem zZV.told {G : Glob} : Ev.Told G Tryz.prog 22 zZV.c := zZJ mixed Tryz.func22 (by decide +kernel) zZV.made
theorem zZr.made : cFunc Tryz.prog zZr.c.pure Tryz.f23 = some zZr.c := by kernel_rfl
theorem zZr.told {G : Glob} : Ev.Told G Tryz.prog 23 zZr.c := zZJ mixed Tryz.func23 (by decide +kernel) zZr.made
theorem zZP.made : cFunc Tryz.prog zZP.c.pure Tryz.f24 = some zZP.c := by kernel_rfl
theorem zZP.told {G : Glob} : Ev.Told G Tryz.prog 24 zZP.c := zZJ mixed Tryz.func24 (by decide +kernel) zZP.made
theorem qZM.made : cFunc Tryz.prog qZM.c.pure Tryz.f25 = some qZM.c := by kernel_rfl
theorem qZM.told {G : Glob} : Ev.Told G Tryz.prog 25 qZM.c := zZJ mixed Tryz.func25 (by decide +kernel) qZM.made
theorem qZs.made : cFunc Tryz.prog qZs.c.pure Tryz.f26 = some qZs.c := by kernel_rfl
theorem qZs.told {G : Glob} : Ev.Told G Tryz.prog 26 qZs.c := zZJ mixed Tryz.func26 (by decide +kernel) qZs.made
theorem zZn.made : cFunc Tryz.prog zZn.c.pure Tryz.f27 = some zZn.c := by kernel_rfl
theorem zZn.told {G : Glob} : Ev.Told G Tryz.prog 27 zZn.c := zZJ mixed Tryz.func27 (by decide +kernel) zZn.made
theorem qZK.made : cFunc Tryz.prog qZK.c.pure Tryz.f28 = some qZK.c := by kernel_rfl
theorem qZK.told {G : Glob} : Ev.Told G Tryz.prog 28 qZK.c := zZJ mixed Tryz.func28 (by decide +kernel) qZK.made
theorem zZm.made : cFunc Tryz.prog zZm.c.pure Tryz.f29 = some zZm.c := by kernel_rfl
theorem zZm.told {G : Glob} : Ev.Told G Tryz.prog 29 zZm.c := zZJ mixed Tryz.func29 (by decide +kernel) zZm.made
theorem zZ0.made : cFunc Tryz.prog zZ0.c.pure Tryz.f30 = some zZ0.c := by kernel_rfl
theorem zZ0.told {G : Glob} : Ev.Told G Tryz.prog 30 zZ0.c := zZJ mixed Tryz.func30 (by decide +kernel) zZ0.made
theorem zZF.made : cFunc Tryz.prog zZF.c.pure Tryz.f31 = some zZF.c := by kernel_rfl
theorem zZF.told {G : Glob} : Ev.Told G Tryz.prog 31 zZF.c := zZJ mixed Tryz.func31 (by decide +kernel) zZF.made
theorem zZM.made : cFunc Tryz.prog zZM.c.pure Tryz.f32 = some zZM.c := by kernel_rfl
theorem zZM.told {G : Glob} : Ev.Told G Tryz.prog 32 zZM.c := zZJ mixed Tryz.func32 (by decide +kernel) zZM.made
theorem zZb.made : cFunc Tryz.prog zZb.c.pure Tryz.f33 = some zZb.c := by kernel_rfl
theorem zZb.told {G : Glob} : Ev.Told G Tryz.prog 33 zZb.c := zZJ mixed Tryz.func33 (by decide +kernel) zZb.made
theorem zZy.made : cFunc Tryz.prog zZy.c.pure Tryz.f34 = some zZy.c := by kernel_rfl
theorem zZy.told {G : Glob} : Ev.Told G Tryz.prog 34 zZy.c := zZJ mixed Tryz.func34 (by decide +kernel) zZy.made
theorem zZT.made : cFunc Tryz.prog zZT.c.pure Tryz.f35 = some zZT.c := by kernel_rfl
theorem zZT.told {G : Glob} : Ev.Told G Tryz.prog 35 zZT.c := zZJ mixed Tryz.func35 (by decide +kernel) zZT.made
theorem zZG.made : cFunc Tryz.prog zZG.c.pure Tryz.f36 = some zZG.c := by kernel_rfl
theorem zZG.told {G : Glob} : Ev.Told G Tryz.prog 36 zZG.c := zZJ mixed Tryz.func36 (by decide +kernel) zZG.made
theorem qZv.made : cFunc Tryz.prog qZv.c.pure Tryz.f37 = some qZv.c := by kernel_rfl
theorem qZv.told {G : Glob} : Ev.Told G Tryz.prog 37 qZv.c := zZJ mixed Tryz.func37 (by decide +kernel) qZv.made
theorem qZT.made : cFunc Tryz.prog qZT.c.pure Tryz.f38 = some qZT.c := by kernel_rfl
theorem qZT.told {G : Glob} : Ev.Told G Tryz.prog 38 qZT.c := zZJ mixed Tryz.func38 (by decide +kernel) qZT.made
theorem zZ3.made : cFunc Tryz.prog zZ3.c.pure Tryz.f39 = some zZ3.c := by kernel_rfl
theorem zZ3.told {G : Glob} : Ev.Told G Tryz.prog 39 zZ3.c := zZJ mixed Tryz.func39 (by decide +kernel) zZ3.made
theorem zZ7.made : cFunc Tryz.prog zZ7.c.pure Tryz.f40 = some zZ7.c := by kernel_rfl
theorem zZ7.told {G : Glob} : Ev.Told G Tryz.prog 40 zZ7.c := zZJ mixed Tryz.func40 (by decide +kernel) zZ7.made
theorem vZC.made : cFunc Tryz.prog vZC.c.pure Tryz.f41 = some vZC.c := by kernel_rfl
theorem vZC.told {G : Glob} : Ev.Told G Tryz.prog 41 vZC.c := zZJ mixed Tryz.func41 (by decide +kernel) vZC.made
theorem vZk.made : cFunc Tryz.prog vZk.c.pure Tryz.f42 = some vZk.c := by kernel_rfl
theorem vZk.told {G : Glob} : Ev.Told G Tryz.prog 42 vZk.c := zZJ mixed Tryz.func42 (by decide +kernel) vZk.made
theorem zZK.made : cFunc Tryz.prog zZK.c.pure Tryz.f43 = some zZK.c := by kernel_rfl
theorem zZK.told {G : Glob} : Ev.Told G Tryz.prog 43 zZK.c := zZJ mixed Tryz.func43 (by decide +kernel) zZK.made
theorem zZ8.made : cFunc Tryz.prog zZ8.c.pure Tryz.f44 = some zZ8.c := by kernel_rfl
theorem zZ8.told {G : Glob} : Ev.Told G Tryz.prog 44 zZ8.c := zZJ mixed Tryz.func44 (by decide +kernel) zZ8.made
theorem qZS.told {G : Glob} (hG : Laid G) : Ev.Told G Tryz.prog 45 (primClone 12 72) := ⟨Tryz.f45, _, Tryz.func45, by decide +kernel, rfl, clone_regs hG⟩
theorem vZa.made : cFunc Tryz.prog vZa.c.pure Tryz.f46 = some vZa.c := by kernel_rfl
theorem vZa.told {G : Glob} : Ev.Told G Tryz.prog 46 vZa.c := zZJ mixed Tryz.func46 (by decide +kernel) vZa.made
theorem qZH.made : cFunc Tryz.prog qZH.c.pure Tryz.f47 = some qZH.c := by kernel_rfl
theorem qZH.told {G : Glob} : Ev.Told G Tryz.prog 47 qZH.c := zZJ mixed Tryz.func47 (by decide +kernel) qZH.made
theorem zZ9.made : cFunc Tryz.prog zZ9.c.pure Tryz.f48 = some zZ9.c := by kernel_rfl
theorem zZ9.told {G : Glob} : Ev.Told G Tryz.prog 48 zZ9.c := zZJ mixed Tryz.func48 (by decide +kernel) zZ9.made
theorem zZc.made : cFunc Tryz.prog zZc.c.pure Tryz.f49 = some zZc.c := by kernel_rfl
theorem zZc.told {G : Glob} : Ev.Told G Tryz.prog 49 zZc.c := zZJ mixed Tryz.func49 (by decide +kernel) zZc.made
theorem zZe.made : cFunc Tryz.prog zZe.c.pure Tryz.f50 = some zZe.c := by kernel_rfl
theorem zZe.told {G : Glob} : Ev.Told G Tryz.prog 50 zZe.c := zZJ mixed Tryz.func50 (by decide +kernel) zZe.made
theorem vZh.made : cFunc Tryz.prog vZh.c.pure Tryz.f51 = some vZh.c := by kernel_rfl
theorem vZh.told {G : Glob} : Ev.Told G Tryz.prog 51 vZh.c := zZJ mixed Tryz.func51 (by decide +kernel) vZh.made
theorem qZf.made : cFunc Tryz.prog qZf.c.pure Tryz.f52 = some qZf.c := by kernel_rfl
theorem qZf.told {G : Glob} : Ev.Told G Tryz.prog 52 qZf.c := zZJ mixed Tryz.func52 (by decide +kernel) qZf.made
theorem vZi.made : cFunc Tryz.prog vZi.c.pure Tryz.f53 = some vZi.c := by kernel_rfl
theorem vZi.told {G : Glob} : Ev.Told G Tryz.prog 53 vZi.c := zZJ mixed Tryz.func53 (by decide +kernel) vZi.made
theorem qZX.made : cFunc Tryz.prog qZX.c.pure Tryz.f54 = some qZX.c := by kernel_rfl
theorem qZX.told {G : Glob} : Ev.Told G Tryz.prog 54 qZX.c := zZJ mixed Tryz.func54 (by decide +kernel) qZX.made
theorem qZY.made : cFunc Tryz.prog qZY.c.pure Tryz.f55 = some qZY.c := by kernel_rfl
theorem qZY.told {G : Glob} : Ev.Told G Tryz.prog 55 qZY.c := zZJ mixed Tryz.func55 (by decide +kernel) qZY.made
theorem vZe.made : cFunc Tryz.prog vZe.c.pure Tryz.f56 = some vZe.c := by kernel_rfl
theorem vZe.told {G : Glob} : Ev.Told G Tryz.prog 56 vZe.c := zZJ mixed Tryz.func56 (by decide +kernel) vZe.made
theorem qZq.made : cFunc Tryz.prog qZq.c.pure Tryz.f57 = some qZq.c := by kernel_rfl
theorem qZq.told {G : Glob} : Ev.Told G Tryz.prog 57 qZq.c := zZJ mixed Tryz.func57 (by decide +kernel) qZq.made
theorem qZV.made : cFunc Tryz.prog qZV.c.pure Tryz.f58 = some qZV.c := by kernel_rfl
theorem qZV.told {G : Glob} : Ev.Told G Tryz.prog 58 qZV.c := zZJ mixed Tryz.func58 (by decide +kernel) qZV.made
theorem zZU.made : cFunc Tryz.prog zZU.c.pure Tryz.f59 = some zZU.c := by kernel_rfl
theorem zZU.told {G : Glob} : Ev.Told G Tryz.prog 59 zZU.c := zZJ mixed Tryz.func59 (by decide +kernel) zZU.made
theorem qZ0.made : cFunc Tryz.prog qZ0.c.pure Tryz.f60 = some qZ0.c := by kernel_rfl
theorem qZ0.told {G : Glob} : Ev.Told G Tryz.prog 60 qZ0.c := zZJ mixed Tryz.func60 (by decide +kernel) qZ0.made
theorem qZl.made : cFunc Tryz.prog qZl.c.pure Tryz.f61 = some qZl.c := by kernel_rfl
theorem qZl.told {G : Glob} : Ev.Told G Tryz.prog 61 qZl.c := zZJ mixed Tryz.func61 (by decide +kernel) qZl.made
theorem qZU.made : cFunc Tryz.prog qZU.c.pure Tryz.f62 = some qZU.c := by kernel_rfl
theorem qZU.told {G : Glob} : Ev.Told G Tryz.prog 62 qZU.c := zZJ mixed Tryz.func62 (by decide +kernel) qZU.made
theorem zZW.made : cFunc Tryz.prog zZW.c.pure Tryz.f63 = some zZW.c := by kernel_rfl
theorem zZW.told {G : Glob} : Ev.Told G Tryz.prog 63 zZW.c := zZJ mixed Tryz.func63 (by decide +kernel) zZW.made
theorem qZJ.made : cFunc Tryz.prog qZJ.c.pure Tryz.f64 = some qZJ.c := by kernel_rfl
theorem qZJ.told {G : Glob} : Ev.Told G Tryz.prog 64 qZJ.c := zZJ mixed Tryz.func64 (by decide +kernel) qZJ.made
theorem zZO.made : cFunc Tryz.prog zZO.c.pure Tryz.f65 = some zZO.c := by kernel_rfl
theorem zZO.told {G : Glob} : Ev.Told G Tryz.prog 65 zZO.c := zZJ mixed Tryz.func65 (by decide +kernel) zZO.made
theorem zZD.made : cFunc Tryz.prog zZD.c.pure Tryz.f66 = some zZD.c := by kernel_rfl
theorem zZD.told {G : Glob} : Ev.Told G Tryz.prog 66 zZD.c := zZJ mixed Tryz.func66 (by decide +kernel) zZD.made
theorem zZz.made : cFunc Tryz.prog zZz.c.pure Tryz.f67 = some zZz.c := by kernel_rfl
theorem zZz.told {G : Glob} : Ev.Told G Tryz.prog 67 zZz.c := zZJ mixed Tryz.func67 (by decide +kernel) zZz.made
theorem zZ2.made : cFunc Tryz.prog zZ2.c.pure Tryz.f68 = some zZ2.c := by kernel_rfl
theorem zZ2.told {G : Glob} : Ev.Told G Tryz.prog 68 zZ2.c := zZJ mixed Tryz.func68 (by decide +kernel) zZ2.made
theorem zZQ.made : cFunc Tryz.prog zZQ.c.pure Tryz.f69 = some zZQ.c := by kernel_rfl
theorem zZQ.told {G : Glob} : Ev.Told G Tryz.prog 69 zZQ.c := zZJ mixed Tryz.func69 (by decide +kernel) zZQ.made
theorem qZG.made : cFunc Tryz.prog qZG.c.pure Tryz.f70 = some qZG.c := by kernel_rfl
theorem qZG.told {G : Glob} : Ev.Told G Tryz.prog 70 qZG.c := zZJ mixed Tryz.func70 (by decide +kernel) qZG.made
theorem vZr.told {G : Glob} (hG : Laid G) : Ev.Told G Tryz.prog 71 (primClone 1 2) := ⟨Tryz.f71, _, Tryz.func71, by decide +kernel, rfl, clone_units hG⟩
theorem vZp.told {G : Glob} (hG : Laid G) : Ev.Told G Tryz.prog 72 (primClone 4 64) := ⟨Tryz.f72, _, Tryz.func72, by decide +kernel, rfl, clone_attrs hG⟩
theorem vZM.told {G : Glob} (hG : Laid G) : Ev.Told G Tryz.prog 73 (primClone 1 8) := ⟨Tryz.f73, _, Tryz.func73, by decide +kernel, rfl, clone_ints hG⟩
theorem qZP.made : cFunc Tryz.prog qZP.c.pure Tryz.f74 = some qZP.c := by kernel_rfl
theorem qZP.told {G : Glob} : Ev.Told G Tryz.prog 74 qZP.c := zZJ mixed Tryz.func74 (by decide +kernel) qZP.made
theorem qZD.made : cFunc Tryz.prog qZD.c.pure Tryz.f75 = some qZD.c := by kernel_rfl
theorem qZD.told {G : Glob} : Ev.Told G Tryz.prog 75 qZD.c := zZJ mixed Tryz.func75 (by decide +kernel) qZD.made
theorem zZZ.made : cFunc Tryz.prog zZZ.c.pure Tryz.f76 = some zZZ.c := by kernel_rfl
theorem zZZ.told {G : Glob} : Ev.Told G Tryz.prog 76 zZZ.c := zZJ mixed Tryz.func76 (by decide +kernel) zZZ.made
theorem qZC.made : cFunc Tryz.prog qZC.c.pure Tryz.f77 = some qZC.c := by kernel_rfl
theorem qZC.told {G : Glob} : Ev.Told G Tryz.prog 77 qZC.c := zZJ mixed Tryz.func77 (by decide +kernel) qZC.made
theorem zZ4.made : cFunc Tryz.prog zZ4.c.pure Tryz.f78 = some zZ4.c := by kernel_rfl
theorem zZ4.told {G : Glob} : Ev.Told G Tryz.prog 78 zZ4.c := zZJ mixed Tryz.func78 (by decide +kernel) zZ4.made
theorem qZW.made : cFunc Tryz.prog qZW.c.pure Tryz.f79 = some qZW.c := by kernel_rfl
theorem qZW.told {G : Glob} : Ev.Told G Tryz.prog 79 qZW.c := zZJ mixed Tryz.func79 (by decide +kernel) qZW.made
theorem zZ5.made : cFunc Tryz.prog zZ5.c.pure Tryz.f80 = some zZ5.c := by kernel_rfl
theorem zZ5.told {G : Glob} : Ev.Told G Tryz.prog 80 zZ5.c := zZJ mixed Tryz.func80 (by decide +kernel) zZ5.made
theorem qZx.made : cFunc Tryz.prog qZx.c.pure Tryz.f81 = some qZx.c := by kernel_rfl
theorem qZx.told {G : Glob} : Ev.Told G Tryz.prog 81 qZx.c := zZJ mixed Tryz.func81 (by decide +kernel) qZx.made
theorem qZe.made : cFunc Tryz.prog qZe.c.pure Tryz.f82 = some qZe.c := by kernel_rfl
theorem qZe.told {G : Glob} : Ev.Told G Tryz.prog 82 qZe.c := zZJ mixed Tryz.func82 (by decide +kernel) qZe.made
theorem qZm.made : cFunc Tryz.prog qZm.c.pure Tryz.f83 = some qZm.c := by kernel_rfl
theorem qZm.told {G : Glob} : Ev.Told G Tryz.prog 83 qZm.c := zZJ mixed Tryz.func83 (by decide +kernel) qZm.made
theorem qZB.made : cFunc Tryz.prog qZB.c.pure Tryz.f84 = some qZB.c := by kernel_rfl
theorem qZB.told {G : Glob} : Ev.Told G Tryz.prog 84 qZB.c := zZJ mixed Tryz.func84 (by decide +kernel) qZB.made
theorem qZi.made : cFunc Tryz.prog qZi.c.pure Tryz.f85 = some qZi.c := by kernel_rfl
theorem qZi.told {G : Glob} : Ev.Told G Tryz.prog 85 qZi.c := zZJ mixed Tryz.func85 (by decide +kernel) qZi.made
theorem qZg.made : cFunc Tryz.prog qZg.c.pure Tryz.f86 = some qZg.c := by kernel_rfl
theorem qZg.told {G : Glob} : Ev.Told G Tryz.prog 86 qZg.c := zZJ mixed Tryz.func86 (by decide +kernel) qZg.made
theorem qZA.made : cFunc Tryz.prog qZA.c.pure Tryz.f87 = some qZA.c := by kernel_rfl
theorem qZA.told {G : Glob} : Ev.Told G Tryz.prog 87 qZA.c := zZJ mixed Tryz.func87 (by decide +kernel) qZA.made
theorem zZE.made : cFunc Tryz.prog zZE.c.pure Tryz.f88 = some zZE.c := by kernel_rfl
theorem zZE.told {G : Glob} : Ev.Told G Tryz.prog 88 zZE.c := zZJ mixed Tryz.func88 (by decide +kernel) zZE.made
theorem zZ6.made : cFunc Tryz.prog zZ6.c.pure Tryz.f89 = some zZ6.c := by kernel_rfl
theorem zZ6.told {G : Glob} : Ev.Told G Tryz.prog 89 zZ6.c := zZJ mixed Tryz.func89 (by decide +kernel) zZ6.made
theorem qZt.made : cFunc Tryz.prog qZt.c.pure Tryz.f90 = some qZt.c := by kernel_rfl
theorem qZt.told {G : Glob} : Ev.Told G Tryz.prog 90 qZt.c := zZJ mixed Tryz.func90 (by decide +kernel) qZt.made
theorem zZN.made : cFunc Tryz.prog zZN.c.pure Tryz.f91 = some zZN.c := by kernel_rfl
theorem zZN.told {G : Glob} : Ev.Told G Tryz.prog 91 zZN.c := zZJ mixed Tryz.func91 (by decide +kernel) zZN.made
theorem qZE.made : cFunc Tryz.prog qZE.c.pure Tryz.f92 = some qZE.c := by kernel_rfl
theorem qZE.told {G : Glob} : Ev.Told G Tryz.prog 92 qZE.c := zZJ mixed Tryz.func92 (by decide +kernel) qZE.made
theorem vZg.made : cFunc Tryz.prog vZg.c.pure Tryz.f93 = some vZg.c := by kernel_rfl
theorem vZg.told {G : Glob} : Ev.Told G Tryz.prog 93 vZg.c := zZJ mixed Tryz.func93 (by decide +kernel) vZg.made
theorem qZF.made : cFunc Tryz.prog qZF.c.pure Tryz.f94 = some qZF.c := by kernel_rfl
theorem qZF.told {G : Glob} : Ev.Told G Tryz.prog 94 qZF.c := zZJ mixed Tryz.func94 (by decide +kernel) qZF.made
theorem qZZ.made : cFunc Tryz.prog qZZ.c.pure Tryz.f95 = some qZZ.c := by kernel_rfl
theorem qZZ.told {G : Glob} : Ev.Told G Tryz.prog 95 qZZ.c := zZJ mixed Tryz.func95 (by decide +kernel) qZZ.made
theorem zZj.made : cFunc Tryz.prog zZj.c.pure Tryz.f96 = some zZj.c := by kernel_rfl
theorem zZj.told {G : Glob} : Ev.Told G Tryz.prog 96 zZj.c := zZJ mixed Tryz.func96 (by decide +kernel) zZj.made
theorem qZc.made : cFunc Tryz.prog qZc.c.pure Tryz.f97 = some qZc.c := by kernel_rfl
theorem qZc.told {G : Glob} : Ev.Told G Tryz.prog 97 qZc.c := zZJ mixed Tryz.func97 (by decide +kernel) qZc.made
theorem zZv.made : cFunc Tryz.prog zZv.c.pure Tryz.f98 = some zZv.c := by kernel_rfl
theorem zZv.told {G : Glob} : Ev.Told G Tryz.prog 98 zZv.c := zZJ mixed Tryz.func98 (by decide +kernel) zZv.made
theorem qZn.made : cFunc Tryz.prog qZn.c.pure Tryz.f99 = some qZn.c := by kernel_rfl
theorem qZn.told {G : Glob} : Ev.Told G Tryz.prog 99 qZn.c := zZJ mixed Tryz.func99 (by decide +kernel) qZn.made
theorem zZs.made : cFunc Tryz.prog zZs.c.pure Tryz.f100 = some zZs.c := by kernel_rfl
theorem zZs.told {G : Glob} : Ev.Told G Tryz.prog 100 zZs.c := zZJ mixed Tryz.func100 (by decide +kernel) zZs.made
theorem qZN.made : cFunc Tryz.prog qZN.c.pure Tryz.f101 = some qZN.c := by kernel_rfl
theorem qZN.told {G : Glob} : Ev.Told G Tryz.prog 101 qZN.c := zZJ mixed Tryz.func101 (by decide +kernel) qZN.made
theorem zZL.made : cFunc Tryz.prog zZL.c.pure Tryz.f102 = some zZL.c := by kernel_rfl
theorem zZL.told {G : Glob} : Ev.Told G Tryz.prog 102 zZL.c := zZJ mixed Tryz.func102 (by decide +kernel) zZL.made
theorem qZu.made : cFunc Tryz.prog qZu.c.pure Tryz.f103 = some qZu.c := by kernel_rfl
theorem qZu.told {G : Glob} : Ev.Told G Tryz.prog 103 qZu.c := zZJ mixed Tryz.func103 (by decide +kernel) qZu.made
theorem zZx.made : cFunc Tryz.prog zZx.c.pure Tryz.f104 = some zZx.c := by kernel_rfl
theorem zZx.told {G : Glob} : Ev.Told G Tryz.prog 104 zZx.c := zZJ mixed Tryz.func104 (by decide +kernel) zZx.made
theorem qZk.made : cFunc Tryz.prog qZk.c.pure Tryz.f105 = some qZk.c := by kernel_rfl
theorem qZk.told {G : Glob} : Ev.Told G Tryz.prog 105 qZk.c := zZJ mixed Tryz.func105 (by decide +kernel) qZk.made
theorem vZl.made : cFunc Tryz.prog vZl.c.pure Tryz.f106 = some vZl.c := by kernel_rfl
theorem vZl.told {G : Glob} : Ev.Told G Tryz.prog 106 vZl.c := zZJ mixed Tryz.func106 (by decide +kernel) vZl.made
theorem qZp.made : cFunc Tryz.prog qZp.c.pure Tryz.f107 = some qZp.c := by kernel_rfl
theorem qZp.told {G : Glob} : Ev.Told G Tryz.prog 107 qZp.c := zZJ mixed Tryz.func107 (by decide +kernel) qZp.made
theorem vZb.made : cFunc Tryz.prog vZb.c.pure Tryz.f108 = some vZb.c := by kernel_rfl
theorem vZb.told {G : Glob} : Ev.Told G Tryz.prog 108 vZb.c := zZJ mixed Tryz.func108 (by decide +kernel) vZb.made
theorem zZ1.made : cFunc Tryz.prog zZ1.c.pure Tryz.f109 = some zZ1.c := by kernel_rfl
theorem zZ1.told {G : Glob} : Ev.Told G Tryz.prog 109 zZ1.c := zZJ mixed Tryz.func109 (by decide +kernel) zZ1.made
theorem qZr.made : cFunc Tryz.prog qZr.c.pure Tryz.f110 = some qZr.c := by kernel_rfl
theorem qZr.told {G : Glob} : Ev.Told G Tryz.prog 110 qZr.c := zZJ mixed Tryz.func110 (by decide +kernel) qZr.made
theorem qZz.made : cFunc Tryz.prog qZz.c.pure Tryz.f112 = some qZz.c := by kernel_rfl
theorem qZz.told {G : Glob} : Ev.Told G Tryz.prog 112 qZz.c := zZJ mixed Tryz.func112 (by decide +kernel) qZz.made
theorem zZA.made : cFunc Tryz.prog zZA.c.pure Tryz.f113 = some zZA.c := by kernel_rfl
theorem zZA.told {G : Glob} : Ev.Told G Tryz.prog 113 zZA.c := zZJ mixed Tryz.func113 (by decide +kernel) zZA.made
theorem qZa.made : cFunc Tryz.prog qZa.c.pure Tryz.f114 = some qZa.c := by kernel_rfl
theorem qZa.told {G : Glob} : Ev.Told G Tryz.prog 114 qZa.c := zZJ mixed Tryz.func114 (by decide +kernel) qZa.made
theorem qZ1.made : cFunc Tryz.prog qZ1.c.pure Tryz.f115 = some qZ1.c := by kernel_rfl
theorem qZ1.told {G : Glob} : Ev.Told G Tryz.prog 115 qZ1.c := zZJ mixed Tryz.func115 (by decide +kernel) qZ1.made
theorem vZf.made : cFunc Tryz.prog vZf.c.pure Tryz.f117 = some vZf.c := by kernel_rfl
theorem vZf.told {G : Glob} : Ev.Told G Tryz.prog 117 vZf.c := zZJ mixed Tryz.func117 (by decide +kernel) vZf.made
theorem zZl.made : cFunc Tryz.prog zZl.c.pure Tryz.f118 = some zZl.c := by kernel_rfl
theorem zZl.told {G : Glob} : Ev.Told G Tryz.prog 118 zZl.c := zZJ mixed Tryz.func118 (by decide +kernel) zZl.made
theorem qZ9.made : cFunc Tryz.prog qZ9.c.pure Tryz.f119 = some qZ9.c := by kernel_rfl
theorem qZ9.told {G : Glob} : Ev.Told G Tryz.prog 119 qZ9.c := zZJ mixed Tryz.func119 (by decide +kernel) qZ9.made
theorem zZi.made : cFunc Tryz.prog zZi.c.pure Tryz.f120 = some zZi.c := by kernel_rfl
theorem zZi.told {G : Glob} : Ev.Told G Tryz.prog 120 zZi.c := zZJ mixed Tryz.func120 (by decide +kernel) zZi.made
theorem qZy.made : cFunc Tryz.prog qZy.c.pure Tryz.f121 = some qZy.c := by kernel_rfl
theorem qZy.told {G : Glob} : Ev.Told G Tryz.prog 121 qZy.c := zZJ mixed Tryz.func121 (by decide +kernel) qZy.made
theorem qZ8.made : cFunc Tryz.prog qZ8.c.pure Tryz.f122 = some qZ8.c := by kernel_rfl
theorem qZ8.told {G : Glob} : Ev.Told G Tryz.prog 122 qZ8.c := zZJ mixed Tryz.func122 (by decide +kernel) qZ8.made
theorem qZ7.made : cFunc Tryz.prog qZ7.c.pure Tryz.f123 = some qZ7.c := by kernel_rfl
theorem qZ7.told {G : Glob} : Ev.Told G Tryz.prog 123 qZ7.c := zZJ mixed Tryz.func123 (by decide +kernel) qZ7.made
theorem zZB.made : cFunc Tryz.prog zZB.c.pure Tryz.f124 = some zZB.c := by kernel_rfl
theorem zZB.told {G : Glob} : Ev.Told G Tryz.prog 124 zZB.c := zZJ mixed Tryz.func124 (by decide +kernel) zZB.made
theorem zZk.made : cFunc Tryz.prog zZk.c.pure Tryz.f131 = some zZk.c := by kernel_rfl
theorem zZk.told {G : Glob} : Ev.Told G Tryz.prog 131 zZk.c := zZJ mixed Tryz.func131 (by decide +kernel) zZk.made
theorem qZI.made : cFunc Tryz.prog qZI.c.pure Tryz.f132 = some qZI.c := by kernel_rfl
theorem qZI.told {G : Glob} : Ev.Told G Tryz.prog 132 qZI.c := zZJ mixed Tryz.func132 (by decide +kernel) qZI.made
theorem zZR.made : cFunc Tryz.prog zZR.c.pure Tryz.f133 = some zZR.c := by kernel_rfl
theorem zZR.told {G : Glob} : Ev.Told G Tryz.prog 133 zZR.c := zZJ mixed Tryz.func133 (by decide +kernel) zZR.made
theorem qZQ.made : cFunc Tryz.prog qZQ.c.pure Tryz.f134 = some qZQ.c := by kernel_rfl
theorem qZQ.told {G : Glob} : Ev.Told G Tryz.prog 134 qZQ.c := zZJ mixed Tryz.func134 (by decide +kernel) qZQ.made
theorem zZw.made : cFunc Tryz.prog zZw.c.pure Tryz.f137 = some zZw.c := by kernel_rfl
theorem zZw.told {G : Glob} : Ev.Told G Tryz.prog 137 zZw.c := zZJ mixed Tryz.func137 (by decide +kernel) zZw.made
theorem zZX {G : Glob} {f k : Nat} {c cf : Cf} (hr : Ev.Told G Tryz.prog k c) (h : (if f = k then some c else none) = some cf) : Ev.Told G Tryz.prog f cf := by
 split at h
 ·rename_i e; subst e; cases h; exact hr
 ·cases h
theorem zZY {G : Glob} {f m : Nat} {a b : Option Cf} {cf : Cf} (h : (if f < m then a else b) = some cf) (ha : a = some cf → Ev.Told G Tryz.prog f cf) (hb : b = some cf → Ev.Told G Tryz.prog f cf) : Ev.Told G Tryz.prog f cf := by
 split at h
 ·exact ha h
 ·exact hb h
theorem tells {G : Glob} (hG : Laid G) : Tells G Tryz.prog Φ := fun f cf h => zZY h (fun h => zZY h (fun h => zZY h (fun h => zZY h (fun h => zZY h (fun h => zZY h (fun h => zZX zZd.told h) (fun h => zZY h (fun h => zZX qZh.told h) (fun h => zZX zZp.told h))) (fun h => zZY h (fun h => zZY h (fun h => zZX zZg.told h) (fun h => zZX zZo.told h)) (fun h => zZY h (fun h => zZX qZL.told h) (fun h => zZX vZc.told h)))) (fun h => zZY h (fun h => zZY h (fun h => zZY h (fun h => zZX zZH.told h) (fun h => zZX zZf.told h)) (fun h => zZY h (fun h => zZX qZo.told h) (fun h => zZX zZh.told h))) (fun h => zZY h (fun h => zZY h (fun h => zZX zZq.told h) (fun h => zZX zZa.told h)) (fun h => zZY h (fun h => zZX zZI.told h) (fun h => zZX zZt.told h))))) (fun h => zZY h (fun h => zZY h (fun h => zZY h (fun h => zZY h (fun h => zZX zZC.told h) (fun h => zZX zZu.told h)) (fun h => zZY h (fun h => zZX qZj.told h) (fun h => zZX qZd.told h))) (fun h => zZY h (fun h => zZY h (fun h => zZX zZV.told h) (fun h => zZX zZr.told h)) (fun h => zZY h (fun h => zZX zZP.told h) (fun h => zZX qZM.told h)))) (fun h => zZY h (fun h => zZY h (fun h => zZY h (fun h => zZX qZs.told h) (fun h => zZX zZn.told h)) (fun h => zZY h (fun h => zZX qZK.told h) (fun h => zZX zZm.told h))) (fun h => zZY h (fun h => zZY h (fun h => zZX zZ0.told h) (fun h => zZX zZF.told h)) (fun h => zZY h (fun h => zZX zZM.told h) (fun h => zZX zZb.told h)))))) (fun h => zZY h (fun h => zZY h (fun h => zZY h (fun h => zZY h (fun h => zZX zZy.told h) (fun h => zZY h (fun h => zZX zZT.told h) (fun h => zZX zZG.told h))) (fun h => zZY h (fun h => zZY h (fun h => zZX qZv.told h) (fun h => zZX qZT.told h)) (fun h => zZY h (fun h => zZX zZ3.told h) (fun h => zZX zZ7.told h)))) (fun h => zZY h (fun h => zZY h (fun h => zZY h (fun h => zZX vZC.told h) (fun h => zZX vZk.told h)) (fun h => zZY h (fun h => zZX zZK.told h) (fun h => zZX zZ8.told h))) (fun h => zZY h (fun h => zZY h (fun h => zZX (qZS.told hG) h) (fun h => zZX vZa.told h)) (fun h => zZY h (fun h => zZX qZH.told h) (fun h => zZX zZ9.told h))))) (fun h => zZY h (fun h => zZY h (fun h => zZY h (fun h => zZY h (fun h => zZX zZc.told h) (fun h => zZX zZe.told h)) (fun h => zZY h (fun h => zZX vZh.told h) (fun h => zZX qZf.told h))) (fun h => zZY h (fun h => zZY h (fun h => zZX vZi.told h) (fun h => zZX qZX.told h)) (fun h => zZY h (fun h => zZX qZY.told h) (fun h => zZX vZe.told h)))) (fun h => zZY h (fun h => zZY h (fun h => zZY h (fun h => zZX qZq.told h) (fun h => zZX qZV.told h)) (fun h => zZY h (fun h => zZX zZU.told h) (fun h => zZX qZ0.told h))) (fun h => zZY h (fun h => zZY h (fun h => zZX qZl.told h) (fun h => zZX qZU.told h)) (fun h => zZY h (fun h => zZX zZW.told h) (fun h => zZX qZJ.told h))))))) (fun h => zZY h (fun h => zZY h (fun h => zZY h (fun h => zZY h (fun h => zZY h (fun h => zZX zZO.told h) (fun h => zZY h (fun h => zZX zZD.told h) (fun h => zZX zZz.told h))) (fun h => zZY h (fun h => zZY h (fun h => zZX zZ2.told h) (fun h => zZX zZQ.told h)) (fun h => zZY h (fun h => zZX qZG.told h) (fun h => zZX (vZr.told hG) h)))) (fun h => zZY h (fun h => zZY h (fun h => zZY h (fun h => zZX (vZp.told hG) h) (fun h => zZX (vZM.told hG) h)) (fun h => zZY h (fun h => zZX qZP.told h) (fun h => zZX qZD.told h))) (fun h => zZY h (fun h => zZY h (fun h => zZX zZZ.told h) (fun h => zZX qZC.told h)) (fun h => zZY h (fun h => zZX zZ4.told h) (fun h => zZX qZW.told h))))) (fun h => zZY h (fun h => zZY h (fun h => zZY h (fun h => zZY h (fun h => zZX zZ5.told h) (fun h => zZX qZx.told h)) (fun h => zZY h (fun h => zZX qZe.told h) (fun h => zZX qZm.told h))) (fun h => zZY h (fun h => zZY h (fun h => zZX qZB.told h) (fun h => zZX qZi.told h)) (fun h => zZY h (fun h => zZX qZg.told h) (fun h => zZX qZA.told h)))) (fun h => zZY h (fun h => zZY h (fun h => zZY h (fun h => zZX zZE.told h) (fun h => zZX zZ6.told h)) (fun h => zZY h (fun h => zZX qZt.told h) (fun h => zZX zZN.told h))) (fun h => zZY h (fun h => zZY h (fun h => zZX qZE.told h) (fun h => zZX vZg.told h)) (fun h => zZY h (fun h => zZX qZF.told h) (fun h => zZX qZZ.told h)))))) (fun h => zZY h (fun h => zZY h (fun h => zZY h (fun h => zZY h (fun h => zZY h (fun h => zZX zZj.told h) (fun h => zZX qZc.told h)) (fun h => zZY h (fun h => zZX zZv.told h) (fun h => zZX qZn.told h))) (fun h => zZY h (fun h => zZY h (fun h => zZX zZs.told h) (fun h => zZX qZN.told h)) (fun h => zZY h (fun h => zZX zZL.told h) (fun h => zZX qZu.told h)))) (fun h => zZY h (fun h => zZY h (fun h => zZY h (fun h => zZX zZx.told h) (fun h => zZX qZk.told h)) (fun h => zZY h (fun h => zZX vZl.told h) (fun h => zZX qZp.told h))) (fun h => zZY h (fun h => zZY h (fun h => zZX vZb.told h) (fun h => zZX zZ1.told h)) (fun h => zZY h (fun h => zZX qZr.told h) (fun h => zZX qZz.told h))))) (fun h => zZY h (fun h => zZY h (fun h => zZY h (fun h => zZY h (fun h => zZX zZA.told h) (fun h => zZX qZa.told h)) (fun h => zZY h (fun h => zZX qZ1.told h) (fun h => zZX vZf.told h))) (fun h => zZY h (fun h => zZY h (fun h => zZX zZl.told h) (fun h => zZX qZ9.told h)) (fun h => zZY h (fun h => zZX zZi.told h) (fun h => zZX qZy.told h)))) (fun h => zZY h (fun h => zZY h (fun h => zZY h (fun h => zZX qZ8.told h) (fun h => zZX qZ7.told h)) (fun h => zZY h (fun h => zZX zZB.told h) (fun h => zZX zZk.told h))) (fun h => zZY h (fun h => zZY h (fun h => zZX qZI.told h) (fun h => zZX zZR.told h)) (fun h => zZY h (fun h => zZX qZQ.told h) (fun h => zZX zZw.told h)))))))
end Go.Proofs.Ob
