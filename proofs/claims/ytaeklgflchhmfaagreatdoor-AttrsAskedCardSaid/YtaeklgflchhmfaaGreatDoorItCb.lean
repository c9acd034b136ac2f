/- PRINTED by cir3.py: the table tells of the program. Conditions: Laid. No conditions. -/
import Derived.Test.YtaeklgflchhmfaaGreatDoorItC
import Derived.Test.YtaeklgflchhmfaaGreatDoorChecked
import Derived.Test.YtaeklgflchhmfaaGreatDoorAqP
set_option maxHeartbeats 16000000
set_option maxRecDepth 100000
set_option linter.unusedVariables false
set_option linter.unusedSimpArgs false
set_option linter.unusedSectionVars false
namespace Go.Proofs.It
open Go Go.Ev
theorem mixed : Tryz.prog.follows .mixedOrders = true := by kernel_rfl
theorem zZf.made : cFunc Tryz.prog zZf.c.pure Tryz.f3 = some zZf.c := by kernel_rfl
theorem zZf.told {G : Glob} : Ev.Told G Tryz.prog 3 zZf.c := zZK mixed Tryz.func3 (by decide +kernel) zZf.made
theorem qZi.made : cFunc Tryz.prog qZi.c.pure Tryz.f4 = some qZi.c := by kernel_rfl
theorem qZi.told {G : Glob} : Ev.Told G Tryz.prog 4 qZi.c := zZK mixed Tryz.func4 (by decide +kernel) qZi.made
theorem qZk.made : cFunc Tryz.prog qZk.c.pure Tryz.f5 = some qZk.c := by kernel_rfl
theorem qZk.told {G : Glob} : Ev.Told G Tryz.prog 5 qZk.c := zZK mixed Tryz.func5 (by decide +kernel) qZk.made
theorem zZU.made : cFunc Tryz.prog zZU.c.pure Tryz.f6 = some zZU.c := by kernel_rfl
theorem zZU.told {G : Glob} : Ev.Told G Tryz.prog 6 zZU.c := zZK mixed Tryz.func6 (by decide +kernel) zZU.made
theorem zZX.made : cFunc Tryz.prog zZX.c.pure Tryz.f7 = some zZX.c := by kernel_rfl
theorem zZX.told {G : Glob} : Ev.Told G Tryz.prog 7 zZX.c := zZK mixed Tryz.func7 (by decide +kernel) zZX.made
theorem zZw.made : cFunc Tryz.prog zZw.c.pure Tryz.f8 = some zZw.c := by kernel_rfl
theorem zZw.told {G : Glob} : Ev.Told G Tryz.prog 8 zZw.c := zZK mixed Tryz.func8 (by decide +kernel) zZw.made
theorem zZv.made : cFunc Tryz.prog zZv.c.pure Tryz.f9 = some zZv.c := by kernel_rfl
theorem zZv.told {G : Glob} : Ev.Told G Tryz.prog 9 zZv.c := zZK mixed Tryz.func9 (by decide +kernel) zZv.made
theorem qZg.made : cFunc Tryz.prog qZg.c.pure Tryz.f10 = some qZg.c := by kernel_rfl
theorem qZg.told {G : Glob} : Ev.Told G Tryz.prog 10 qZg.c := zZK mixed Tryz.func10 (by decide +kernel) qZg.made
theorem qZl.made : cFunc Tryz.prog qZl.c.pure Tryz.f11 = some qZl.c := by kernel_rfl
theorem qZl.told {G : Glob} : Ev.Told G Tryz.prog 11 qZl.c := zZK mixed Tryz.func11 (by decide +kernel) qZl.made
theorem zZR.made : cFunc Tryz.prog zZR.c.pure Tryz.f12 = some zZR.c := by kernel_rfl
theorem zZR.told {G : Glob} : Ev.Told G Tryz.prog 12 zZR.c := zZK mixed Tryz.func12 (by decide +kernel) zZR.made
theorem qZj.made : cFunc Tryz.prog qZj.c.pure Tryz.f13 = some qZj.c := by kernel_rfl
theorem qZj.told {G : Glob} : Ev.Told G Tryz.prog 13 qZj.c := zZK mixed Tryz.func13 (by decide +kernel) qZj.made
theorem qZp.made : cFunc Tryz.prog qZp.c.pure Tryz.f14 = some qZp.c := by kernel_rfl
theorem qZp.told {G : Glob} : Ev.Told G Tryz.prog 14 qZp.c := zZK mixed Tryz.func14 (by decide +kernel) qZp.made
theorem zZJ.made : cFunc Tryz.prog zZJ.c.pure Tryz.f15 = some zZJ.c := by kernel_rfl
theorem zZJ.told {G : Glob} : Ev.Told G Tryz.prog 15 zZJ.c := zZK mixed Tryz.func15 (by decide +kernel) zZJ.made
theorem qZd.made : cFunc Tryz.prog qZd.c.pure Tryz.f16 = some qZd.c := by kernel_rfl
theorem qZd.told {G : Glob} : Ev.Told G Tryz.prog 16 qZd.c := zZK mixed Tryz.func16 (by decide +kernel) qZd.made
theorem zZA.made : cFunc Tryz.prog zZA.c.pure Tryz.f17 = some zZA.c := by kernel_rfl
theorem zZA.told {G : Glob} : Ev.Told G Tryz.prog 17 zZA.c := zZK mixed Tryz.func17 (by decide +kernel) zZA.made
theorem qZr.made : cFunc Tryz.prog qZr.c.pure Tryz.f18 = some qZr.c := by kernel_rfl
theorem qZr.told {G : Glob} : Ev.Told G Tryz.prog 18 qZr.c := zZK mixed Tryz.func18 (by decide +kernel) qZr.made
theorem qZv.made : cFunc Tryz.prog qZv.c.pure Tryz.f19 = some qZv.c := by kernel_rfl
theorem qZv.told {G : Glob} : Ev.Told G Tryz.prog 19 qZv.c := zZK mixed Tryz.func19 (by decide +kernel) qZv.made
theorem qZN.made : cFunc Tryz.prog qZN.c.pure Tryz.f20 = some qZN.c := by kernel_rfl
theorem qZN.told {G : Glob} : Ev.Told G Tryz.prog 20 qZN.c := zZK mixed Tryz.func20 (by decide +kernel) qZN.made
theorem zZL.made : cFunc Tryz.prog zZL.c.pure Tryz.f21 = some zZL.c := by kernel_rfl
theorem zZL.told {G : Glob} : Ev.Told G Tryz.prog 21 zZL.c := zZK mixed Tryz.func21 (by decide +kernel) zZL.made
theorem qZ6.made : cFunc Tryz.prog qZ6.c.pure Tryz.f22 = some qZ6.c := by kernel_rfl
theorem qZ6.told {G : Glob} : Ev.Told G Tryz.prog 22 qZ6.c := zZK mixed Tryz.func22 (by decide +kernel) qZ6.made
theorem zZM.made : cFunc Tryz.prog zZM.c.pure Tryz.f23 = some zZM.c := by kernel_rfl
theorem zZM.told {G : Glob} : Ev.Told G Tryz.prog 23 zZM.c := zZK mixed Tryz.func23 (by decide +kernel) zZM.made
theorem qZO.made : cFunc Tryz.prog qZO.c.pure Tryz.f24 = some qZO.c := by kernel_rfl
theorem qZO.told {G : Glob} : Ev.Told G Tryz.prog 24 qZO.c := zZK mixed Tryz.func24 (by decide +kernel) qZO.made
theorem qZZ.made : cFunc Tryz.prog qZZ.c.pure Tryz.f25 = some qZZ.c := by kernel_rfl
theorem qZZ.told {G : Glob} : Ev.Told G Tryz.prog 25 qZZ.c := zZK mixed Tryz.func25 (by decide +kernel) qZZ.made
theorem zZF.made : cFunc Tryz.prog zZF.c.pure Tryz.f26 = some zZF.c := by kernel_rfl
theorem zZF.told {G : Glob} : Ev.Told G Tryz.prog 26 zZF.c := zZK mixed Tryz.func26 (by decide +kernel) zZF.made
theorem zZa.made : cFunc Tryz.prog zZa.c.pure Tryz.f27 = some zZa.c := by kernel_rfl
theorem zZa.told {G : Glob} : Ev.Told G Tryz.prog 27 zZa.c := zZK mixed Tryz.func27 (by decide +kernel) zZa.made
theorem zZQ.made : cFunc Tryz.prog zZQ.c.pure Tryz.f28 = some zZQ.c := by kernel_rfl
theorem zZQ.told {G : Glob} : Ev.Told G Tryz.prog 28 zZQ.c := zZK mixed Tryz.func28 (by decide +kernel) zZQ.made
theorem zZZ.made : cFunc Tryz.prog zZZ.c.pure Tryz.f29 = some zZZ.c := by kernel_rfl
theorem zZZ.told {G : Glob} : Ev.Told G Tryz.prog 29 zZZ.c := zZK mixed Tryz.func29 (by decide +kernel) zZZ.made
theorem zZE.made : cFunc Tryz.prog zZE.c.pure Tryz.f30 = some zZE.c := by kernel_rfl
theorem zZE.told {G : Glob} : Ev.Told G Tryz.prog 30 zZE.c := zZK mixed Tryz.func30 (by decide +kernel) zZE.made
theorem qZc.made : cFunc Tryz.prog qZc.c.pure Tryz.f31 = some qZc.c := by kernel_rfl
theorem qZc.told {G : Glob} : Ev.Told G Tryz.prog 31 qZc.c := zZK mixed Tryz.func31 (by decide +kernel) qZc.made
theorem zZ6.made : cFunc Tryz.prog zZ6.c.pure Tryz.f32 = some zZ6.c := by kernel_rfl
theorem zZ6.told {G : Glob} : Ev.Told G Tryz.prog 32 zZ6.c := zZK mixed Tryz.func32 (by decide +kernel) zZ6.made
theorem zZ1.made : cFunc Tryz.prog zZ1.c.pure Tryz.f33 = some zZ1.c := by kernel_rfl
theorem zZ1.told {G : Glob} : Ev.Told G Tryz.prog 33 zZ1.c := zZK mixed Tryz.func33 (by decide +kernel) zZ1.made
theorem qZT.made : cFunc Tryz.prog qZT.c.pure Tryz.f34 = some qZT.c := by kernel_rfl
theorem qZT.told {G : Glob} : Ev.Told G Tryz.prog 34 qZT.c := zZK mixed Tryz.func34 (by decide +kernel) qZT.made
theorem qZX.made : cFunc Tryz.prog qZX.c.pure Tryz.f35 = some qZX.c := by kernel_rfl
theorem qZX.told {G : Glob} : Ev.Told G Tryz.prog 35 qZX.c := zZK mixed Tryz.func35 (by decide +kernel) qZX.made
theorem zZq.made : cFunc Tryz.prog zZq.c.pure Tryz.f36 = some zZq.c := by kernel_rfl
theorem zZq.told {G : Glob} : Ev.Told G Tryz.prog 36 zZq.c := zZK mixed Tryz.func36 (by decide +kernel) zZq.made
theorem zZx.made : cFunc Tryz.prog zZx.c.pure Tryz.f37 = some zZx.c := by kernel_rfl
theorem zZx.told {G : Glob} : Ev.Told G Tryz.prog 37 zZx.c := zZK mixed Tryz.func37 (by decide +kernel) zZx.made
theorem qZn.made : cFunc Tryz.prog qZn.c.pure Tryz.f38 = some qZn.c := by kernel_rfl
theorem qZn.told {G : Glob} : Ev.Told G Tryz.prog 38 qZn.c := zZK mixed Tryz.func38 (by decide +kernel) qZn.made
theorem qZB.made : cFunc Tryz.prog qZB.c.pure Tryz.f39 = some qZB.c := by kernel_rfl
theorem qZB.told {G : Glob} : Ev.Told G Tryz.prog 39 qZB.c := zZK mixed Tryz.func39 (by decide +kernel) qZB.made
theorem zZC.made : cFunc Tryz.prog zZC.c.pure Tryz.f40 = some zZC.c := by kernel_rfl
theorem zZC.told {G : Glob} : Ev.Told G Tryz.prog 40 zZC.c := zZK mixed Tryz.func40 (by decide +kernel) zZC.made
theorem qZ7.made : cFunc Tryz.prog qZ7.c.pure Tryz.f41 = some qZ7.c := by kernel_rfl
theorem qZ7.told {G : Glob} : Ev.Told G Tryz.prog 41 qZ7.c := zZK mixed Tryz.func41 (by decide +kernel) qZ7.made
theorem zZ8.made : cFunc Tryz.prog zZ8.c.pure Tryz.f42 = some zZ8.c := by kernel_rfl
theorem zZ8.told {G : Glob} : Ev.Told G Tryz.prog 42 zZ8.c := zZK mixed Tryz.func42 (by decide +kernel) zZ8.made
theorem zZh.made : cFunc Tryz.prog zZh.c.pure Tryz.f43 = some zZh.c := by kernel_rfl
theorem zZh.told {G : Glob} : Ev.Told G Tryz.prog 43 zZh.c := zZK mixed Tryz.func43 (by decide +kernel) zZh.made
theorem zZp.made : cFunc Tryz.prog zZp.c.pure Tryz.f44 = some zZp.c := by kernel_rfl
theorem zZp.told {G : Glob} : Ev.Told G Tryz.prog 44 zZp.c := zZK mixed Tryz.func44 (by decide +kernel) zZp.made
theorem zZo.made : cFunc Tryz.prog zZo.c.pure Tryz.f45 = some zZo.c := by kernel_rfl
theorem zZo.told {G : Glob} : Ev.Told G Tryz.prog 45 zZo.c := zZK mixed Tryz.func45 (by decide +kernel) zZo.made
theorem zZy.made : cFunc Tryz.prog zZy.c.pure Tryz.f46 = some zZy.c := by kernel_rfl
theorem zZy.told {G : Glob} : Ev.Told G Tryz.prog 46 zZy.c := zZK mixed Tryz.func46 (by decide +kernel) zZy.made
theorem qZx.made : cFunc Tryz.prog qZx.c.pure Tryz.f47 = some qZx.c := by kernel_rfl
theorem qZx.told {G : Glob} : Ev.Told G Tryz.prog 47 qZx.c := zZK mixed Tryz.func47 (by decide +kernel) qZx.made
theorem qZ0.made : cFunc Tryz.prog qZ0.c.pure Tryz.f48 = some qZ0.c := by kernel_rfl
theorem qZ0.told {G : Glob} : Ev.Told G Tryz.prog 48 qZ0.c := zZK mixed Tryz.func48 (by decide +kernel) qZ0.made
theorem qZ8.made : cFunc Tryz.prog qZ8.c.pure Tryz.f49 = some qZ8.c := by kernel_rfl
theorem qZ8.told {G : Glob} : Ev.Told G Tryz.prog 49 qZ8.c := zZK mixed Tryz.func49 (by decide +kernel) qZ8.made
theorem vZ2.made : cFunc Tryz.prog vZ2.c.pure Tryz.f50 = some vZ2.c := by kernel_rfl
theorem vZ2.told {G : Glob} : Ev.Told G Tryz.prog 50 vZ2.c := zZK mixed Tryz.func50 (by decide +kernel) vZ2.made
theorem zZ5.made : cFunc Tryz.prog zZ5.c.pure Tryz.f51 = some zZ5.c := by kernel_rfl
theorem zZ5.told {G : Glob} : Ev.Told G Tryz.prog 51 zZ5.c := zZK mixed Tryz.func51 (by decide +kernel) zZ5.made
theorem zZW.made : cFunc Tryz.prog zZW.c.pure Tryz.f52 = some zZW.c := by kernel_rfl
theorem zZW.told {G : Glob} : Ev.Told G Tryz.prog 52 zZW.c := zZK mixed Tryz.func52 (by decide +kernel) zZW.made
theorem qZh.made : cFunc Tryz.prog qZh.c.pure Tryz.f53 = some qZh.c := by kernel_rfl
theorem qZh.told {G : Glob} : Ev.Told G Tryz.prog 53 qZh.c := zZK mixed Tryz.func53 (by decide +kernel) qZh.made
theorem zZd.made : cFunc Tryz.prog zZd.c.pure Tryz.f54 = some zZd.c := by kernel_rfl
theorem zZd.told {G : Glob} : Ev.Told G Tryz.prog 54 zZd.c := zZK mixed Tryz.func54 (by decide +kernel) zZd.made
theorem zZB.made : cFunc Tryz.prog zZB.c.pure Tryz.f55 = some zZB.c := by kernel_rfl
theorem zZB.told {G : Glob} : Ev.Told G Tryz.prog 55 zZB.c := zZK mixed Tryz.func55 (by decide +kernel) zZB.made
theorem zZj.made : cFunc Tryz.prog zZj.c.pure Tryz.f56 = some zZj.c := by kernel_rfl
theorem zZj.told {G : Glob} : Ev.Told G Tryz.prog 56 zZj.c := zZK mixed Tryz.func56 (by decide +kernel) zZj.made
theorem zZG.made : cFunc Tryz.prog zZG.c.pure Tryz.f57 = some zZG.c := by kernel_rfl
theorem zZG.told {G : Glob} : Ev.Told G Tryz.prog 57 zZG.c := zZK mixed Tryz.func57 (by decide +kernel) zZG.made
theorem qZb.made : cFunc Tryz.prog qZb.c.pure Tryz.f58 = some qZb.c := by kernel_rfl
theorem qZb.told {G : Glob} : Ev.Told G Tryz.prog 58 qZb.c := zZK mixed Tryz.func58 (by decide +kernel) qZb.made
theorem zZH.made : cFunc Tryz.prog zZH.c.pure Tryz.f59 = some zZH.c := by kernel_rfl
theorem zZH.told {G : Glob} : Ev.Told G Tryz.prog 59 zZH.c := zZK mixed Tryz.func59 (by decide +kernel) zZH.made
theorem qZz.made : cFunc Tryz.prog qZz.c.pure Tryz.f60 = some qZz.c := by kernel_rfl
theorem qZz.told {G : Glob} : Ev.Told G Tryz.prog 60 qZz.c := zZK mixed Tryz.func60 (by decide +kernel) qZz.made
theorem zZu.made : cFunc Tryz.prog zZu.c.pure Tryz.f61 = some zZu.c := by kernel_rfl
theorem zZu.told {G : Glob} : Ev.Told G Tryz.prog 61 zZu.c := zZK mixed Tryz.func61 (by decide +kernel) zZu.made
theorem zZg.made : cFunc Tryz.prog zZg.c.pure Tryz.f62 = some zZg.c := by kernel_rfl
theorem zZg.told {G : Glob} : Ev.Told G Tryz.prog 62 zZg.c := zZK mixed Tryz.func62 (by decide +kernel) zZg.made
theorem zZk.made : cFunc Tryz.prog zZk.c.pure Tryz.f63 = some zZk.c := by kernel_rfl
theorem zZk.told {G : Glob} : Ev.Told G Tryz.prog 63 zZk.c := zZK mixed Tryz.func63 (by decide +kernel) zZk.made
theorem zZO.made : cFunc Tryz.prog zZO.c.pure Tryz.f64 = some zZO.c := by kernel_rfl
theorem zZO.told {G : Glob} : Ev.Told G Tryz.prog 64 zZO.c := zZK mixed Tryz.func64 (by decide +kernel) zZO.made
theorem zZb.made : cFunc Tryz.prog zZb.c.pure Tryz.f65 = some zZb.c := by kernel_rfl
theorem zZb.told {G : Glob} : Ev.Told G Tryz.prog 65 zZb.c := zZK mixed Tryz.func65 (by decide +kernel) zZb.made
theorem qZ1.made : cFunc Tryz.prog qZ1.c.pure Tryz.f66 = some qZ1.c := by kernel_rfl
theorem qZ1.told {G : Glob} : Ev.Told G Tryz.prog 66 qZ1.c := zZK mixed Tryz.func66 (by decide +kernel) qZ1.made
theorem vZc.made : cFunc Tryz.prog vZc.c.pure Tryz.f67 = some vZc.c := by kernel_rfl
theorem vZc.told {G : Glob} : Ev.Told G Tryz.prog 67 vZc.c := zZK mixed Tryz.func67 (by decide +kernel) vZc.made
theorem qZF.made : cFunc Tryz.prog qZF.c.pure Tryz.f68 = some qZF.c := by kernel_rfl
theorem qZF.told {G : Glob} : Ev.Told G Tryz.prog 68 qZF.c := zZK mixed Tryz.func68 (by decide +kernel) qZF.made
theorem qZV.made : cFunc Tryz.prog qZV.c.pure Tryz.f69 = some qZV.c := by kernel_rfl
theorem qZV.told {G : Glob} : Ev.Told G Tryz.prog 69 qZV.c := zZK mixed Tryz.func69 (by decide +kernel) qZV.made
theorem qZm.made : cFunc Tryz.prog qZm.c.pure Tryz.f70 = some qZm.c := by kernel_rfl
theorem qZm.told {G : Glob} : Ev.Told G Tryz.prog 70 qZm.c := zZK mixed Tryz.func70 (by decide +kernel) qZm.made
theorem zZ7.made : cFunc Tryz.prog zZ7.c.pure Tryz.f71 = some zZ7.c := by kernel_rfl
theorem zZ7.told {G : Glob} : Ev.Told G Tryz.prog 71 zZ7.c := zZK mixed Tryz.func71 (by decide +kernel) zZ7.made
theorem qZC.made : cFunc Tryz.prog qZC.c.pure Tryz.f72 = some qZC.c := by kernel_rfl
theorem qZC.told {G : Glob} : Ev.Told G Tryz.prog 72 qZC.c := zZK mixed Tryz.func72 (by decide +kernel) qZC.made
theorem zZc.made : cFunc Tryz.prog zZc.c.pure Tryz.f73 = some zZc.c := by kernel_rfl
theorem zZc.told {G : Glob} : Ev.Told G Tryz.prog 73 zZc.c := zZK mixed Tryz.func73 (by decide +kernel) zZc.made
theorem qZE.made : cFunc Tryz.prog qZE.c.pure Tryz.f74 = some qZE.c := by kernel_rfl
theorem qZE.told {G : Glob} : Ev.Told G Tryz.prog 74 qZE.c := zZK mixed Tryz.func74 (by decide +kernel) qZE.made
theorem zZt.made : cFunc Tryz.prog zZt.c.pure Tryz.f75 = some zZt.c := by kernel_rfl
theorem zZt.told {G : Glob} : Ev.Told G Tryz.prog 75 zZt.c := zZK mixed Tryz.func75 (by decide +kernel) zZt.made
theorem zZ9.made : cFunc Tryz.prog zZ9.c.pure Tryz.f76 = some zZ9.c := by kernel_rfl
theorem zZ9.told {G : Glob} : Ev.Told G Tryz.prog 76 zZ9.c := zZK mixed Tryz.func76 (by decide +kernel) zZ9.made
theorem qZt.made : cFunc Tryz.prog qZt.c.pure Tryz.f77 = some qZt.c := by kernel_rfl
theorem qZt.told {G : Glob} : Ev.Told G Tryz.prog 77 qZt.c := zZK mixed Tryz.func77 (by decide +kernel) qZt.made
theorem qZu.made : cFunc Tryz.prog qZu.c.pure Tryz.f78 = some qZu.c := by kernel_rfl
theorem qZu.told {G : Glob} : Ev.Told G Tryz.prog 78 qZu.c := zZK mixed Tryz.func78 (by decide +kernel) qZu.made
theorem qZa.made : cFunc Tryz.prog qZa.c.pure Tryz.f79 = some qZa.c := by kernel_rfl
theorem qZa.told {G : Glob} : Ev.Told G Tryz.prog 79 qZa.c := zZK mixed Tryz.func79 (by decide +kernel) qZa.made
theorem zZI.made : cFunc Tryz.prog zZI.c.pure Tryz.f80 = some zZI.c := by kernel_rfl
theorem zZI.told {G : Glob} : Ev.Told G Tryz.prog 80 zZI.c := zZK mixed Tryz.func80 (by decide +kernel) zZI.made
theorem qZq.made : cFunc Tryz.prog qZq.c.pure Tryz.f81 = some qZq.c := by kernel_rfl
theorem qZq.told {G : Glob} : Ev.Told G Tryz.prog 81 qZq.c := zZK mixed Tryz.func81 (by decide +kernel) qZq.made
theorem zZe.made : cFunc Tryz.prog zZe.c.pure Tryz.f82 = some zZe.c := by kernel_rfl
theorem zZe.told {G : Glob} : Ev.Told G Tryz.prog 82 zZe.c := zZK mixed Tryz.func82 (by decide +kernel) zZe.made
theorem qZs.made : cFunc Tryz.prog qZs.c.pure Tryz.f83 = some qZs.c := by kernel_rfl
theorem qZs.told {G : Glob} : Ev.Told G Tryz.prog 83 qZs.c := zZK mixed Tryz.func83 (by decide +kernel) qZs.made
theorem zZz.made : cFunc Tryz.prog zZz.c.pure Tryz.f84 = some zZz.c := by kernel_rfl
theorem zZz.told {G : Glob} : Ev.Told G Tryz.prog 84 zZz.c := zZK mixed Tryz.func84 (by decide +kernel) zZz.made
theorem zZs.made : cFunc Tryz.prog zZs.c.pure Tryz.f85 = some zZs.c := by kernel_rfl
theorem zZs.told {G : Glob} : Ev.Told G Tryz.prog 85 zZs.c := zZK mixed Tryz.func85 (by decide +kernel) zZs.made
theorem qZM.made : cFunc Tryz.prog qZM.c.pure Tryz.f86 = some qZM.c := by kernel_rfl
theorem qZM.told {G : Glob} : Ev.Told G Tryz.prog 86 qZM.c := zZK mixed Tryz.func86 (by decide +kernel) qZM.made
theorem qZJ.made : cFunc Tryz.prog qZJ.c.pure Tryz.f87 = some qZJ.c := by kernel_rfl
theorem qZJ.told {G : Glob} : Ev.Told G Tryz.prog 87 qZJ.c := zZK mixed Tryz.func87 (by decide +kernel) qZJ.made
theorem zZV.made : cFunc Tryz.prog zZV.c.pure Tryz.f88 = some zZV.c := by kernel_rfl
theorem zZV.told {G : Glob} : Ev.Told G Tryz.prog 88 zZV.c := zZK mixed Tryz.func88 (by decide +kernel) zZV.made
theorem qZI.made : cFunc Tryz.prog qZI.c.pure Tryz.f89 = some qZI.c := by kernel_rfl
theorem qZI.told {G : Glob} : Ev.Told G Tryz.prog 89 qZI.c := zZK mixed Tryz.func89 (by decide +kernel) qZI.made
theorem zZi.made : cFunc Tryz.prog zZi.c.pure Tryz.f90 = some zZi.c := by kernel_rfl
theorem zZi.told {G : Glob} : Ev.Told G Tryz.prog 90 zZi.c := zZK mixed Tryz.func90 (by decide +kernel) zZi.made
theorem qZK.made : cFunc Tryz.prog qZK.c.pure Tryz.f91 = some qZK.c := by kernel_rfl
theorem qZK.told {G : Glob} : Ev.Told G Tryz.prog 91 qZK.c := zZK mixed Tryz.func91 (by decide +kernel) qZK.made
theorem zZP.made : cFunc Tryz.prog zZP.c.pure Tryz.f92 = some zZP.c := by kernel_rfl
theorem zZP.told {G : Glob} : Ev.Told G Tryz.prog 92 zZP.c := zZK mixed Tryz.func92 (by decide +kernel) zZP.made
theorem zZS.made : cFunc Tryz.prog zZS.c.pure Tryz.f93 = some zZS.c := by kernel_rfl
theorem zZS.told {G : Glob} : Ev.Told G Tryz.prog 93 zZS.c := zZK mixed Tryz.func93 (by decide +kernel) zZS.made
theorem qZG.made : cFunc Tryz.prog qZG.c.pure Tryz.f94 = some qZG.c := by kernel_rfl
theorem qZG.told {G : Glob} : Ev.Told G Tryz.prog 94 qZG.c := zZK mixed Tryz.func94 (by decide +kernel) qZG.made
theorem qZL.made : cFunc Tryz.prog qZL.c.pure Tryz.f99 = some qZL.c := by kernel_rfl
theorem qZL.told {G : Glob} : Ev.Told G Tryz.prog 99 qZL.c := zZK mixed Tryz.func99 (by decide +kernel) qZL.made
theorem qZA.made : cFunc Tryz.prog qZA.c.pure Tryz.f107 = some qZA.c := by kernel_rfl
theorem qZA.told {G : Glob} : Ev.Told G Tryz.prog 107 qZA.c := zZK mixed Tryz.func107 (by decide +kernel) qZA.made
theorem zZD.made : cFunc Tryz.prog zZD.c.pure Tryz.f108 = some zZD.c := by kernel_rfl
theorem zZD.told {G : Glob} : Ev.Told G Tryz.prog 108 zZD.c := zZK mixed Tryz.func108 (by decide +kernel) zZD.made
theorem zZT.made : cFunc Tryz.prog zZT.c.pure Tryz.f109 = some zZT.c := by kernel_rfl
theorem zZT.told {G : Glob} : Ev.Told G Tryz.prog 109 zZT.c := zZK mixed Tryz.func109 (by decide +kernel) zZT.made
theorem zZm.made : cFunc Tryz.prog zZm.c.pure Tryz.f116 = some zZm.c := by kernel_rfl
theorem zZm.told {G : Glob} : Ev.Told G Tryz.prog 116 zZm.c := zZK mixed Tryz.func116 (by decide +kernel) zZm.made
theorem zZ3.made : cFunc Tryz.prog zZ3.c.pure Tryz.f117 = some zZ3.c := by kernel_rfl
theorem zZ3.told {G : Glob} : Ev.Told G Tryz.prog 117 zZ3.c := zZK mixed Tryz.func117 (by decide +kernel) zZ3.made
theorem zZr.made : cFunc Tryz.prog zZr.c.pure Tryz.f118 = some zZr.c := by kernel_rfl
theorem zZr.told {G : Glob} : Ev.Told G Tryz.prog 118 zZr.c := zZK mixed Tryz.func118 (by decide +kernel) zZr.made
theorem qZf.made : cFunc Tryz.prog qZf.c.pure Tryz.f119 = some qZf.c := by kernel_rfl
theorem qZf.told {G : Glob} : Ev.Told G Tryz.prog 119 qZf.c := zZK mixed Tryz.func119 (by decide +kernel) qZf.made
theorem qZe.made : cFunc Tryz.prog qZe.c.pure Tryz.f120 = some qZe.c := by kernel_rfl
theorem qZe.told {G : Glob} : Ev.Told G Tryz.prog 120 qZe.c := zZK mixed Tryz.func120 (by decide +kernel) qZe.made
theorem qZy.made : cFunc Tryz.prog qZy.c.pure Tryz.f123 = some qZy.c := by kernel_rfl
theorem qZy.told {G : Glob} : Ev.Told G Tryz.prog 123 qZy.c := zZK mixed Tryz.func123 (by decide +kernel) qZy.made
theorem vZb.told {G : Glob} (hG : Laid G) : Ev.Told G Tryz.prog 128 (primClone 1 2) := ⟨Tryz.f128, _, Tryz.func128, by decide +kernel, rfl, clone_units hG⟩
theorem qZY.made : cFunc Tryz.prog qZY.c.pure Tryz.f129 = some qZY.c := by kernel_rfl
theorem qZY.told {G : Glob} : Ev.Told G Tryz.prog 129 qZY.c := zZK mixed Tryz.func129 (by decide +kernel) qZY.made
theorem zZn.made : cFunc Tryz.prog zZn.c.pure Tryz.f130 = some zZn.c := by kernel_rfl
theorem zZn.told {G : Glob} : Ev.Told G Tryz.prog 130 zZn.c := zZK mixed Tryz.func130 (by decide +kernel) zZn.made
theorem zZl.made : cFunc Tryz.prog zZl.c.pure Tryz.f132 = some zZl.c := by kernel_rfl
theorem zZl.told {G : Glob} : Ev.Told G Tryz.prog 132 zZl.c := zZK mixed Tryz.func132 (by decide +kernel) zZl.made
theorem qZw.made : cFunc Tryz.prog qZw.c.pure Tryz.f133 = some qZw.c := by kernel_rfl
theorem qZw.told {G : Glob} : Ev.Told G Tryz.prog 133 qZw.c := zZK mixed Tryz.func133 (by decide +kernel) qZw.made
theorem qZ9.told {G : Glob} (hG : Laid G) : Ev.Told G Tryz.prog 134 (primClone 4 64) := ⟨Tryz.f134, _, Tryz.func134, by decide +kernel, rfl, clone_attrs hG⟩
theorem vZA.told {G : Glob} (hG : Laid G) : Ev.Told G Tryz.prog 135 (primClone 1 8) := ⟨Tryz.f135, _, Tryz.func135, by decide +kernel, rfl, clone_ints hG⟩
theorem qZD.made : cFunc Tryz.prog qZD.c.pure Tryz.f142 = some qZD.c := by kernel_rfl
theorem qZD.told {G : Glob} : Ev.Told G Tryz.prog 142 qZD.c := zZK mixed Tryz.func142 (by decide +kernel) qZD.made
theorem zZY {G : Glob} {f k : Nat} {c cf : Cf} (hr : Ev.Told G Tryz.prog k c) (h : (if f = k then some c else none) = some cf) : Ev.Told G Tryz.prog f cf := by
 split at h
 ·rename_i e; subst e; cases h; exact hr
 ·cases h
theorem zZ0 {G : Glob} {f m : Nat} {a b : Option Cf} {cf : Cf} (h : (if f < m then a else b) = some cf) (ha : a = some cf → Ev.Told G Tryz.prog f cf) (hb : b = some cf → Ev.Told G Tryz.prog f cf) : Ev.Told G Tryz.prog f cf := by
 split at h
 ·exact ha h
 ·exact hb h
theorem tells {G : Glob} (hG : Laid G) : Tells G Tryz.prog Φ := fun f cf h => zZ0 h (fun h => zZ0 h (fun h => zZ0 h (fun h => zZ0 h (fun h => zZ0 h (fun h => zZ0 h (fun h => zZY zZf.told h) (fun h => zZ0 h (fun h => zZY qZi.told h) (fun h => zZY qZk.told h))) (fun h => zZ0 h (fun h => zZY zZU.told h) (fun h => zZ0 h (fun h => zZY zZX.told h) (fun h => zZY zZw.told h)))) (fun h => zZ0 h (fun h => zZ0 h (fun h => zZY zZv.told h) (fun h => zZ0 h (fun h => zZY qZg.told h) (fun h => zZY qZl.told h))) (fun h => zZ0 h (fun h => zZ0 h (fun h => zZY zZR.told h) (fun h => zZY qZj.told h)) (fun h => zZ0 h (fun h => zZY qZp.told h) (fun h => zZY zZJ.told h))))) (fun h => zZ0 h (fun h => zZ0 h (fun h => zZ0 h (fun h => zZY qZd.told h) (fun h => zZ0 h (fun h => zZY zZA.told h) (fun h => zZY qZr.told h))) (fun h => zZ0 h (fun h => zZ0 h (fun h => zZY qZv.told h) (fun h => zZY qZN.told h)) (fun h => zZ0 h (fun h => zZY zZL.told h) (fun h => zZY qZ6.told h)))) (fun h => zZ0 h (fun h => zZ0 h (fun h => zZY zZM.told h) (fun h => zZ0 h (fun h => zZY qZO.told h) (fun h => zZY qZZ.told h))) (fun h => zZ0 h (fun h => zZ0 h (fun h => zZY zZF.told h) (fun h => zZY zZa.told h)) (fun h => zZ0 h (fun h => zZY zZQ.told h) (fun h => zZY zZZ.told h)))))) (fun h => zZ0 h (fun h => zZ0 h (fun h => zZ0 h (fun h => zZ0 h (fun h => zZY zZE.told h) (fun h => zZ0 h (fun h => zZY qZc.told h) (fun h => zZY zZ6.told h))) (fun h => zZ0 h (fun h => zZ0 h (fun h => zZY zZ1.told h) (fun h => zZY qZT.told h)) (fun h => zZ0 h (fun h => zZY qZX.told h) (fun h => zZY zZq.told h)))) (fun h => zZ0 h (fun h => zZ0 h (fun h => zZY zZx.told h) (fun h => zZ0 h (fun h => zZY qZn.told h) (fun h => zZY qZB.told h))) (fun h => zZ0 h (fun h => zZ0 h (fun h => zZY zZC.told h) (fun h => zZY qZ7.told h)) (fun h => zZ0 h (fun h => zZY zZ8.told h) (fun h => zZY zZh.told h))))) (fun h => zZ0 h (fun h => zZ0 h (fun h => zZ0 h (fun h => zZY zZp.told h) (fun h => zZ0 h (fun h => zZY zZo.told h) (fun h => zZY zZy.told h))) (fun h => zZ0 h (fun h => zZ0 h (fun h => zZY qZx.told h) (fun h => zZY qZ0.told h)) (fun h => zZ0 h (fun h => zZY qZ8.told h) (fun h => zZY vZ2.told h)))) (fun h => zZ0 h (fun h => zZ0 h (fun h => zZY zZ5.told h) (fun h => zZ0 h (fun h => zZY zZW.told h) (fun h => zZY qZh.told h))) (fun h => zZ0 h (fun h => zZ0 h (fun h => zZY zZd.told h) (fun h => zZY zZB.told h)) (fun h => zZ0 h (fun h => zZY zZj.told h) (fun h => zZY zZG.told h))))))) (fun h => zZ0 h (fun h => zZ0 h (fun h => zZ0 h (fun h => zZ0 h (fun h => zZ0 h (fun h => zZY qZb.told h) (fun h => zZ0 h (fun h => zZY zZH.told h) (fun h => zZY qZz.told h))) (fun h => zZ0 h (fun h => zZY zZu.told h) (fun h => zZ0 h (fun h => zZY zZg.told h) (fun h => zZY zZk.told h)))) (fun h => zZ0 h (fun h => zZ0 h (fun h => zZY zZO.told h) (fun h => zZ0 h (fun h => zZY zZb.told h) (fun h => zZY qZ1.told h))) (fun h => zZ0 h (fun h => zZ0 h (fun h => zZY vZc.told h) (fun h => zZY qZF.told h)) (fun h => zZ0 h (fun h => zZY qZV.told h) (fun h => zZY qZm.told h))))) (fun h => zZ0 h (fun h => zZ0 h (fun h => zZ0 h (fun h => zZY zZ7.told h) (fun h => zZ0 h (fun h => zZY qZC.told h) (fun h => zZY zZc.told h))) (fun h => zZ0 h (fun h => zZ0 h (fun h => zZY qZE.told h) (fun h => zZY zZt.told h)) (fun h => zZ0 h (fun h => zZY zZ9.told h) (fun h => zZY qZt.told h)))) (fun h => zZ0 h (fun h => zZ0 h (fun h => zZY qZu.told h) (fun h => zZ0 h (fun h => zZY qZa.told h) (fun h => zZY zZI.told h))) (fun h => zZ0 h (fun h => zZ0 h (fun h => zZY qZq.told h) (fun h => zZY zZe.told h)) (fun h => zZ0 h (fun h => zZY qZs.told h) (fun h => zZY zZz.told h)))))) (fun h => zZ0 h (fun h => zZ0 h (fun h => zZ0 h (fun h => zZ0 h (fun h => zZY zZs.told h) (fun h => zZ0 h (fun h => zZY qZM.told h) (fun h => zZY qZJ.told h))) (fun h => zZ0 h (fun h => zZ0 h (fun h => zZY zZV.told h) (fun h => zZY qZI.told h)) (fun h => zZ0 h (fun h => zZY zZi.told h) (fun h => zZY qZK.told h)))) (fun h => zZ0 h (fun h => zZ0 h (fun h => zZY zZP.told h) (fun h => zZ0 h (fun h => zZY zZS.told h) (fun h => zZY qZG.told h))) (fun h => zZ0 h (fun h => zZ0 h (fun h => zZY qZL.told h) (fun h => zZY qZA.told h)) (fun h => zZ0 h (fun h => zZY zZD.told h) (fun h => zZY zZT.told h))))) (fun h => zZ0 h (fun h => zZ0 h (fun h => zZ0 h (fun h => zZY zZm.told h) (fun h => zZ0 h (fun h => zZY zZ3.told h) (fun h => zZY zZr.told h))) (fun h => zZ0 h (fun h => zZ0 h (fun h => zZY qZf.told h) (fun h => zZY qZe.told h)) (fun h => zZ0 h (fun h => zZY qZy.told h) (fun h => zZY (vZb.told hG) h)))) (fun h => zZ0 h (fun h => zZ0 h (fun h => zZY qZY.told h) (fun h => zZ0 h (fun h => zZY zZn.told h) (fun h => zZY zZl.told h))) (fun h => zZ0 h (fun h => zZ0 h (fun h => zZY qZw.told h) (fun h => zZY (qZ9.told hG) h)) (fun h => zZ0 h (fun h => zZY (vZA.told hG) h) (fun h => zZY qZD.told h)))))))
end Go.Proofs.It
