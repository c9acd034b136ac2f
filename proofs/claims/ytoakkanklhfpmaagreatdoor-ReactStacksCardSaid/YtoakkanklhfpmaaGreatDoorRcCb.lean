/- PRINTED by cir3.py: the table tells of the program. Conditions: Laid. No conditions. -/
import Derived.Test.YtoakkanklhfpmaaGreatDoorRcC
import Derived.Test.YtoakkanklhfpmaaGreatDoorRcP
set_option maxHeartbeats 16000000
set_option maxRecDepth 100000
set_option linter.unusedVariables false
set_option linter.unusedSimpArgs false
set_option linter.unusedSectionVars false
namespace Go.Proofs.Rc
open Go Go.Ev
theorem mixed : Tryz.prog.follows .mixedOrders = true := by kernel_rfl
theorem zZU.made : cFunc Tryz.prog zZU.c.pure Tryz.f3 = some zZU.c := by kernel_rfl
theorem zZU.told {G : Glob} : Ev.Told G Tryz.prog 3 zZU.c := zZD mixed Tryz.func3 (by decide +kernel) zZU.made
theorem zZd.made : cFunc Tryz.prog zZd.c.pure Tryz.f4 = some zZd.c := by kernel_rfl
theorem zZd.told {G : Glob} : Ev.Told G Tryz.prog 4 zZd.c := zZD mixed Tryz.func4 (by decide +kernel) zZd.made
theorem zZh.made : cFunc Tryz.prog zZh.c.pure Tryz.f5 = some zZh.c := by kernel_rfl
theorem zZh.told {G : Glob} : Ev.Told G Tryz.prog 5 zZh.c := zZD mixed Tryz.func5 (by decide +kernel) zZh.made
theorem zZ8.made : cFunc Tryz.prog zZ8.c.pure Tryz.f6 = some zZ8.c := by kernel_rfl
theorem zZ8.told {G : Glob} : Ev.Told G Tryz.prog 6 zZ8.c := zZD mixed Tryz.func6 (by decide +kernel) zZ8.made
theorem qZT.made : cFunc Tryz.prog qZT.c.pure Tryz.f7 = some qZT.c := by kernel_rfl
theorem qZT.told {G : Glob} : Ev.Told G Tryz.prog 7 qZT.c := zZD mixed Tryz.func7 (by decide +kernel) qZT.made
theorem qZU.made : cFunc Tryz.prog qZU.c.pure Tryz.f8 = some qZU.c := by kernel_rfl
theorem qZU.told {G : Glob} : Ev.Told G Tryz.prog 8 qZU.c := zZD mixed Tryz.func8 (by decide +kernel) qZU.made
theorem zZY.made : cFunc Tryz.prog zZY.c.pure Tryz.f9 = some zZY.c := by kernel_rfl
theorem zZY.told {G : Glob} : Ev.Told G Tryz.prog 9 zZY.c := zZD mixed Tryz.func9 (by decide +kernel) zZY.made
theorem qZW.made : cFunc Tryz.prog qZW.c.pure Tryz.f10 = some qZW.c := by kernel_rfl
theorem qZW.told {G : Glob} : Ev.Told G Tryz.prog 10 qZW.c := zZD mixed Tryz.func10 (by decide +kernel) qZW.made
theorem zZO.made : cFunc Tryz.prog zZO.c.pure Tryz.f11 = some zZO.c := by kernel_rfl
theorem zZO.told {G : Glob} : Ev.Told G Tryz.prog 11 zZO.c := zZD mixed Tryz.func11 (by decide +kernel) zZO.made
theorem zZJ.made : cFunc Tryz.prog zZJ.c.pure Tryz.f12 = some zZJ.c := by kernel_rfl
theorem zZJ.told {G : Glob} : Ev.Told G Tryz.prog 12 zZJ.c := zZD mixed Tryz.func12 (by decide +kernel) zZJ.made
theorem zZe.made : cFunc Tryz.prog zZe.c.pure Tryz.f13 = some zZe.c := by kernel_rfl
theorem zZe.told {G : Glob} : Ev.Told G Tryz.prog 13 zZe.c := zZD mixed Tryz.func13 (by decide +kernel) zZe.made
theorem zZC.made : cFunc Tryz.prog zZC.c.pure Tryz.f14 = some zZC.c := by kernel_rfl
theorem zZC.told {G : Glob} : Ev.Told G Tryz.prog 14 zZC.c := zZD mixed Tryz.func14 (by decide +kernel) zZC.made
theorem qZg.made : cFunc Tryz.prog qZg.c.pure Tryz.f15 = some qZg.c := by kernel_rfl
theorem qZg.told {G : Glob} : Ev.Told G Tryz.prog 15 qZg.c := zZD mixed Tryz.func15 (by decide +kernel) qZg.made
theorem zZ9.made : cFunc Tryz.prog zZ9.c.pure Tryz.f16 = some zZ9.c := by kernel_rfl
theorem zZ9.told {G : Glob} : Ev.Told G Tryz.prog 16 zZ9.c := zZD mixed Tryz.func16 (by decide +kernel) zZ9.made
theorem zZW.made : cFunc Tryz.prog zZW.c.pure Tryz.f17 = some zZW.c := by kernel_rfl
theorem zZW.told {G : Glob} : Ev.Told G Tryz.prog 17 zZW.c := zZD mixed Tryz.func17 (by decide +kernel) zZW.made
theorem zZB.made : cFunc Tryz.prog zZB.c.pure Tryz.f18 = some zZB.c := by kernel_rfl
theorem zZB.told {G : Glob} : Ev.Told G Tryz.prog 18 zZB.c := zZD mixed Tryz.func18 (by decide +kernel) zZB.made
theorem zZP.made : cFunc Tryz.prog zZP.c.pure Tryz.f19 = some zZP.c := by kernel_rfl
theorem zZP.told {G : Glob} : Ev.Told G Tryz.prog 19 zZP.c := zZD mixed Tryz.func19 (by decide +kernel) zZP.made
theorem zZz.made : cFunc Tryz.prog zZz.c.pure Tryz.f20 = some zZz.c := by kernel_rfl
theorem zZz.told {G : Glob} : Ev.Told G Tryz.prog 20 zZz.c := zZD mixed Tryz.func20 (by decide +kernel) zZz.made
theorem zZK.made : cFunc Tryz.prog zZK.c.pure Tryz.f21 = some zZK.c := by kernel_rfl
theorem zZK.told {G : Glob} : Ev.Told G Tryz.prog 21 zZK.c := zZD mixed Tryz.func21 (by decide +kernel) zZK.made
theorem zZ3.made : cFunc Tryz.prog zZ3.c.pure Tryz.f22 = some zZ3.c := by kernel_rfl
theorem zZ3.told {G : Glob} : Ev.Told G Tryz.prog 22 zZ3.c := zZD mixed Tryz.func22 (by decide +kernel) zZ3.made
theorem qZk.made : cFunc Tryz.prog qZk.c.pure Tryz.f23 = some qZk.c := by kernel_rfl
theorem qZk.told {G : Glob} : Ev.Told G Tryz.prog 23 qZk.c := zZD mixed Tryz.func23 (by decide +kernel) qZk.made
theorem zZw.made : cFunc Tryz.prog zZw.c.pure Tryz.f24 = some zZw.c := by kernel_rfl
theorem zZw.told {G : Glob} : Ev.Told G Tryz.prog 24 zZw.c := zZD mixed Tryz.func24 (by decide +kernel) zZw.made
theorem qZV.made : cFunc Tryz.prog qZV.c.pure Tryz.f25 = some qZV.c := by kernel_rfl
theorem qZV.told {G : Glob} : Ev.Told G Tryz.prog 25 qZV.c := zZD mixed Tryz.func25 (by decide +kernel) qZV.made
theorem vZA.made : cFunc Tryz.prog vZA.c.pure Tryz.f26 = some vZA.c := by kernel_rfl
theorem vZA.told {G : Glob} : Ev.Told G Tryz.prog 26 vZA.c := zZD mixed Tryz.func26 (by decide +kernel) vZA.made
theorem qZi.made : cFunc Tryz.prog qZi.c.pure Tryz.f27 = some qZi.c := by kernel_rfl
theorem qZi.told {G : Glob} : Ev.Told G Tryz.prog 27 qZi.c := zZD mixed Tryz.func27 (by decide +kernel) qZi.made
theorem zZu.made : cFunc Tryz.prog zZu.c.pure Tryz.f28 = some zZu.c := by kernel_rfl
theorem zZu.told {G : Glob} : Ev.Told G Tryz.prog 28 zZu.c := zZD mixed Tryz.func28 (by decide +kernel) zZu.made
theorem vZO.told {G : Glob} (hG : Laid G) : Ev.Told G Tryz.prog 29 (primClone 1 8) := ⟨Tryz.f29, _, Tryz.func29, by decide +kernel, rfl, clone_ints hG⟩
theorem qZO.told {G : Glob} (hG : Laid G) : Ev.Told G Tryz.prog 30 (primClone 12 128) := ⟨Tryz.f30, _, Tryz.func30, by decide +kernel, rfl, clone_rx hG⟩
theorem zZF.made : cFunc Tryz.prog zZF.c.pure Tryz.f31 = some zZF.c := by kernel_rfl
theorem zZF.told {G : Glob} : Ev.Told G Tryz.prog 31 zZF.c := zZD mixed Tryz.func31 (by decide +kernel) zZF.made
theorem zZZ.made : cFunc Tryz.prog zZZ.c.pure Tryz.f32 = some zZZ.c := by kernel_rfl
theorem zZZ.told {G : Glob} : Ev.Told G Tryz.prog 32 zZZ.c := zZD mixed Tryz.func32 (by decide +kernel) zZZ.made
theorem qZq.made : cFunc Tryz.prog qZq.c.pure Tryz.f33 = some qZq.c := by kernel_rfl
theorem qZq.told {G : Glob} : Ev.Told G Tryz.prog 33 qZq.c := zZD mixed Tryz.func33 (by decide +kernel) qZq.made
theorem qZv.made : cFunc Tryz.prog qZv.c.pure Tryz.f34 = some qZv.c := by kernel_rfl
theorem qZv.told {G : Glob} : Ev.Told G Tryz.prog 34 qZv.c := zZD mixed Tryz.func34 (by decide +kernel) qZv.made
theorem qZy.made : cFunc Tryz.prog qZy.c.pure Tryz.f35 = some qZy.c := by kernel_rfl
theorem qZy.told {G : Glob} : Ev.Told G Tryz.prog 35 qZy.c := zZD mixed Tryz.func35 (by decide +kernel) qZy.made
theorem qZh.made : cFunc Tryz.prog qZh.c.pure Tryz.f36 = some qZh.c := by kernel_rfl
theorem qZh.told {G : Glob} : Ev.Told G Tryz.prog 36 qZh.c := zZD mixed Tryz.func36 (by decide +kernel) qZh.made
theorem zZp.made : cFunc Tryz.prog zZp.c.pure Tryz.f37 = some zZp.c := by kernel_rfl
theorem zZp.told {G : Glob} : Ev.Told G Tryz.prog 37 zZp.c := zZD mixed Tryz.func37 (by decide +kernel) zZp.made
theorem qZ0.made : cFunc Tryz.prog qZ0.c.pure Tryz.f38 = some qZ0.c := by kernel_rfl
theorem qZ0.told {G : Glob} : Ev.Told G Tryz.prog 38 qZ0.c := zZD mixed Tryz.func38 (by decide +kernel) qZ0.made
theorem zZ5.made : cFunc Tryz.prog zZ5.c.pure Tryz.f39 = some zZ5.c := by kernel_rfl
theorem zZ5.told {G : Glob} : Ev.Told G Tryz.prog 39 zZ5.c := zZD mixed Tryz.func39 (by decide +kernel) zZ5.made
theorem qZX.made : cFunc Tryz.prog qZX.c.pure Tryz.f40 = some qZX.c := by kernel_rfl
theorem qZX.told {G : Glob} : Ev.Told G Tryz.prog 40 qZX.c := zZD mixed Tryz.func40 (by decide +kernel) qZX.made
theorem zZf.made : cFunc Tryz.prog zZf.c.pure Tryz.f41 = some zZf.c := by kernel_rfl
theorem zZf.told {G : Glob} : Ev.Told G Tryz.prog 41 zZf.c := zZD mixed Tryz.func41 (by decide +kernel) zZf.made
theorem zZi.made : cFunc Tryz.prog zZi.c.pure Tryz.f42 = some zZi.c := by kernel_rfl
theorem zZi.told {G : Glob} : Ev.Told G Tryz.prog 42 zZi.c := zZD mixed Tryz.func42 (by decide +kernel) zZi.made
theorem zZ1.made : cFunc Tryz.prog zZ1.c.pure Tryz.f43 = some zZ1.c := by kernel_rfl
theorem zZ1.told {G : Glob} : Ev.Told G Tryz.prog 43 zZ1.c := zZD mixed Tryz.func43 (by decide +kernel) zZ1.made
theorem zZM.made : cFunc Tryz.prog zZM.c.pure Tryz.f44 = some zZM.c := by kernel_rfl
theorem zZM.told {G : Glob} : Ev.Told G Tryz.prog 44 zZM.c := zZD mixed Tryz.func44 (by decide +kernel) zZM.made
theorem qZC.made : cFunc Tryz.prog qZC.c.pure Tryz.f45 = some qZC.c := by kernel_rfl
theorem qZC.told {G : Glob} : Ev.Told G Tryz.prog 45 qZC.c := zZD mixed Tryz.func45 (by decide +kernel) qZC.made
theorem qZZ.made : cFunc Tryz.prog qZZ.c.pure Tryz.f46 = some qZZ.c := by kernel_rfl
theorem qZZ.told {G : Glob} : Ev.Told G Tryz.prog 46 qZZ.c := zZD mixed Tryz.func46 (by decide +kernel) qZZ.made
theorem qZd.made : cFunc Tryz.prog qZd.c.pure Tryz.f47 = some qZd.c := by kernel_rfl
theorem qZd.told {G : Glob} : Ev.Told G Tryz.prog 47 qZd.c := zZD mixed Tryz.func47 (by decide +kernel) qZd.made
theorem vZb.made : cFunc Tryz.prog vZb.c.pure Tryz.f48 = some vZb.c := by kernel_rfl
theorem vZb.told {G : Glob} : Ev.Told G Tryz.prog 48 vZb.c := zZD mixed Tryz.func48 (by decide +kernel) vZb.made
theorem qZa.made : cFunc Tryz.prog qZa.c.pure Tryz.f49 = some qZa.c := by kernel_rfl
theorem qZa.told {G : Glob} : Ev.Told G Tryz.prog 49 qZa.c := zZD mixed Tryz.func49 (by decide +kernel) qZa.made
theorem qZc.made : cFunc Tryz.prog qZc.c.pure Tryz.f50 = some qZc.c := by kernel_rfl
theorem qZc.told {G : Glob} : Ev.Told G Tryz.prog 50 qZc.c := zZD mixed Tryz.func50 (by decide +kernel) qZc.made
theorem qZS.made : cFunc Tryz.prog qZS.c.pure Tryz.f51 = some qZS.c := by kernel_rfl
theorem qZS.told {G : Glob} : Ev.Told G Tryz.prog 51 qZS.c := zZD mixed Tryz.func51 (by decide +kernel) qZS.made
theorem vZd.made : cFunc Tryz.prog vZd.c.pure Tryz.f52 = some vZd.c := by kernel_rfl
theorem vZd.told {G : Glob} : Ev.Told G Tryz.prog 52 vZd.c := zZD mixed Tryz.func52 (by decide +kernel) vZd.made
theorem zZI.made : cFunc Tryz.prog zZI.c.pure Tryz.f53 = some zZI.c := by kernel_rfl
theorem zZI.told {G : Glob} : Ev.Told G Tryz.prog 53 zZI.c := zZD mixed Tryz.func53 (by decide +kernel) zZI.made
theorem zZV.made : cFunc Tryz.prog zZV.c.pure Tryz.f54 = some zZV.c := by kernel_rfl
theorem zZV.told {G : Glob} : Ev.Told G Tryz.prog 54 zZV.c := zZD mixed Tryz.func54 (by decide +kernel) zZV.made
theorem vZ5.made : cFunc Tryz.prog vZ5.c.pure Tryz.f55 = some vZ5.c := by kernel_rfl
theorem vZ5.told {G : Glob} : Ev.Told G Tryz.prog 55 vZ5.c := zZD mixed Tryz.func55 (by decide +kernel) vZ5.made
theorem zZa.made : cFunc Tryz.prog zZa.c.pure Tryz.f56 = some zZa.c := by kernel_rfl
theorem zZa.told {G : Glob} : Ev.Told G Tryz.prog 56 zZa.c := zZD mixed Tryz.func56 (by decide +kernel) zZa.made
theorem qZp.made : cFunc Tryz.prog qZp.c.pure Tryz.f57 = some qZp.c := by kernel_rfl
theorem qZp.told {G : Glob} : Ev.Told G Tryz.prog 57 qZp.c := zZD mixed Tryz.func57 (by decide +kernel) qZp.made
theorem vZI.made : cFunc Tryz.prog vZI.c.pure Tryz.f58 = some vZI.c := by kernel_rfl
theorem vZI.told {G : Glob} : Ev.Told G Tryz.prog 58 vZI.c := zZD mixed Tryz.func58 (by decide +kernel) vZI.made
theorem qZj.made : cFunc Tryz.prog qZj.c.pure Tryz.f59 = some qZj.c := by kernel_rfl
theorem qZj.told {G : Glob} : Ev.Told G Tryz.prog 59 qZj.c := zZD mixed Tryz.func59 (by decide +kernel) qZj.made
theorem vZJ.made : cFunc Tryz.prog vZJ.c.pure Tryz.f60 = some vZJ.c := by kernel_rfl
theorem vZJ.told {G : Glob} : Ev.Told G Tryz.prog 60 vZJ.c := zZD mixed Tryz.func60 (by decide +kernel) vZJ.made
theorem vZk.made : cFunc Tryz.prog vZk.c.pure Tryz.f61 = some vZk.c := by kernel_rfl
theorem vZk.told {G : Glob} : Ev.Told G Tryz.prog 61 vZk.c := zZD mixed Tryz.func61 (by decide +kernel) vZk.made
theorem vZl.made : cFunc Tryz.prog vZl.c.pure Tryz.f62 = some vZl.c := by kernel_rfl
theorem vZl.told {G : Glob} : Ev.Told G Tryz.prog 62 vZl.c := zZD mixed Tryz.func62 (by decide +kernel) vZl.made
theorem vZD.made : cFunc Tryz.prog vZD.c.pure Tryz.f63 = some vZD.c := by kernel_rfl
theorem vZD.told {G : Glob} : Ev.Told G Tryz.prog 63 vZD.c := zZD mixed Tryz.func63 (by decide +kernel) vZD.made
theorem qZw.made : cFunc Tryz.prog qZw.c.pure Tryz.f64 = some qZw.c := by kernel_rfl
theorem qZw.told {G : Glob} : Ev.Told G Tryz.prog 64 qZw.c := zZD mixed Tryz.func64 (by decide +kernel) qZw.made
theorem vZe.made : cFunc Tryz.prog vZe.c.pure Tryz.f65 = some vZe.c := by kernel_rfl
theorem vZe.told {G : Glob} : Ev.Told G Tryz.prog 65 vZe.c := zZD mixed Tryz.func65 (by decide +kernel) vZe.made
theorem zZ2.made : cFunc Tryz.prog zZ2.c.pure Tryz.f66 = some zZ2.c := by kernel_rfl
theorem zZ2.told {G : Glob} : Ev.Told G Tryz.prog 66 zZ2.c := zZD mixed Tryz.func66 (by decide +kernel) zZ2.made
theorem vZn.made : cFunc Tryz.prog vZn.c.pure Tryz.f67 = some vZn.c := by kernel_rfl
theorem vZn.told {G : Glob} : Ev.Told G Tryz.prog 67 vZn.c := zZD mixed Tryz.func67 (by decide +kernel) vZn.made
theorem zZt.made : cFunc Tryz.prog zZt.c.pure Tryz.f68 = some zZt.c := by kernel_rfl
theorem zZt.told {G : Glob} : Ev.Told G Tryz.prog 68 zZt.c := zZD mixed Tryz.func68 (by decide +kernel) zZt.made
theorem zZH.made : cFunc Tryz.prog zZH.c.pure Tryz.f69 = some zZH.c := by kernel_rfl
theorem zZH.told {G : Glob} : Ev.Told G Tryz.prog 69 zZH.c := zZD mixed Tryz.func69 (by decide +kernel) zZH.made
theorem zZA.made : cFunc Tryz.prog zZA.c.pure Tryz.f70 = some zZA.c := by kernel_rfl
theorem zZA.told {G : Glob} : Ev.Told G Tryz.prog 70 zZA.c := zZD mixed Tryz.func70 (by decide +kernel) zZA.made
theorem zZ7.made : cFunc Tryz.prog zZ7.c.pure Tryz.f71 = some zZ7.c := by kernel_rfl
theorem zZ7.told {G : Glob} : Ev.Told G Tryz.prog 71 zZ7.c := zZD mixed Tryz.func71 (by decide +kernel) zZ7.made
theorem zZX.made : cFunc Tryz.prog zZX.c.pure Tryz.f72 = some zZX.c := by kernel_rfl
theorem zZX.told {G : Glob} : Ev.Told G Tryz.prog 72 zZX.c := zZD mixed Tryz.func72 (by decide +kernel) zZX.made
theorem qZs.made : cFunc Tryz.prog qZs.c.pure Tryz.f73 = some qZs.c := by kernel_rfl
theorem qZs.told {G : Glob} : Ev.Told G Tryz.prog 73 qZs.c := zZD mixed Tryz.func73 (by decide +kernel) qZs.made
theorem vZc.made : cFunc Tryz.prog vZc.c.pure Tryz.f74 = some vZc.c := by kernel_rfl
theorem vZc.told {G : Glob} : Ev.Told G Tryz.prog 74 vZc.c := zZD mixed Tryz.func74 (by decide +kernel) vZc.made
theorem zZ4.made : cFunc Tryz.prog zZ4.c.pure Tryz.f75 = some zZ4.c := by kernel_rfl
theorem zZ4.told {G : Glob} : Ev.Told G Tryz.prog 75 zZ4.c := zZD mixed Tryz.func75 (by decide +kernel) zZ4.made
theorem qZB.made : cFunc Tryz.prog qZB.c.pure Tryz.f76 = some qZB.c := by kernel_rfl
theorem qZB.told {G : Glob} : Ev.Told G Tryz.prog 76 qZB.c := zZD mixed Tryz.func76 (by decide +kernel) qZB.made
theorem qZm.made : cFunc Tryz.prog qZm.c.pure Tryz.f77 = some qZm.c := by kernel_rfl
theorem qZm.told {G : Glob} : Ev.Told G Tryz.prog 77 qZm.c := zZD mixed Tryz.func77 (by decide +kernel) qZm.made
theorem vZo.made : cFunc Tryz.prog vZo.c.pure Tryz.f78 = some vZo.c := by kernel_rfl
theorem vZo.told {G : Glob} : Ev.Told G Tryz.prog 78 vZo.c := zZD mixed Tryz.func78 (by decide +kernel) vZo.made
theorem vZN.made : cFunc Tryz.prog vZN.c.pure Tryz.f79 = some vZN.c := by kernel_rfl
theorem vZN.told {G : Glob} : Ev.Told G Tryz.prog 79 vZN.c := zZD mixed Tryz.func79 (by decide +kernel) vZN.made
theorem zZo.made : cFunc Tryz.prog zZo.c.pure Tryz.f80 = some zZo.c := by kernel_rfl
theorem zZo.told {G : Glob} : Ev.Told G Tryz.prog 80 zZo.c := zZD mixed Tryz.func80 (by decide +kernel) zZo.made
theorem qZ7.made : cFunc Tryz.prog qZ7.c.pure Tryz.f81 = some qZ7.c := by kernel_rfl
theorem qZ7.told {G : Glob} : Ev.Told G Tryz.prog 81 qZ7.c := zZD mixed Tryz.func81 (by decide +kernel) qZ7.made
theorem vZF.made : cFunc Tryz.prog vZF.c.pure Tryz.f82 = some vZF.c := by kernel_rfl
theorem vZF.told {G : Glob} : Ev.Told G Tryz.prog 82 vZF.c := zZD mixed Tryz.func82 (by decide +kernel) vZF.made
theorem qZM.made : cFunc Tryz.prog qZM.c.pure Tryz.f83 = some qZM.c := by kernel_rfl
theorem qZM.told {G : Glob} : Ev.Told G Tryz.prog 83 qZM.c := zZD mixed Tryz.func83 (by decide +kernel) qZM.made
theorem qZ6.made : cFunc Tryz.prog qZ6.c.pure Tryz.f84 = some qZ6.c := by kernel_rfl
theorem qZ6.told {G : Glob} : Ev.Told G Tryz.prog 84 qZ6.c := zZD mixed Tryz.func84 (by decide +kernel) qZ6.made
theorem zZT.made : cFunc Tryz.prog zZT.c.pure Tryz.f85 = some zZT.c := by kernel_rfl
theorem zZT.told {G : Glob} : Ev.Told G Tryz.prog 85 zZT.c := zZD mixed Tryz.func85 (by decide +kernel) zZT.made
theorem zZr.made : cFunc Tryz.prog zZr.c.pure Tryz.f86 = some zZr.c := by kernel_rfl
theorem zZr.told {G : Glob} : Ev.Told G Tryz.prog 86 zZr.c := zZD mixed Tryz.func86 (by decide +kernel) zZr.made
theorem qZN.made : cFunc Tryz.prog qZN.c.pure Tryz.f88 = some qZN.c := by kernel_rfl
theorem qZN.told {G : Glob} : Ev.Told G Tryz.prog 88 qZN.c := zZD mixed Tryz.func88 (by decide +kernel) qZN.made
theorem vZt.made : cFunc Tryz.prog vZt.c.pure Tryz.f89 = some vZt.c := by kernel_rfl
theorem vZt.told {G : Glob} : Ev.Told G Tryz.prog 89 vZt.c := zZD mixed Tryz.func89 (by decide +kernel) vZt.made
theorem vZs.made : cFunc Tryz.prog vZs.c.pure Tryz.f90 = some vZs.c := by kernel_rfl
theorem vZs.told {G : Glob} : Ev.Told G Tryz.prog 90 vZs.c := zZD mixed Tryz.func90 (by decide +kernel) vZs.made
theorem qZH.made : cFunc Tryz.prog qZH.c.pure Tryz.f91 = some qZH.c := by kernel_rfl
theorem qZH.told {G : Glob} : Ev.Told G Tryz.prog 91 qZH.c := zZD mixed Tryz.func91 (by decide +kernel) qZH.made
theorem qZl.made : cFunc Tryz.prog qZl.c.pure Tryz.f92 = some qZl.c := by kernel_rfl
theorem qZl.told {G : Glob} : Ev.Told G Tryz.prog 92 qZl.c := zZD mixed Tryz.func92 (by decide +kernel) qZl.made
theorem qZP.made : cFunc Tryz.prog qZP.c.pure Tryz.f93 = some qZP.c := by kernel_rfl
theorem qZP.told {G : Glob} : Ev.Told G Tryz.prog 93 qZP.c := zZD mixed Tryz.func93 (by decide +kernel) qZP.made
theorem vZg.made : cFunc Tryz.prog vZg.c.pure Tryz.f94 = some vZg.c := by kernel_rfl
theorem vZg.told {G : Glob} : Ev.Told G Tryz.prog 94 vZg.c := zZD mixed Tryz.func94 (by decide +kernel) vZg.made
theorem vZv.made : cFunc Tryz.prog vZv.c.pure Tryz.f95 = some vZv.c := by kernel_rfl
theorem vZv.told {G : Glob} : Ev.Told G Tryz.prog 95 vZv.c := zZD mixed Tryz.func95 (by decide +kernel) vZv.made
theorem qZ1.made : cFunc Tryz.prog qZ1.c.pure Tryz.f96 = some qZ1.c := by kernel_rfl
theorem qZ1.told {G : Glob} : Ev.Told G Tryz.prog 96 qZ1.c := zZD mixed Tryz.func96 (by decide +kernel) qZ1.made
theorem zZQ.made : cFunc Tryz.prog zZQ.c.pure Tryz.f97 = some zZQ.c := by kernel_rfl
theorem zZQ.told {G : Glob} : Ev.Told G Tryz.prog 97 zZQ.c := zZD mixed Tryz.func97 (by decide +kernel) zZQ.made
theorem qZA.made : cFunc Tryz.prog qZA.c.pure Tryz.f98 = some qZA.c := by kernel_rfl
theorem qZA.told {G : Glob} : Ev.Told G Tryz.prog 98 qZA.c := zZD mixed Tryz.func98 (by decide +kernel) qZA.made
theorem zZy.made : cFunc Tryz.prog zZy.c.pure Tryz.f99 = some zZy.c := by kernel_rfl
theorem zZy.told {G : Glob} : Ev.Told G Tryz.prog 99 zZy.c := zZD mixed Tryz.func99 (by decide +kernel) zZy.made
theorem qZr.made : cFunc Tryz.prog qZr.c.pure Tryz.f100 = some qZr.c := by kernel_rfl
theorem qZr.told {G : Glob} : Ev.Told G Tryz.prog 100 qZr.c := zZD mixed Tryz.func100 (by decide +kernel) qZr.made
theorem vZM.made : cFunc Tryz.prog vZM.c.pure Tryz.f101 = some vZM.c := by kernel_rfl
theorem vZM.told {G : Glob} : Ev.Told G Tryz.prog 101 vZM.c := zZD mixed Tryz.func101 (by decide +kernel) vZM.made
theorem qZu.made : cFunc Tryz.prog qZu.c.pure Tryz.f102 = some qZu.c := by kernel_rfl
theorem qZu.told {G : Glob} : Ev.Told G Tryz.prog 102 qZu.c := zZD mixed Tryz.func102 (by decide +kernel) qZu.made
theorem vZz.made : cFunc Tryz.prog vZz.c.pure Tryz.f103 = some vZz.c := by kernel_rfl
theorem vZz.told {G : Glob} : Ev.Told G Tryz.prog 103 vZz.c := zZD mixed Tryz.func103 (by decide +kernel) vZz.made
theorem zZ6.made : cFunc Tryz.prog zZ6.c.pure Tryz.f104 = some zZ6.c := by kernel_rfl
theorem zZ6.told {G : Glob} : Ev.Told G Tryz.prog 104 zZ6.c := zZD mixed Tryz.func104 (by decide +kernel) zZ6.made
theorem vZS.told {G : Glob} (hG : Laid G) : Ev.Told G Tryz.prog 105 (primClone 1 2) := ⟨Tryz.f105, _, Tryz.func105, by decide +kernel, rfl, clone_units hG⟩
theorem vZQ.told {G : Glob} (hG : Laid G) : Ev.Told G Tryz.prog 106 (primClone 4 64) := ⟨Tryz.f106, _, Tryz.func106, by decide +kernel, rfl, clone_attrs hG⟩
theorem qZ3.made : cFunc Tryz.prog qZ3.c.pure Tryz.f107 = some qZ3.c := by kernel_rfl
theorem qZ3.told {G : Glob} : Ev.Told G Tryz.prog 107 qZ3.c := zZD mixed Tryz.func107 (by decide +kernel) qZ3.made
theorem qZK.made : cFunc Tryz.prog qZK.c.pure Tryz.f110 = some qZK.c := by kernel_rfl
theorem qZK.told {G : Glob} : Ev.Told G Tryz.prog 110 qZK.c := zZD mixed Tryz.func110 (by decide +kernel) qZK.made
theorem qZb.made : cFunc Tryz.prog qZb.c.pure Tryz.f111 = some qZb.c := by kernel_rfl
theorem qZb.told {G : Glob} : Ev.Told G Tryz.prog 111 qZb.c := zZD mixed Tryz.func111 (by decide +kernel) qZb.made
theorem vZh.made : cFunc Tryz.prog vZh.c.pure Tryz.f112 = some vZh.c := by kernel_rfl
theorem vZh.told {G : Glob} : Ev.Told G Tryz.prog 112 vZh.c := zZD mixed Tryz.func112 (by decide +kernel) vZh.made
theorem zZn.made : cFunc Tryz.prog zZn.c.pure Tryz.f129 = some zZn.c := by kernel_rfl
theorem zZn.told {G : Glob} : Ev.Told G Tryz.prog 129 zZn.c := zZD mixed Tryz.func129 (by decide +kernel) zZn.made
theorem qZf.made : cFunc Tryz.prog qZf.c.pure Tryz.f130 = some qZf.c := by kernel_rfl
theorem qZf.told {G : Glob} : Ev.Told G Tryz.prog 130 qZf.c := zZD mixed Tryz.func130 (by decide +kernel) qZf.made
theorem zZv.made : cFunc Tryz.prog zZv.c.pure Tryz.f131 = some zZv.c := by kernel_rfl
theorem zZv.told {G : Glob} : Ev.Told G Tryz.prog 131 zZv.c := zZD mixed Tryz.func131 (by decide +kernel) zZv.made
theorem qZt.made : cFunc Tryz.prog qZt.c.pure Tryz.f132 = some qZt.c := by kernel_rfl
theorem qZt.told {G : Glob} : Ev.Told G Tryz.prog 132 qZt.c := zZD mixed Tryz.func132 (by decide +kernel) qZt.made
theorem vZj.made : cFunc Tryz.prog vZj.c.pure Tryz.f133 = some vZj.c := by kernel_rfl
theorem vZj.told {G : Glob} : Ev.Told G Tryz.prog 133 vZj.c := zZD mixed Tryz.func133 (by decide +kernel) vZj.made
theorem qZJ.made : cFunc Tryz.prog qZJ.c.pure Tryz.f134 = some qZJ.c := by kernel_rfl
theorem qZJ.told {G : Glob} : Ev.Told G Tryz.prog 134 qZJ.c := zZD mixed Tryz.func134 (by decide +kernel) qZJ.made
theorem vZy.made : cFunc Tryz.prog vZy.c.pure Tryz.f135 = some vZy.c := by kernel_rfl
theorem vZy.told {G : Glob} : Ev.Told G Tryz.prog 135 vZy.c := zZD mixed Tryz.func135 (by decide +kernel) vZy.made
theorem qZn.made : cFunc Tryz.prog qZn.c.pure Tryz.f136 = some qZn.c := by kernel_rfl
theorem qZn.told {G : Glob} : Ev.Told G Tryz.prog 136 qZn.c := zZD mixed Tryz.func136 (by decide +kernel) qZn.made
theorem vZG.made : cFunc Tryz.prog vZG.c.pure Tryz.f137 = some vZG.c := by kernel_rfl
theorem vZG.told {G : Glob} : Ev.Told G Tryz.prog 137 vZG.c := zZD mixed Tryz.func137 (by decide +kernel) vZG.made
theorem qZY.made : cFunc Tryz.prog qZY.c.pure Tryz.f138 = some qZY.c := by kernel_rfl
theorem qZY.told {G : Glob} : Ev.Told G Tryz.prog 138 qZY.c := zZD mixed Tryz.func138 (by decide +kernel) qZY.made
theorem zZs.made : cFunc Tryz.prog zZs.c.pure Tryz.f139 = some zZs.c := by kernel_rfl
theorem zZs.told {G : Glob} : Ev.Told G Tryz.prog 139 zZs.c := zZD mixed Tryz.func139 (by decide +kernel) zZs.made
theorem qZQ.made : cFunc Tryz.prog qZQ.c.pure Tryz.f141 = some qZQ.c := by kernel_rfl
theorem qZQ.told {G : Glob} : Ev.Told G Tryz.prog 141 qZQ.c := zZD mixed Tryz.func141 (by decide +kernel) qZQ.made
theorem qZE.made : cFunc Tryz.prog qZE.c.pure Tryz.f142 = some qZE.c := by kernel_rfl
theorem qZE.told {G : Glob} : Ev.Told G Tryz.prog 142 qZE.c := zZD mixed Tryz.func142 (by decide +kernel) qZE.made
theorem zZL.made : cFunc Tryz.prog zZL.c.pure Tryz.f143 = some zZL.c := by kernel_rfl
theorem zZL.told {G : Glob} : Ev.Told G Tryz.prog 143 zZL.c := zZD mixed Tryz.func143 (by decide +kernel) zZL.made
theorem zZj.made : cFunc Tryz.prog zZj.c.pure Tryz.f144 = some zZj.c := by kernel_rfl
theorem zZj.told {G : Glob} : Ev.Told G Tryz.prog 144 zZj.c := zZD mixed Tryz.func144 (by decide +kernel) zZj.made
theorem qZR.made : cFunc Tryz.prog qZR.c.pure Tryz.f145 = some qZR.c := by kernel_rfl
theorem qZR.told {G : Glob} : Ev.Told G Tryz.prog 145 qZR.c := zZD mixed Tryz.func145 (by decide +kernel) qZR.made
theorem vZx.made : cFunc Tryz.prog vZx.c.pure Tryz.f146 = some vZx.c := by kernel_rfl
theorem vZx.told {G : Glob} : Ev.Told G Tryz.prog 146 vZx.c := zZD mixed Tryz.func146 (by decide +kernel) vZx.made
theorem vZw.made : cFunc Tryz.prog vZw.c.pure Tryz.f147 = some vZw.c := by kernel_rfl
theorem vZw.told {G : Glob} : Ev.Told G Tryz.prog 147 vZw.c := zZD mixed Tryz.func147 (by decide +kernel) vZw.made
theorem zZE.made : cFunc Tryz.prog zZE.c.pure Tryz.f148 = some zZE.c := by kernel_rfl
theorem zZE.told {G : Glob} : Ev.Told G Tryz.prog 148 zZE.c := zZD mixed Tryz.func148 (by decide +kernel) zZE.made
theorem qZx.made : cFunc Tryz.prog qZx.c.pure Tryz.f149 = some qZx.c := by kernel_rfl
theorem qZx.told {G : Glob} : Ev.Told G Tryz.prog 149 qZx.c := zZD mixed Tryz.func149 (by decide +kernel) qZx.made
theorem zZk.made : cFunc Tryz.prog zZk.c.pure Tryz.f150 = some zZk.c := by kernel_rfl
theorem zZk.told {G : Glob} : Ev.Told G Tryz.prog 150 zZk.c := zZD mixed Tryz.func150 (by decide +kernel) zZk.made
theorem qZI.made : cFunc Tryz.prog qZI.c.pure Tryz.f151 = some qZI.c := by kernel_rfl
theorem qZI.told {G : Glob} : Ev.Told G Tryz.prog 151 qZI.c := zZD mixed Tryz.func151 (by decide +kernel) qZI.made
theorem zZm.made : cFunc Tryz.prog zZm.c.pure Tryz.f159 = some zZm.c := by kernel_rfl
theorem zZm.told {G : Glob} : Ev.Told G Tryz.prog 159 zZm.c := zZD mixed Tryz.func159 (by decide +kernel) zZm.made
theorem qZF.made : cFunc Tryz.prog qZF.c.pure Tryz.f160 = some qZF.c := by kernel_rfl
theorem qZF.told {G : Glob} : Ev.Told G Tryz.prog 160 qZF.c := zZD mixed Tryz.func160 (by decide +kernel) qZF.made
theorem qZz.made : cFunc Tryz.prog qZz.c.pure Tryz.f161 = some qZz.c := by kernel_rfl
theorem qZz.told {G : Glob} : Ev.Told G Tryz.prog 161 qZz.c := zZD mixed Tryz.func161 (by decide +kernel) qZz.made
theorem qZ9.made : cFunc Tryz.prog qZ9.c.pure Tryz.f162 = some qZ9.c := by kernel_rfl
theorem qZ9.told {G : Glob} : Ev.Told G Tryz.prog 162 qZ9.c := zZD mixed Tryz.func162 (by decide +kernel) qZ9.made
theorem vZu.made : cFunc Tryz.prog vZu.c.pure Tryz.f163 = some vZu.c := by kernel_rfl
theorem vZu.told {G : Glob} : Ev.Told G Tryz.prog 163 vZu.c := zZD mixed Tryz.func163 (by decide +kernel) vZu.made
theorem vZX.told {G : Glob} (hG : Laid G) : Ev.Told G Tryz.prog 164 (primClone 1 16) := ⟨Tryz.f164, _, Tryz.func164, by decide +kernel, rfl, clone_strs hG⟩
theorem qZ4.made : cFunc Tryz.prog qZ4.c.pure Tryz.f167 = some qZ4.c := by kernel_rfl
theorem qZ4.told {G : Glob} : Ev.Told G Tryz.prog 167 qZ4.c := zZD mixed Tryz.func167 (by decide +kernel) qZ4.made
theorem qZ5.made : cFunc Tryz.prog qZ5.c.pure Tryz.f168 = some qZ5.c := by kernel_rfl
theorem qZ5.told {G : Glob} : Ev.Told G Tryz.prog 168 qZ5.c := zZD mixed Tryz.func168 (by decide +kernel) qZ5.made
theorem vZH.made : cFunc Tryz.prog vZH.c.pure Tryz.f169 = some vZH.c := by kernel_rfl
theorem vZH.told {G : Glob} : Ev.Told G Tryz.prog 169 vZH.c := zZD mixed Tryz.func169 (by decide +kernel) vZH.made
theorem vZT.made : cFunc Tryz.prog vZT.c.pure Tryz.f170 = some vZT.c := by kernel_rfl
theorem vZT.told {G : Glob} : Ev.Told G Tryz.prog 170 vZT.c := zZD mixed Tryz.func170 (by decide +kernel) vZT.made
theorem qZG.made : cFunc Tryz.prog qZG.c.pure Tryz.f171 = some qZG.c := by kernel_rfl
theorem qZG.told {G : Glob} : Ev.Told G Tryz.prog 171 qZG.c := zZD mixed Tryz.func171 (by decide +kernel) qZG.made
theorem qZL.made : cFunc Tryz.prog qZL.c.pure Tryz.f172 = some qZL.c := by kernel_rfl
theorem qZL.told {G : Glob} : Ev.Told G Tryz.prog 172 qZL.c := zZD mixed Tryz.func172 (by decide +kernel) qZL.made
theorem zZq.made : cFunc Tryz.prog zZq.c.pure Tryz.f173 = some zZq.c := by kernel_rfl
theorem zZq.told {G : Glob} : Ev.Told G Tryz.prog 173 zZq.c := zZD mixed Tryz.func173 (by decide +kernel) zZq.made
theorem zZg.made : cFunc Tryz.prog zZg.c.pure Tryz.f183 = some zZg.c := by kernel_rfl
theorem zZg.told {G : Glob} : Ev.Told G Tryz.prog 183 zZg.c := zZD mixed Tryz.func183 (by decide +kernel) zZg.made
theorem qZ2.made : cFunc Tryz.prog qZ2.c.pure Tryz.f184 = some qZ2.c := by kernel_rfl
theorem qZ2.told {G : Glob} : Ev.Told G Tryz.prog 184 qZ2.c := zZD mixed Tryz.func184 (by decide +kernel) qZ2.made
theorem zZN.made : cFunc Tryz.prog zZN.c.pure Tryz.f185 = some zZN.c := by kernel_rfl
theorem zZN.told {G : Glob} : Ev.Told G Tryz.prog 185 zZN.c := zZD mixed Tryz.func185 (by decide +kernel) zZN.made
theorem zZx.made : cFunc Tryz.prog zZx.c.pure Tryz.f186 = some zZx.c := by kernel_rfl
theorem zZx.told {G : Glob} : Ev.Told G Tryz.prog 186 zZx.c := zZD mixed Tryz.func186 (by decide +kernel) zZx.made
theorem vZi.made : cFunc Tryz.prog vZi.c.pure Tryz.f187 = some vZi.c := by kernel_rfl
theorem vZi.told {G : Glob} : Ev.Told G Tryz.prog 187 vZi.c := zZD mixed Tryz.func187 (by decide +kernel) vZi.made
theorem zZc.made : cFunc Tryz.prog zZc.c.pure Tryz.f188 = some zZc.c := by kernel_rfl
theorem zZc.told {G : Glob} : Ev.Told G Tryz.prog 188 zZc.c := zZD mixed Tryz.func188 (by decide +kernel) zZc.made
theorem vZm.made : cFunc Tryz.prog vZm.c.pure Tryz.f189 = some vZm.c := by kernel_rfl
theorem vZm.told {G : Glob} : Ev.Told G Tryz.prog 189 vZm.c := zZD mixed Tryz.func189 (by decide +kernel) vZm.made
theorem vZf.made : cFunc Tryz.prog vZf.c.pure Tryz.f192 = some vZf.c := by kernel_rfl
theorem vZf.told {G : Glob} : Ev.Told G Tryz.prog 192 vZf.c := zZD mixed Tryz.func192 (by decide +kernel) vZf.made
theorem zZl.made : cFunc Tryz.prog zZl.c.pure Tryz.f193 = some zZl.c := by kernel_rfl
theorem zZl.told {G : Glob} : Ev.Told G Tryz.prog 193 zZl.c := zZD mixed Tryz.func193 (by decide +kernel) zZl.made
theorem zZG.made : cFunc Tryz.prog zZG.c.pure Tryz.f194 = some zZG.c := by kernel_rfl
theorem zZG.told {G : Glob} : Ev.Told G Tryz.prog 194 zZG.c := zZD mixed Tryz.func194 (by decide +kernel) zZG.made
theorem zZb.made : cFunc Tryz.prog zZb.c.pure Tryz.f195 = some zZb.c := by kernel_rfl
theorem zZb.told {G : Glob} : Ev.Told G Tryz.prog 195 zZb.c := zZD mixed Tryz.func195 (by decide +kernel) zZb.made
theorem vZP.told {G : Glob} (hG : Laid G) : Ev.Told G Tryz.prog 198 (primF2 .sbyte) := ⟨Tryz.f198, _, Tryz.func198, by decide +kernel, rfl, sbyte_told hG⟩
theorem zZR {G : Glob} {f k : Nat} {c cf : Cf} (hr : Ev.Told G Tryz.prog k c) (h : (if f = k then some c else none) = some cf) : Ev.Told G Tryz.prog f cf := by
 split at h
 ·rename_i e; subst e; cases h; exact hr
 ·cases h
theorem zZS {G : Glob} {f m : Nat} {a b : Option Cf} {cf : Cf} (h : (if f < m then a else b) = some cf) (ha : a = some cf → Ev.Told G Tryz.prog f cf) (hb : b = some cf → Ev.Told G Tryz.prog f cf) : Ev.Told G Tryz.prog f cf := by
 split at h
 ·exact ha h
 ·exact hb h
theorem tells {G : Glob} (hG : Laid G) : Tells G Tryz.prog Φ := fun f cf h => zZS h (fun h => zZS h (fun h => zZS h (fun h => zZS h (fun h => zZS h (fun h => zZS h (fun h => zZS h (fun h => zZR zZU.told h) (fun h => zZR zZd.told h)) (fun h => zZS h (fun h => zZR zZh.told h) (fun h => zZR zZ8.told h))) (fun h => zZS h (fun h => zZS h (fun h => zZR qZT.told h) (fun h => zZR qZU.told h)) (fun h => zZS h (fun h => zZR zZY.told h) (fun h => zZS h (fun h => zZR qZW.told h) (fun h => zZR zZO.told h))))) (fun h => zZS h (fun h => zZS h (fun h => zZS h (fun h => zZR zZJ.told h) (fun h => zZR zZe.told h)) (fun h => zZS h (fun h => zZR zZC.told h) (fun h => zZS h (fun h => zZR qZg.told h) (fun h => zZR zZ9.told h)))) (fun h => zZS h (fun h => zZS h (fun h => zZR zZW.told h) (fun h => zZR zZB.told h)) (fun h => zZS h (fun h => zZR zZP.told h) (fun h => zZS h (fun h => zZR zZz.told h) (fun h => zZR zZK.told h)))))) (fun h => zZS h (fun h => zZS h (fun h => zZS h (fun h => zZS h (fun h => zZR zZ3.told h) (fun h => zZR qZk.told h)) (fun h => zZS h (fun h => zZR zZw.told h) (fun h => zZR qZV.told h))) (fun h => zZS h (fun h => zZS h (fun h => zZR vZA.told h) (fun h => zZR qZi.told h)) (fun h => zZS h (fun h => zZR zZu.told h) (fun h => zZS h (fun h => zZR (vZO.told hG) h) (fun h => zZR (qZO.told hG) h))))) (fun h => zZS h (fun h => zZS h (fun h => zZS h (fun h => zZR zZF.told h) (fun h => zZR zZZ.told h)) (fun h => zZS h (fun h => zZR qZq.told h) (fun h => zZS h (fun h => zZR qZv.told h) (fun h => zZR qZy.told h)))) (fun h => zZS h (fun h => zZS h (fun h => zZR qZh.told h) (fun h => zZR zZp.told h)) (fun h => zZS h (fun h => zZR qZ0.told h) (fun h => zZS h (fun h => zZR zZ5.told h) (fun h => zZR qZX.told h))))))) (fun h => zZS h (fun h => zZS h (fun h => zZS h (fun h => zZS h (fun h => zZS h (fun h => zZR zZf.told h) (fun h => zZR zZi.told h)) (fun h => zZS h (fun h => zZR zZ1.told h) (fun h => zZR zZM.told h))) (fun h => zZS h (fun h => zZS h (fun h => zZR qZC.told h) (fun h => zZR qZZ.told h)) (fun h => zZS h (fun h => zZR qZd.told h) (fun h => zZS h (fun h => zZR vZb.told h) (fun h => zZR qZa.told h))))) (fun h => zZS h (fun h => zZS h (fun h => zZS h (fun h => zZR qZc.told h) (fun h => zZR qZS.told h)) (fun h => zZS h (fun h => zZR vZd.told h) (fun h => zZS h (fun h => zZR zZI.told h) (fun h => zZR zZV.told h)))) (fun h => zZS h (fun h => zZS h (fun h => zZR vZ5.told h) (fun h => zZR zZa.told h)) (fun h => zZS h (fun h => zZR qZp.told h) (fun h => zZS h (fun h => zZR vZI.told h) (fun h => zZR qZj.told h)))))) (fun h => zZS h (fun h => zZS h (fun h => zZS h (fun h => zZS h (fun h => zZR vZJ.told h) (fun h => zZR vZk.told h)) (fun h => zZS h (fun h => zZR vZl.told h) (fun h => zZS h (fun h => zZR vZD.told h) (fun h => zZR qZw.told h)))) (fun h => zZS h (fun h => zZS h (fun h => zZR vZe.told h) (fun h => zZR zZ2.told h)) (fun h => zZS h (fun h => zZR vZn.told h) (fun h => zZS h (fun h => zZR zZt.told h) (fun h => zZR zZH.told h))))) (fun h => zZS h (fun h => zZS h (fun h => zZS h (fun h => zZR zZA.told h) (fun h => zZR zZ7.told h)) (fun h => zZS h (fun h => zZR zZX.told h) (fun h => zZS h (fun h => zZR qZs.told h) (fun h => zZR vZc.told h)))) (fun h => zZS h (fun h => zZS h (fun h => zZR zZ4.told h) (fun h => zZR qZB.told h)) (fun h => zZS h (fun h => zZR qZm.told h) (fun h => zZS h (fun h => zZR vZo.told h) (fun h => zZR vZN.told h)))))))) (fun h => zZS h (fun h => zZS h (fun h => zZS h (fun h => zZS h (fun h => zZS h (fun h => zZS h (fun h => zZR zZo.told h) (fun h => zZR qZ7.told h)) (fun h => zZS h (fun h => zZR vZF.told h) (fun h => zZR qZM.told h))) (fun h => zZS h (fun h => zZS h (fun h => zZR qZ6.told h) (fun h => zZR zZT.told h)) (fun h => zZS h (fun h => zZR zZr.told h) (fun h => zZS h (fun h => zZR qZN.told h) (fun h => zZR vZt.told h))))) (fun h => zZS h (fun h => zZS h (fun h => zZS h (fun h => zZR vZs.told h) (fun h => zZR qZH.told h)) (fun h => zZS h (fun h => zZR qZl.told h) (fun h => zZS h (fun h => zZR qZP.told h) (fun h => zZR vZg.told h)))) (fun h => zZS h (fun h => zZS h (fun h => zZR vZv.told h) (fun h => zZR qZ1.told h)) (fun h => zZS h (fun h => zZR zZQ.told h) (fun h => zZS h (fun h => zZR qZA.told h) (fun h => zZR zZy.told h)))))) (fun h => zZS h (fun h => zZS h (fun h => zZS h (fun h => zZS h (fun h => zZR qZr.told h) (fun h => zZR vZM.told h)) (fun h => zZS h (fun h => zZR qZu.told h) (fun h => zZR vZz.told h))) (fun h => zZS h (fun h => zZS h (fun h => zZR zZ6.told h) (fun h => zZR (vZS.told hG) h)) (fun h => zZS h (fun h => zZR (vZQ.told hG) h) (fun h => zZS h (fun h => zZR qZ3.told h) (fun h => zZR qZK.told h))))) (fun h => zZS h (fun h => zZS h (fun h => zZS h (fun h => zZR qZb.told h) (fun h => zZR vZh.told h)) (fun h => zZS h (fun h => zZR zZn.told h) (fun h => zZS h (fun h => zZR qZf.told h) (fun h => zZR zZv.told h)))) (fun h => zZS h (fun h => zZS h (fun h => zZR qZt.told h) (fun h => zZR vZj.told h)) (fun h => zZS h (fun h => zZR qZJ.told h) (fun h => zZS h (fun h => zZR vZy.told h) (fun h => zZR qZn.told h))))))) (fun h => zZS h (fun h => zZS h (fun h => zZS h (fun h => zZS h (fun h => zZS h (fun h => zZR vZG.told h) (fun h => zZR qZY.told h)) (fun h => zZS h (fun h => zZR zZs.told h) (fun h => zZR qZQ.told h))) (fun h => zZS h (fun h => zZS h (fun h => zZR qZE.told h) (fun h => zZR zZL.told h)) (fun h => zZS h (fun h => zZR zZj.told h) (fun h => zZS h (fun h => zZR qZR.told h) (fun h => zZR vZx.told h))))) (fun h => zZS h (fun h => zZS h (fun h => zZS h (fun h => zZR vZw.told h) (fun h => zZR zZE.told h)) (fun h => zZS h (fun h => zZR qZx.told h) (fun h => zZS h (fun h => zZR zZk.told h) (fun h => zZR qZI.told h)))) (fun h => zZS h (fun h => zZS h (fun h => zZR zZm.told h) (fun h => zZR qZF.told h)) (fun h => zZS h (fun h => zZR qZz.told h) (fun h => zZS h (fun h => zZR qZ9.told h) (fun h => zZR vZu.told h)))))) (fun h => zZS h (fun h => zZS h (fun h => zZS h (fun h => zZS h (fun h => zZR (vZX.told hG) h) (fun h => zZR qZ4.told h)) (fun h => zZS h (fun h => zZR qZ5.told h) (fun h => zZS h (fun h => zZR vZH.told h) (fun h => zZR vZT.told h)))) (fun h => zZS h (fun h => zZS h (fun h => zZR qZG.told h) (fun h => zZR qZL.told h)) (fun h => zZS h (fun h => zZR zZq.told h) (fun h => zZS h (fun h => zZR zZg.told h) (fun h => zZR qZ2.told h))))) (fun h => zZS h (fun h => zZS h (fun h => zZS h (fun h => zZR zZN.told h) (fun h => zZR zZx.told h)) (fun h => zZS h (fun h => zZR vZi.told h) (fun h => zZS h (fun h => zZR zZc.told h) (fun h => zZR vZm.told h)))) (fun h => zZS h (fun h => zZS h (fun h => zZR vZf.told h) (fun h => zZR zZl.told h)) (fun h => zZS h (fun h => zZR zZG.told h) (fun h => zZS h (fun h => zZR zZb.told h) (fun h => zZR (vZP.told hG) h))))))))
end Go.Proofs.Rc
