/- PRINTED by cir3.py: the table tells of the program. Conditions: Laid. No conditions. -/
import Derived.Test.YtcfgiajpbjbdpaaGreatDoorScC
set_option maxHeartbeats 16000000
set_option maxRecDepth 100000
set_option linter.unusedVariables false
set_option linter.unusedSimpArgs false
set_option linter.unusedSectionVars false
namespace Go.Proofs.Sc
open Go Go.Ev
theorem mixed : Tryz.prog.follows .mixedOrders = true := by kernel_rfl
theorem zZU.made : cFunc Tryz.prog zZU.c.pure Tryz.f3 = some zZU.c := by kernel_rfl
theorem zZU.told {G : Glob} : Ev.Told G Tryz.prog 3 zZU.c := zZM mixed Tryz.func3 (by decide +kernel) zZU.made
theorem zZk.made : cFunc Tryz.prog zZk.c.pure Tryz.f4 = some zZk.c := by kernel_rfl
theorem zZk.told {G : Glob} : Ev.Told G Tryz.prog 4 zZk.c := zZM mixed Tryz.func4 (by decide +kernel) zZk.made
theorem zZF.made : cFunc Tryz.prog zZF.c.pure Tryz.f5 = some zZF.c := by kernel_rfl
theorem zZF.told {G : Glob} : Ev.Told G Tryz.prog 5 zZF.c := zZM mixed Tryz.func5 (by decide +kernel) zZF.made
theorem zZw.made : cFunc Tryz.prog zZw.c.pure Tryz.f6 = some zZw.c := by kernel_rfl
theorem zZw.told {G : Glob} : Ev.Told G Tryz.prog 6 zZw.c := zZM mixed Tryz.func6 (by decide +kernel) zZw.made
theorem zZJ.made : cFunc Tryz.prog zZJ.c.pure Tryz.f7 = some zZJ.c := by kernel_rfl
theorem zZJ.told {G : Glob} : Ev.Told G Tryz.prog 7 zZJ.c := zZM mixed Tryz.func7 (by decide +kernel) zZJ.made
theorem zZf.made : cFunc Tryz.prog zZf.c.pure Tryz.f8 = some zZf.c := by kernel_rfl
theorem zZf.told {G : Glob} : Ev.Told G Tryz.prog 8 zZf.c := zZM mixed Tryz.func8 (by decide +kernel) zZf.made
theorem zZW.made : cFunc Tryz.prog zZW.c.pure Tryz.f9 = some zZW.c := by kernel_rfl
theorem zZW.told {G : Glob} : Ev.Told G Tryz.prog 9 zZW.c := zZM mixed Tryz.func9 (by decide +kernel) zZW.made
theorem zZX.made : cFunc Tryz.prog zZX.c.pure Tryz.f10 = some zZX.c := by kernel_rfl
theorem zZX.told {G : Glob} : Ev.Told G Tryz.prog 10 zZX.c := zZM mixed Tryz.func10 (by decide +kernel) zZX.made
theorem zZ5.made : cFunc Tryz.prog zZ5.c.pure Tryz.f11 = some zZ5.c := by kernel_rfl
theorem zZ5.told {G : Glob} : Ev.Told G Tryz.prog 11 zZ5.c := zZM mixed Tryz.func11 (by decide +kernel) zZ5.made
theorem zZj.made : cFunc Tryz.prog zZj.c.pure Tryz.f12 = some zZj.c := by kernel_rfl
theorem zZj.told {G : Glob} : Ev.Told G Tryz.prog 12 zZj.c := zZM mixed Tryz.func12 (by decide +kernel) zZj.made
theorem zZe.made : cFunc Tryz.prog zZe.c.pure Tryz.f13 = some zZe.c := by kernel_rfl
theorem zZe.told {G : Glob} : Ev.Told G Tryz.prog 13 zZe.c := zZM mixed Tryz.func13 (by decide +kernel) zZe.made
theorem qZb.made : cFunc Tryz.prog qZb.c.pure Tryz.f14 = some qZb.c := by kernel_rfl
theorem qZb.told {G : Glob} : Ev.Told G Tryz.prog 14 qZb.c := zZM mixed Tryz.func14 (by decide +kernel) qZb.made
theorem zZa.made : cFunc Tryz.prog zZa.c.pure Tryz.f15 = some zZa.c := by kernel_rfl
theorem zZa.told {G : Glob} : Ev.Told G Tryz.prog 15 zZa.c := zZM mixed Tryz.func15 (by decide +kernel) zZa.made
theorem zZu.made : cFunc Tryz.prog zZu.c.pure Tryz.f16 = some zZu.c := by kernel_rfl
theorem zZu.told {G : Glob} : Ev.Told G Tryz.prog 16 zZu.c := zZM mixed Tryz.func16 (by decide +kernel) zZu.made
theorem zZN.made : cFunc Tryz.prog zZN.c.pure Tryz.f17 = some zZN.c := by kernel_rfl
theorem zZN.told {G : Glob} : Ev.Told G Tryz.prog 17 zZN.c := zZM mixed Tryz.func17 (by decide +kernel) zZN.made
theorem qZC.made : cFunc Tryz.prog qZC.c.pure Tryz.f18 = some qZC.c := by kernel_rfl
theorem qZC.told {G : Glob} : Ev.Told G Tryz.prog 18 qZC.c := zZM mixed Tryz.func18 (by decide +kernel) qZC.made
theorem qZg.made : cFunc Tryz.prog qZg.c.pure Tryz.f19 = some qZg.c := by kernel_rfl
theorem qZg.told {G : Glob} : Ev.Told G Tryz.prog 19 qZg.c := zZM mixed Tryz.func19 (by decide +kernel) qZg.made
theorem zZb.made : cFunc Tryz.prog zZb.c.pure Tryz.f20 = some zZb.c := by kernel_rfl
theorem zZb.told {G : Glob} : Ev.Told G Tryz.prog 20 zZb.c := zZM mixed Tryz.func20 (by decide +kernel) zZb.made
theorem zZl.made : cFunc Tryz.prog zZl.c.pure Tryz.f21 = some zZl.c := by kernel_rfl
theorem zZl.told {G : Glob} : Ev.Told G Tryz.prog 21 zZl.c := zZM mixed Tryz.func21 (by decide +kernel) zZl.made
theorem zZv.made : cFunc Tryz.prog zZv.c.pure Tryz.f22 = some zZv.c := by kernel_rfl
theorem zZv.told {G : Glob} : Ev.Told G Tryz.prog 22 zZv.c := zZM mixed Tryz.func22 (by decide +kernel) zZv.made
theorem zZ6.made : cFunc Tryz.prog zZ6.c.pure Tryz.f23 = some zZ6.c := by kernel_rfl
theorem zZ6.told {G : Glob} : Ev.Told G Tryz.prog 23 zZ6.c := zZM mixed Tryz.func23 (by decide +kernel) zZ6.made
theorem zZg.made : cFunc Tryz.prog zZg.c.pure Tryz.f24 = some zZg.c := by kernel_rfl
theorem zZg.told {G : Glob} : Ev.Told G Tryz.prog 24 zZg.c := zZM mixed Tryz.func24 (by decide +kernel) zZg.made
theorem zZx.made : cFunc Tryz.prog zZx.c.pure Tryz.f25 = some zZx.c := by kernel_rfl
theorem zZx.told {G : Glob} : Ev.Told G Tryz.prog 25 zZx.c := zZM mixed Tryz.func25 (by decide +kernel) zZx.made
theorem zZ7.made : cFunc Tryz.prog zZ7.c.pure Tryz.f26 = some zZ7.c := by kernel_rfl
theorem zZ7.told {G : Glob} : Ev.Told G Tryz.prog 26 zZ7.c := zZM mixed Tryz.func26 (by decide +kernel) zZ7.made
theorem qZl.made : cFunc Tryz.prog qZl.c.pure Tryz.f27 = some qZl.c := by kernel_rfl
theorem qZl.told {G : Glob} : Ev.Told G Tryz.prog 27 qZl.c := zZM mixed Tryz.func27 (by decide +kernel) qZl.made
theorem zZC.made : cFunc Tryz.prog zZC.c.pure Tryz.f28 = some zZC.c := by kernel_rfl
theorem zZC.told {G : Glob} : Ev.Told G Tryz.prog 28 zZC.c := zZM mixed Tryz.func28 (by decide +kernel) zZC.made
theorem qZq.made : cFunc Tryz.prog qZq.c.pure Tryz.f29 = some qZq.c := by kernel_rfl
theorem qZq.told {G : Glob} : Ev.Told G Tryz.prog 29 qZq.c := zZM mixed Tryz.func29 (by decide +kernel) qZq.made
theorem qZG.made : cFunc Tryz.prog qZG.c.pure Tryz.f30 = some qZG.c := by kernel_rfl
theorem qZG.told {G : Glob} : Ev.Told G Tryz.prog 30 qZG.c := zZM mixed Tryz.func30 (by decide +kernel) qZG.made
theorem qZB.made : cFunc Tryz.prog qZB.c.pure Tryz.f31 = some qZB.c := by kernel_rfl
theorem qZB.told {G : Glob} : Ev.Told G Tryz.prog 31 qZB.c := zZM mixed Tryz.func31 (by decide +kernel) qZB.made
theorem qZA.made : cFunc Tryz.prog qZA.c.pure Tryz.f32 = some qZA.c := by kernel_rfl
theorem qZA.told {G : Glob} : Ev.Told G Tryz.prog 32 qZA.c := zZM mixed Tryz.func32 (by decide +kernel) qZA.made
theorem zZS.made : cFunc Tryz.prog zZS.c.pure Tryz.f33 = some zZS.c := by kernel_rfl
theorem zZS.told {G : Glob} : Ev.Told G Tryz.prog 33 zZS.c := zZM mixed Tryz.func33 (by decide +kernel) zZS.made
theorem zZP.made : cFunc Tryz.prog zZP.c.pure Tryz.f34 = some zZP.c := by kernel_rfl
theorem zZP.told {G : Glob} : Ev.Told G Tryz.prog 34 zZP.c := zZM mixed Tryz.func34 (by decide +kernel) zZP.made
theorem zZt.made : cFunc Tryz.prog zZt.c.pure Tryz.f35 = some zZt.c := by kernel_rfl
theorem zZt.told {G : Glob} : Ev.Told G Tryz.prog 35 zZt.c := zZM mixed Tryz.func35 (by decide +kernel) zZt.made
theorem zZh.made : cFunc Tryz.prog zZh.c.pure Tryz.f36 = some zZh.c := by kernel_rfl
theorem zZh.told {G : Glob} : Ev.Told G Tryz.prog 36 zZh.c := zZM mixed Tryz.func36 (by decide +kernel) zZh.made
theorem zZi.made : cFunc Tryz.prog zZi.c.pure Tryz.f37 = some zZi.c := by kernel_rfl
theorem zZi.told {G : Glob} : Ev.Told G Tryz.prog 37 zZi.c := zZM mixed Tryz.func37 (by decide +kernel) zZi.made
theorem zZs.made : cFunc Tryz.prog zZs.c.pure Tryz.f38 = some zZs.c := by kernel_rfl
theorem zZs.told {G : Glob} : Ev.Told G Tryz.prog 38 zZs.c := zZM mixed Tryz.func38 (by decide +kernel) zZs.made
theorem qZE.made : cFunc Tryz.prog qZE.c.pure Tryz.f39 = some qZE.c := by kernel_rfl
theorem qZE.told {G : Glob} : Ev.Told G Tryz.prog 39 qZE.c := zZM mixed Tryz.func39 (by decide +kernel) qZE.made
theorem qZK.made : cFunc Tryz.prog qZK.c.pure Tryz.f40 = some qZK.c := by kernel_rfl
theorem qZK.told {G : Glob} : Ev.Told G Tryz.prog 40 qZK.c := zZM mixed Tryz.func40 (by decide +kernel) qZK.made
theorem zZ9.made : cFunc Tryz.prog zZ9.c.pure Tryz.f41 = some zZ9.c := by kernel_rfl
theorem zZ9.told {G : Glob} : Ev.Told G Tryz.prog 41 zZ9.c := zZM mixed Tryz.func41 (by decide +kernel) zZ9.made
theorem zZ1.made : cFunc Tryz.prog zZ1.c.pure Tryz.f42 = some zZ1.c := by kernel_rfl
theorem zZ1.told {G : Glob} : Ev.Told G Tryz.prog 42 zZ1.c := zZM mixed Tryz.func42 (by decide +kernel) zZ1.made
theorem strconv_Itoa.told {G : Glob} (hG : Laid G) : Ev.Told G Tryz.prog 43 (primF1 .itoa) := ⟨Tryz.f43, _, Tryz.func43, by decide +kernel, rfl, itoa_told hG⟩
theorem zZy.made : cFunc Tryz.prog zZy.c.pure Tryz.f44 = some zZy.c := by kernel_rfl
theorem zZy.told {G : Glob} : Ev.Told G Tryz.prog 44 zZy.c := zZM mixed Tryz.func44 (by decide +kernel) zZy.made
theorem zZ0.made : cFunc Tryz.prog zZ0.c.pure Tryz.f45 = some zZ0.c := by kernel_rfl
theorem zZ0.told {G : Glob} : Ev.Told G Tryz.prog 45 zZ0.c := zZM mixed Tryz.func45 (by decide +kernel) zZ0.made
theorem zZT.made : cFunc Tryz.prog zZT.c.pure Tryz.f46 = some zZT.c := by kernel_rfl
theorem zZT.told {G : Glob} : Ev.Told G Tryz.prog 46 zZT.c := zZM mixed Tryz.func46 (by decide +kernel) zZT.made
theorem qZc.made : cFunc Tryz.prog qZc.c.pure Tryz.f47 = some qZc.c := by kernel_rfl
theorem qZc.told {G : Glob} : Ev.Told G Tryz.prog 47 qZc.c := zZM mixed Tryz.func47 (by decide +kernel) qZc.made
theorem zZc.made : cFunc Tryz.prog zZc.c.pure Tryz.f48 = some zZc.c := by kernel_rfl
theorem zZc.told {G : Glob} : Ev.Told G Tryz.prog 48 zZc.c := zZM mixed Tryz.func48 (by decide +kernel) zZc.made
theorem qZk.made : cFunc Tryz.prog qZk.c.pure Tryz.f49 = some qZk.c := by kernel_rfl
theorem qZk.told {G : Glob} : Ev.Told G Tryz.prog 49 qZk.c := zZM mixed Tryz.func49 (by decide +kernel) qZk.made
theorem qZI.made : cFunc Tryz.prog qZI.c.pure Tryz.f50 = some qZI.c := by kernel_rfl
theorem qZI.told {G : Glob} : Ev.Told G Tryz.prog 50 qZI.c := zZM mixed Tryz.func50 (by decide +kernel) qZI.made
theorem zZR.made : cFunc Tryz.prog zZR.c.pure Tryz.f51 = some zZR.c := by kernel_rfl
theorem zZR.told {G : Glob} : Ev.Told G Tryz.prog 51 zZR.c := zZM mixed Tryz.func51 (by decide +kernel) zZR.made
theorem qZV.made : cFunc Tryz.prog qZV.c.pure Tryz.f52 = some qZV.c := by kernel_rfl
theorem qZV.told {G : Glob} : Ev.Told G Tryz.prog 52 qZV.c := zZM mixed Tryz.func52 (by decide +kernel) qZV.made
theorem qZs.made : cFunc Tryz.prog qZs.c.pure Tryz.f53 = some qZs.c := by kernel_rfl
theorem qZs.told {G : Glob} : Ev.Told G Tryz.prog 53 qZs.c := zZM mixed Tryz.func53 (by decide +kernel) qZs.made
theorem qZt.made : cFunc Tryz.prog qZt.c.pure Tryz.f54 = some qZt.c := by kernel_rfl
theorem qZt.told {G : Glob} : Ev.Told G Tryz.prog 54 qZt.c := zZM mixed Tryz.func54 (by decide +kernel) qZt.made
theorem qZu.made : cFunc Tryz.prog qZu.c.pure Tryz.f55 = some qZu.c := by kernel_rfl
theorem qZu.told {G : Glob} : Ev.Told G Tryz.prog 55 qZu.c := zZM mixed Tryz.func55 (by decide +kernel) qZu.made
theorem qZv.made : cFunc Tryz.prog qZv.c.pure Tryz.f56 = some qZv.c := by kernel_rfl
theorem qZv.told {G : Glob} : Ev.Told G Tryz.prog 56 qZv.c := zZM mixed Tryz.func56 (by decide +kernel) qZv.made
theorem qZw.made : cFunc Tryz.prog qZw.c.pure Tryz.f57 = some qZw.c := by kernel_rfl
theorem qZw.told {G : Glob} : Ev.Told G Tryz.prog 57 qZw.c := zZM mixed Tryz.func57 (by decide +kernel) qZw.made
theorem qZT.made : cFunc Tryz.prog qZT.c.pure Tryz.f58 = some qZT.c := by kernel_rfl
theorem qZT.told {G : Glob} : Ev.Told G Tryz.prog 58 qZT.c := zZM mixed Tryz.func58 (by decide +kernel) qZT.made
theorem qZx.made : cFunc Tryz.prog qZx.c.pure Tryz.f59 = some qZx.c := by kernel_rfl
theorem qZx.told {G : Glob} : Ev.Told G Tryz.prog 59 qZx.c := zZM mixed Tryz.func59 (by decide +kernel) qZx.made
theorem qZy.made : cFunc Tryz.prog qZy.c.pure Tryz.f60 = some qZy.c := by kernel_rfl
theorem qZy.told {G : Glob} : Ev.Told G Tryz.prog 60 qZy.c := zZM mixed Tryz.func60 (by decide +kernel) qZy.made
theorem qZo.made : cFunc Tryz.prog qZo.c.pure Tryz.f61 = some qZo.c := by kernel_rfl
theorem qZo.told {G : Glob} : Ev.Told G Tryz.prog 61 qZo.c := zZM mixed Tryz.func61 (by decide +kernel) qZo.made
theorem qZe.made : cFunc Tryz.prog qZe.c.pure Tryz.f62 = some qZe.c := by kernel_rfl
theorem qZe.told {G : Glob} : Ev.Told G Tryz.prog 62 qZe.c := zZM mixed Tryz.func62 (by decide +kernel) qZe.made
theorem zZK.made : cFunc Tryz.prog zZK.c.pure Tryz.f63 = some zZK.c := by kernel_rfl
theorem zZK.told {G : Glob} : Ev.Told G Tryz.prog 63 zZK.c := zZM mixed Tryz.func63 (by decide +kernel) zZK.made
theorem qZz.made : cFunc Tryz.prog qZz.c.pure Tryz.f64 = some qZz.c := by kernel_rfl
theorem qZz.told {G : Glob} : Ev.Told G Tryz.prog 64 qZz.c := zZM mixed Tryz.func64 (by decide +kernel) qZz.made
theorem zZG.made : cFunc Tryz.prog zZG.c.pure Tryz.f65 = some zZG.c := by kernel_rfl
theorem zZG.told {G : Glob} : Ev.Told G Tryz.prog 65 zZG.c := zZM mixed Tryz.func65 (by decide +kernel) zZG.made
theorem qZn.made : cFunc Tryz.prog qZn.c.pure Tryz.f66 = some qZn.c := by kernel_rfl
theorem qZn.told {G : Glob} : Ev.Told G Tryz.prog 66 qZn.c := zZM mixed Tryz.func66 (by decide +kernel) qZn.made
theorem qZf.made : cFunc Tryz.prog qZf.c.pure Tryz.f67 = some qZf.c := by kernel_rfl
theorem qZf.told {G : Glob} : Ev.Told G Tryz.prog 67 qZf.c := zZM mixed Tryz.func67 (by decide +kernel) qZf.made
theorem qZa.made : cFunc Tryz.prog qZa.c.pure Tryz.f68 = some qZa.c := by kernel_rfl
theorem qZa.told {G : Glob} : Ev.Told G Tryz.prog 68 qZa.c := zZM mixed Tryz.func68 (by decide +kernel) qZa.made
theorem qZd.made : cFunc Tryz.prog qZd.c.pure Tryz.f69 = some qZd.c := by kernel_rfl
theorem qZd.told {G : Glob} : Ev.Told G Tryz.prog 69 qZd.c := zZM mixed Tryz.func69 (by decide +kernel) qZd.made
theorem zZr.made : cFunc Tryz.prog zZr.c.pure Tryz.f70 = some zZr.c := by kernel_rfl
theorem zZr.told {G : Glob} : Ev.Told G Tryz.prog 70 zZr.c := zZM mixed Tryz.func70 (by decide +kernel) zZr.made
theorem qZU.made : cFunc Tryz.prog qZU.c.pure Tryz.f71 = some qZU.c := by kernel_rfl
theorem qZU.told {G : Glob} : Ev.Told G Tryz.prog 71 qZU.c := zZM mixed Tryz.func71 (by decide +kernel) qZU.made
theorem qZh.made : cFunc Tryz.prog qZh.c.pure Tryz.f72 = some qZh.c := by kernel_rfl
theorem qZh.told {G : Glob} : Ev.Told G Tryz.prog 72 qZh.c := zZM mixed Tryz.func72 (by decide +kernel) qZh.made
theorem zZA.made : cFunc Tryz.prog zZA.c.pure Tryz.f73 = some zZA.c := by kernel_rfl
theorem zZA.told {G : Glob} : Ev.Told G Tryz.prog 73 zZA.c := zZM mixed Tryz.func73 (by decide +kernel) zZA.made
theorem qZp.made : cFunc Tryz.prog qZp.c.pure Tryz.f74 = some qZp.c := by kernel_rfl
theorem qZp.told {G : Glob} : Ev.Told G Tryz.prog 74 qZp.c := zZM mixed Tryz.func74 (by decide +kernel) qZp.made
theorem zZD.made : cFunc Tryz.prog zZD.c.pure Tryz.f75 = some zZD.c := by kernel_rfl
theorem zZD.told {G : Glob} : Ev.Told G Tryz.prog 75 zZD.c := zZM mixed Tryz.func75 (by decide +kernel) zZD.made
theorem zZH.made : cFunc Tryz.prog zZH.c.pure Tryz.f76 = some zZH.c := by kernel_rfl
theorem zZH.told {G : Glob} : Ev.Told G Tryz.prog 76 zZH.c := zZM mixed Tryz.func76 (by decide +kernel) zZH.made
theorem zZE.made : cFunc Tryz.prog zZE.c.pure Tryz.f78 = some zZE.c := by kernel_rfl
theorem zZE.told {G : Glob} : Ev.Told G Tryz.prog 78 zZE.c := zZM mixed Tryz.func78 (by decide +kernel) zZE.made
theorem zZO.made : cFunc Tryz.prog zZO.c.pure Tryz.f79 = some zZO.c := by kernel_rfl
theorem zZO.told {G : Glob} : Ev.Told G Tryz.prog 79 zZO.c := zZM mixed Tryz.func79 (by decide +kernel) zZO.made
theorem zZq.made : cFunc Tryz.prog zZq.c.pure Tryz.f80 = some zZq.c := by kernel_rfl
theorem zZq.told {G : Glob} : Ev.Told G Tryz.prog 80 zZq.c := zZM mixed Tryz.func80 (by decide +kernel) zZq.made
theorem zZn.made : cFunc Tryz.prog zZn.c.pure Tryz.f81 = some zZn.c := by kernel_rfl
theorem zZn.told {G : Glob} : Ev.Told G Tryz.prog 81 zZn.c := zZM mixed Tryz.func81 (by decide +kernel) zZn.made
theorem qZO.made : cFunc Tryz.prog qZO.c.pure Tryz.f82 = some qZO.c := by kernel_rfl
theorem qZO.told {G : Glob} : Ev.Told G Tryz.prog 82 qZO.c := zZM mixed Tryz.func82 (by decide +kernel) qZO.made
theorem qZF.made : cFunc Tryz.prog qZF.c.pure Tryz.f83 = some qZF.c := by kernel_rfl
theorem qZF.told {G : Glob} : Ev.Told G Tryz.prog 83 qZF.c := zZM mixed Tryz.func83 (by decide +kernel) qZF.made
theorem qZH.made : cFunc Tryz.prog qZH.c.pure Tryz.f84 = some qZH.c := by kernel_rfl
theorem qZH.told {G : Glob} : Ev.Told G Tryz.prog 84 qZH.c := zZM mixed Tryz.func84 (by decide +kernel) qZH.made
theorem qZN.made : cFunc Tryz.prog qZN.c.pure Tryz.f85 = some qZN.c := by kernel_rfl
theorem qZN.told {G : Glob} : Ev.Told G Tryz.prog 85 qZN.c := zZM mixed Tryz.func85 (by decide +kernel) qZN.made
theorem qZr.made : cFunc Tryz.prog qZr.c.pure Tryz.f86 = some qZr.c := by kernel_rfl
theorem qZr.told {G : Glob} : Ev.Told G Tryz.prog 86 qZr.c := zZM mixed Tryz.func86 (by decide +kernel) qZr.made
theorem zZd.made : cFunc Tryz.prog zZd.c.pure Tryz.f87 = some zZd.c := by kernel_rfl
theorem zZd.told {G : Glob} : Ev.Told G Tryz.prog 87 zZd.c := zZM mixed Tryz.func87 (by decide +kernel) zZd.made
theorem zZ3.made : cFunc Tryz.prog zZ3.c.pure Tryz.f88 = some zZ3.c := by kernel_rfl
theorem zZ3.told {G : Glob} : Ev.Told G Tryz.prog 88 zZ3.c := zZM mixed Tryz.func88 (by decide +kernel) zZ3.made
theorem zZB.made : cFunc Tryz.prog zZB.c.pure Tryz.f89 = some zZB.c := by kernel_rfl
theorem zZB.told {G : Glob} : Ev.Told G Tryz.prog 89 zZB.c := zZM mixed Tryz.func89 (by decide +kernel) zZB.made
theorem strings_Join.told {G : Glob} (hG : Laid G) : Ev.Told G Tryz.prog 90 (primF2 .join) := ⟨Tryz.f90, _, Tryz.func90, by decide +kernel, rfl, join_told hG⟩
theorem zZI.made : cFunc Tryz.prog zZI.c.pure Tryz.f91 = some zZI.c := by kernel_rfl
theorem zZI.told {G : Glob} : Ev.Told G Tryz.prog 91 zZI.c := zZM mixed Tryz.func91 (by decide +kernel) zZI.made
theorem zZV.made : cFunc Tryz.prog zZV.c.pure Tryz.f92 = some zZV.c := by kernel_rfl
theorem zZV.told {G : Glob} : Ev.Told G Tryz.prog 92 zZV.c := zZM mixed Tryz.func92 (by decide +kernel) zZV.made
theorem zZ8.made : cFunc Tryz.prog zZ8.c.pure Tryz.f93 = some zZ8.c := by kernel_rfl
theorem zZ8.told {G : Glob} : Ev.Told G Tryz.prog 93 zZ8.c := zZM mixed Tryz.func93 (by decide +kernel) zZ8.made
theorem zZQ.made : cFunc Tryz.prog zZQ.c.pure Tryz.f94 = some zZQ.c := by kernel_rfl
theorem zZQ.told {G : Glob} : Ev.Told G Tryz.prog 94 zZQ.c := zZM mixed Tryz.func94 (by decide +kernel) zZQ.made
theorem qZm.made : cFunc Tryz.prog qZm.c.pure Tryz.f95 = some qZm.c := by kernel_rfl
theorem qZm.told {G : Glob} : Ev.Told G Tryz.prog 95 qZm.c := zZM mixed Tryz.func95 (by decide +kernel) qZm.made
theorem zZo.made : cFunc Tryz.prog zZo.c.pure Tryz.f96 = some zZo.c := by kernel_rfl
theorem zZo.told {G : Glob} : Ev.Told G Tryz.prog 96 zZo.c := zZM mixed Tryz.func96 (by decide +kernel) zZo.made
theorem zZp.made : cFunc Tryz.prog zZp.c.pure Tryz.f97 = some zZp.c := by kernel_rfl
theorem zZp.told {G : Glob} : Ev.Told G Tryz.prog 97 zZp.c := zZM mixed Tryz.func97 (by decide +kernel) zZp.made
theorem zZY.made : cFunc Tryz.prog zZY.c.pure Tryz.f98 = some zZY.c := by kernel_rfl
theorem zZY.told {G : Glob} : Ev.Told G Tryz.prog 98 zZY.c := zZM mixed Tryz.func98 (by decide +kernel) zZY.made
theorem wZq.told {G : Glob} (hG : Laid G) : Ev.Told G Tryz.prog 100 (primF1 (.atoi 165)) := ⟨Tryz.f100, _, Tryz.func100, by decide +kernel, rfl, atoi_told hG⟩
theorem zZm.made : cFunc Tryz.prog zZm.c.pure Tryz.f101 = some zZm.c := by kernel_rfl
theorem zZm.told {G : Glob} : Ev.Told G Tryz.prog 101 zZm.c := zZM mixed Tryz.func101 (by decide +kernel) zZm.made
theorem qZS.made : cFunc Tryz.prog qZS.c.pure Tryz.f102 = some qZS.c := by kernel_rfl
theorem qZS.told {G : Glob} : Ev.Told G Tryz.prog 102 qZS.c := zZM mixed Tryz.func102 (by decide +kernel) qZS.made
theorem qZi.made : cFunc Tryz.prog qZi.c.pure Tryz.f103 = some qZi.c := by kernel_rfl
theorem qZi.told {G : Glob} : Ev.Told G Tryz.prog 103 qZi.c := zZM mixed Tryz.func103 (by decide +kernel) qZi.made
theorem qZP.made : cFunc Tryz.prog qZP.c.pure Tryz.f104 = some qZP.c := by kernel_rfl
theorem qZP.told {G : Glob} : Ev.Told G Tryz.prog 104 qZP.c := zZM mixed Tryz.func104 (by decide +kernel) qZP.made
theorem qZ2.told {G : Glob} (hG : Laid G) : Ev.Told G Tryz.prog 108 (primF2 .sidx) := ⟨Tryz.f108, _, Tryz.func108, by decide +kernel, rfl, sidx_told hG⟩
theorem zZz.made : cFunc Tryz.prog zZz.c.pure Tryz.f109 = some zZz.c := by kernel_rfl
theorem zZz.told {G : Glob} : Ev.Told G Tryz.prog 109 zZz.c := zZM mixed Tryz.func109 (by decide +kernel) zZz.made
theorem qZW.told {G : Glob} (hG : Laid G) : Ev.Told G Tryz.prog 116 (primF2 .sbyte) := ⟨Tryz.f116, _, Tryz.func116, by decide +kernel, rfl, sbyte_told hG⟩
theorem zZ2 {G : Glob} {f k : Nat} {c cf : Cf} (hr : Ev.Told G Tryz.prog k c) (h : (if f = k then some c else none) = some cf) : Ev.Told G Tryz.prog f cf := by
 split at h
 ·rename_i e; subst e; cases h; exact hr
 ·cases h
theorem zZ4 {G : Glob} {f m : Nat} {a b : Option Cf} {cf : Cf} (h : (if f < m then a else b) = some cf) (ha : a = some cf → Ev.Told G Tryz.prog f cf) (hb : b = some cf → Ev.Told G Tryz.prog f cf) : Ev.Told G Tryz.prog f cf := by
 split at h
 ·exact ha h
 ·exact hb h
theorem tells {G : Glob} (hG : Laid G) : Tells G Tryz.prog Φ := fun f cf h => zZ4 h (fun h => zZ4 h (fun h => zZ4 h (fun h => zZ4 h (fun h => zZ4 h (fun h => zZ4 h (fun h => zZ2 zZU.told h) (fun h => zZ4 h (fun h => zZ2 zZk.told h) (fun h => zZ2 zZF.told h))) (fun h => zZ4 h (fun h => zZ2 zZw.told h) (fun h => zZ4 h (fun h => zZ2 zZJ.told h) (fun h => zZ2 zZf.told h)))) (fun h => zZ4 h (fun h => zZ4 h (fun h => zZ2 zZW.told h) (fun h => zZ4 h (fun h => zZ2 zZX.told h) (fun h => zZ2 zZ5.told h))) (fun h => zZ4 h (fun h => zZ2 zZj.told h) (fun h => zZ4 h (fun h => zZ2 zZe.told h) (fun h => zZ2 qZb.told h))))) (fun h => zZ4 h (fun h => zZ4 h (fun h => zZ4 h (fun h => zZ2 zZa.told h) (fun h => zZ4 h (fun h => zZ2 zZu.told h) (fun h => zZ2 zZN.told h))) (fun h => zZ4 h (fun h => zZ2 qZC.told h) (fun h => zZ4 h (fun h => zZ2 qZg.told h) (fun h => zZ2 zZb.told h)))) (fun h => zZ4 h (fun h => zZ4 h (fun h => zZ2 zZl.told h) (fun h => zZ4 h (fun h => zZ2 zZv.told h) (fun h => zZ2 zZ6.told h))) (fun h => zZ4 h (fun h => zZ4 h (fun h => zZ2 zZg.told h) (fun h => zZ2 zZx.told h)) (fun h => zZ4 h (fun h => zZ2 zZ7.told h) (fun h => zZ2 qZl.told h)))))) (fun h => zZ4 h (fun h => zZ4 h (fun h => zZ4 h (fun h => zZ4 h (fun h => zZ2 zZC.told h) (fun h => zZ4 h (fun h => zZ2 qZq.told h) (fun h => zZ2 qZG.told h))) (fun h => zZ4 h (fun h => zZ2 qZB.told h) (fun h => zZ4 h (fun h => zZ2 qZA.told h) (fun h => zZ2 zZS.told h)))) (fun h => zZ4 h (fun h => zZ4 h (fun h => zZ2 zZP.told h) (fun h => zZ4 h (fun h => zZ2 zZt.told h) (fun h => zZ2 zZh.told h))) (fun h => zZ4 h (fun h => zZ4 h (fun h => zZ2 zZi.told h) (fun h => zZ2 zZs.told h)) (fun h => zZ4 h (fun h => zZ2 qZE.told h) (fun h => zZ2 qZK.told h))))) (fun h => zZ4 h (fun h => zZ4 h (fun h => zZ4 h (fun h => zZ2 zZ9.told h) (fun h => zZ4 h (fun h => zZ2 zZ1.told h) (fun h => zZ2 (strconv_Itoa.told hG) h))) (fun h => zZ4 h (fun h => zZ2 zZy.told h) (fun h => zZ4 h (fun h => zZ2 zZ0.told h) (fun h => zZ2 zZT.told h)))) (fun h => zZ4 h (fun h => zZ4 h (fun h => zZ2 qZc.told h) (fun h => zZ4 h (fun h => zZ2 zZc.told h) (fun h => zZ2 qZk.told h))) (fun h => zZ4 h (fun h => zZ4 h (fun h => zZ2 qZI.told h) (fun h => zZ2 zZR.told h)) (fun h => zZ4 h (fun h => zZ2 qZV.told h) (fun h => zZ2 qZs.told h))))))) (fun h => zZ4 h (fun h => zZ4 h (fun h => zZ4 h (fun h => zZ4 h (fun h => zZ4 h (fun h => zZ2 qZt.told h) (fun h => zZ4 h (fun h => zZ2 qZu.told h) (fun h => zZ2 qZv.told h))) (fun h => zZ4 h (fun h => zZ2 qZw.told h) (fun h => zZ4 h (fun h => zZ2 qZT.told h) (fun h => zZ2 qZx.told h)))) (fun h => zZ4 h (fun h => zZ4 h (fun h => zZ2 qZy.told h) (fun h => zZ4 h (fun h => zZ2 qZo.told h) (fun h => zZ2 qZe.told h))) (fun h => zZ4 h (fun h => zZ4 h (fun h => zZ2 zZK.told h) (fun h => zZ2 qZz.told h)) (fun h => zZ4 h (fun h => zZ2 zZG.told h) (fun h => zZ2 qZn.told h))))) (fun h => zZ4 h (fun h => zZ4 h (fun h => zZ4 h (fun h => zZ2 qZf.told h) (fun h => zZ4 h (fun h => zZ2 qZa.told h) (fun h => zZ2 qZd.told h))) (fun h => zZ4 h (fun h => zZ2 zZr.told h) (fun h => zZ4 h (fun h => zZ2 qZU.told h) (fun h => zZ2 qZh.told h)))) (fun h => zZ4 h (fun h => zZ4 h (fun h => zZ2 zZA.told h) (fun h => zZ4 h (fun h => zZ2 qZp.told h) (fun h => zZ2 zZD.told h))) (fun h => zZ4 h (fun h => zZ4 h (fun h => zZ2 zZH.told h) (fun h => zZ2 zZE.told h)) (fun h => zZ4 h (fun h => zZ2 zZO.told h) (fun h => zZ2 zZq.told h)))))) (fun h => zZ4 h (fun h => zZ4 h (fun h => zZ4 h (fun h => zZ4 h (fun h => zZ2 zZn.told h) (fun h => zZ4 h (fun h => zZ2 qZO.told h) (fun h => zZ2 qZF.told h))) (fun h => zZ4 h (fun h => zZ2 qZH.told h) (fun h => zZ4 h (fun h => zZ2 qZN.told h) (fun h => zZ2 qZr.told h)))) (fun h => zZ4 h (fun h => zZ4 h (fun h => zZ2 zZd.told h) (fun h => zZ4 h (fun h => zZ2 zZ3.told h) (fun h => zZ2 zZB.told h))) (fun h => zZ4 h (fun h => zZ4 h (fun h => zZ2 (strings_Join.told hG) h) (fun h => zZ2 zZI.told h)) (fun h => zZ4 h (fun h => zZ2 zZV.told h) (fun h => zZ2 zZ8.told h))))) (fun h => zZ4 h (fun h => zZ4 h (fun h => zZ4 h (fun h => zZ2 zZQ.told h) (fun h => zZ4 h (fun h => zZ2 qZm.told h) (fun h => zZ2 zZo.told h))) (fun h => zZ4 h (fun h => zZ2 zZp.told h) (fun h => zZ4 h (fun h => zZ2 zZY.told h) (fun h => zZ2 (wZq.told hG) h)))) (fun h => zZ4 h (fun h => zZ4 h (fun h => zZ2 zZm.told h) (fun h => zZ4 h (fun h => zZ2 qZS.told h) (fun h => zZ2 qZi.told h))) (fun h => zZ4 h (fun h => zZ4 h (fun h => zZ2 qZP.told h) (fun h => zZ2 (qZ2.told hG) h)) (fun h => zZ4 h (fun h => zZ2 zZz.told h) (fun h => zZ2 (qZW.told hG) h)))))))
end Go.Proofs.Sc
