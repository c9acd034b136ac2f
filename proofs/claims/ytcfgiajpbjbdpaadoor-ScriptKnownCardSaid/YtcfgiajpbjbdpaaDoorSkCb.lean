/- PRINTED by cir3.py: the table tells of the program. Conditions: Laid. No conditions. -/
import Derived.Test.YtcfgiajpbjbdpaaDoorSkC
set_option maxHeartbeats 16000000
set_option maxRecDepth 100000
set_option linter.unusedVariables false
set_option linter.unusedSimpArgs false
set_option linter.unusedSectionVars false
namespace Go.Proofs.Sc
open Go Go.Ev
theorem mixed : Tryd.prog.follows .mixedOrders = true := by kernel_rfl
theorem zZb.made : cFunc Tryd.prog zZb.c.pure Tryd.f3 = some zZb.c := by kernel_rfl
theorem zZb.told {G : Glob} : Ev.Told G Tryd.prog 3 zZb.c := zZJ mixed Tryd.func3 (by decide +kernel) zZb.made
theorem zZA.made : cFunc Tryd.prog zZA.c.pure Tryd.f4 = some zZA.c := by kernel_rfl
theorem zZA.told {G : Glob} : Ev.Told G Tryd.prog 4 zZA.c := zZJ mixed Tryd.func4 (by decide +kernel) zZA.made
theorem zZU.made : cFunc Tryd.prog zZU.c.pure Tryd.f5 = some zZU.c := by kernel_rfl
theorem zZU.told {G : Glob} : Ev.Told G Tryd.prog 5 zZU.c := zZJ mixed Tryd.func5 (by decide +kernel) zZU.made
theorem zZg.made : cFunc Tryd.prog zZg.c.pure Tryd.f6 = some zZg.c := by kernel_rfl
theorem zZg.told {G : Glob} : Ev.Told G Tryd.prog 6 zZg.c := zZJ mixed Tryd.func6 (by decide +kernel) zZg.made
theorem zZr.made : cFunc Tryd.prog zZr.c.pure Tryd.f7 = some zZr.c := by kernel_rfl
theorem zZr.told {G : Glob} : Ev.Told G Tryd.prog 7 zZr.c := zZJ mixed Tryd.func7 (by decide +kernel) zZr.made
theorem zZB.made : cFunc Tryd.prog zZB.c.pure Tryd.f8 = some zZB.c := by kernel_rfl
theorem zZB.told {G : Glob} : Ev.Told G Tryd.prog 8 zZB.c := zZJ mixed Tryd.func8 (by decide +kernel) zZB.made
theorem zZw.made : cFunc Tryd.prog zZw.c.pure Tryd.f9 = some zZw.c := by kernel_rfl
theorem zZw.told {G : Glob} : Ev.Told G Tryd.prog 9 zZw.c := zZJ mixed Tryd.func9 (by decide +kernel) zZw.made
theorem zZK.made : cFunc Tryd.prog zZK.c.pure Tryd.f10 = some zZK.c := by kernel_rfl
theorem zZK.told {G : Glob} : Ev.Told G Tryd.prog 10 zZK.c := zZJ mixed Tryd.func10 (by decide +kernel) zZK.made
theorem zZX.made : cFunc Tryd.prog zZX.c.pure Tryd.f11 = some zZX.c := by kernel_rfl
theorem zZX.told {G : Glob} : Ev.Told G Tryd.prog 11 zZX.c := zZJ mixed Tryd.func11 (by decide +kernel) zZX.made
theorem zZ0.made : cFunc Tryd.prog zZ0.c.pure Tryd.f12 = some zZ0.c := by kernel_rfl
theorem zZ0.told {G : Glob} : Ev.Told G Tryd.prog 12 zZ0.c := zZJ mixed Tryd.func12 (by decide +kernel) zZ0.made
theorem zZa.made : cFunc Tryd.prog zZa.c.pure Tryd.f13 = some zZa.c := by kernel_rfl
theorem zZa.told {G : Glob} : Ev.Told G Tryd.prog 13 zZa.c := zZJ mixed Tryd.func13 (by decide +kernel) zZa.made
theorem zZh.made : cFunc Tryd.prog zZh.c.pure Tryd.f14 = some zZh.c := by kernel_rfl
theorem zZh.told {G : Glob} : Ev.Told G Tryd.prog 14 zZh.c := zZJ mixed Tryd.func14 (by decide +kernel) zZh.made
theorem qZd.made : cFunc Tryd.prog qZd.c.pure Tryd.f15 = some qZd.c := by kernel_rfl
theorem qZd.told {G : Glob} : Ev.Told G Tryd.prog 15 qZd.c := zZJ mixed Tryd.func15 (by decide +kernel) qZd.made
theorem zZM.made : cFunc Tryd.prog zZM.c.pure Tryd.f16 = some zZM.c := by kernel_rfl
theorem zZM.told {G : Glob} : Ev.Told G Tryd.prog 16 zZM.c := zZJ mixed Tryd.func16 (by decide +kernel) zZM.made
theorem zZN.made : cFunc Tryd.prog zZN.c.pure Tryd.f17 = some zZN.c := by kernel_rfl
theorem zZN.told {G : Glob} : Ev.Told G Tryd.prog 17 zZN.c := zZJ mixed Tryd.func17 (by decide +kernel) zZN.made
theorem zZO.made : cFunc Tryd.prog zZO.c.pure Tryd.f18 = some zZO.c := by kernel_rfl
theorem zZO.told {G : Glob} : Ev.Told G Tryd.prog 18 zZO.c := zZJ mixed Tryd.func18 (by decide +kernel) zZO.made
theorem zZP.made : cFunc Tryd.prog zZP.c.pure Tryd.f19 = some zZP.c := by kernel_rfl
theorem zZP.told {G : Glob} : Ev.Told G Tryd.prog 19 zZP.c := zZJ mixed Tryd.func19 (by decide +kernel) zZP.made
theorem zZQ.made : cFunc Tryd.prog zZQ.c.pure Tryd.f20 = some zZQ.c := by kernel_rfl
theorem zZQ.told {G : Glob} : Ev.Told G Tryd.prog 20 zZQ.c := zZJ mixed Tryd.func20 (by decide +kernel) zZQ.made
theorem qZb.made : cFunc Tryd.prog qZb.c.pure Tryd.f21 = some qZb.c := by kernel_rfl
theorem qZb.told {G : Glob} : Ev.Told G Tryd.prog 21 qZb.c := zZJ mixed Tryd.func21 (by decide +kernel) qZb.made
theorem zZR.made : cFunc Tryd.prog zZR.c.pure Tryd.f22 = some zZR.c := by kernel_rfl
theorem zZR.told {G : Glob} : Ev.Told G Tryd.prog 22 zZR.c := zZJ mixed Tryd.func22 (by decide +kernel) zZR.made
theorem zZS.made : cFunc Tryd.prog zZS.c.pure Tryd.f23 = some zZS.c := by kernel_rfl
theorem zZS.told {G : Glob} : Ev.Told G Tryd.prog 23 zZS.c := zZJ mixed Tryd.func23 (by decide +kernel) zZS.made
theorem zZI.made : cFunc Tryd.prog zZI.c.pure Tryd.f24 = some zZI.c := by kernel_rfl
theorem zZI.told {G : Glob} : Ev.Told G Tryd.prog 24 zZI.c := zZJ mixed Tryd.func24 (by decide +kernel) zZI.made
theorem zZC.made : cFunc Tryd.prog zZC.c.pure Tryd.f25 = some zZC.c := by kernel_rfl
theorem zZC.told {G : Glob} : Ev.Told G Tryd.prog 25 zZC.c := zZJ mixed Tryd.func25 (by decide +kernel) zZC.made
theorem zZp.made : cFunc Tryd.prog zZp.c.pure Tryd.f26 = some zZp.c := by kernel_rfl
theorem zZp.told {G : Glob} : Ev.Told G Tryd.prog 26 zZp.c := zZJ mixed Tryd.func26 (by decide +kernel) zZp.made
theorem zZT.made : cFunc Tryd.prog zZT.c.pure Tryd.f27 = some zZT.c := by kernel_rfl
theorem zZT.told {G : Glob} : Ev.Told G Tryd.prog 27 zZT.c := zZJ mixed Tryd.func27 (by decide +kernel) zZT.made
theorem zZn.made : cFunc Tryd.prog zZn.c.pure Tryd.f28 = some zZn.c := by kernel_rfl
theorem zZn.told {G : Glob} : Ev.Told G Tryd.prog 28 zZn.c := zZJ mixed Tryd.func28 (by decide +kernel) zZn.made
theorem zZH.made : cFunc Tryd.prog zZH.c.pure Tryd.f29 = some zZH.c := by kernel_rfl
theorem zZH.told {G : Glob} : Ev.Told G Tryd.prog 29 zZH.c := zZJ mixed Tryd.func29 (by decide +kernel) zZH.made
theorem zZD.made : cFunc Tryd.prog zZD.c.pure Tryd.f30 = some zZD.c := by kernel_rfl
theorem zZD.told {G : Glob} : Ev.Told G Tryd.prog 30 zZD.c := zZJ mixed Tryd.func30 (by decide +kernel) zZD.made
theorem zZz.made : cFunc Tryd.prog zZz.c.pure Tryd.f31 = some zZz.c := by kernel_rfl
theorem zZz.told {G : Glob} : Ev.Told G Tryd.prog 31 zZz.c := zZJ mixed Tryd.func31 (by decide +kernel) zZz.made
theorem zZm.made : cFunc Tryd.prog zZm.c.pure Tryd.f32 = some zZm.c := by kernel_rfl
theorem zZm.told {G : Glob} : Ev.Told G Tryd.prog 32 zZm.c := zZJ mixed Tryd.func32 (by decide +kernel) zZm.made
theorem zZE.made : cFunc Tryd.prog zZE.c.pure Tryd.f33 = some zZE.c := by kernel_rfl
theorem zZE.told {G : Glob} : Ev.Told G Tryd.prog 33 zZE.c := zZJ mixed Tryd.func33 (by decide +kernel) zZE.made
theorem zZv.made : cFunc Tryd.prog zZv.c.pure Tryd.f34 = some zZv.c := by kernel_rfl
theorem zZv.told {G : Glob} : Ev.Told G Tryd.prog 34 zZv.c := zZJ mixed Tryd.func34 (by decide +kernel) zZv.made
theorem zZf.made : cFunc Tryd.prog zZf.c.pure Tryd.f35 = some zZf.c := by kernel_rfl
theorem zZf.told {G : Glob} : Ev.Told G Tryd.prog 35 zZf.c := zZJ mixed Tryd.func35 (by decide +kernel) zZf.made
theorem zZd.made : cFunc Tryd.prog zZd.c.pure Tryd.f36 = some zZd.c := by kernel_rfl
theorem zZd.told {G : Glob} : Ev.Told G Tryd.prog 36 zZd.c := zZJ mixed Tryd.func36 (by decide +kernel) zZd.made
theorem qZc.made : cFunc Tryd.prog qZc.c.pure Tryd.f37 = some qZc.c := by kernel_rfl
theorem qZc.told {G : Glob} : Ev.Told G Tryd.prog 37 qZc.c := zZJ mixed Tryd.func37 (by decide +kernel) qZc.made
theorem zZ6.made : cFunc Tryd.prog zZ6.c.pure Tryd.f38 = some zZ6.c := by kernel_rfl
theorem zZ6.told {G : Glob} : Ev.Told G Tryd.prog 38 zZ6.c := zZJ mixed Tryd.func38 (by decide +kernel) zZ6.made
theorem strconv_Itoa.told {G : Glob} (hG : Laid G) : Ev.Told G Tryd.prog 39 (primF1 .itoa) := ⟨Tryd.f39, _, Tryd.func39, by decide +kernel, rfl, itoa_told hG⟩
theorem zZZ.made : cFunc Tryd.prog zZZ.c.pure Tryd.f40 = some zZZ.c := by kernel_rfl
theorem zZZ.told {G : Glob} : Ev.Told G Tryd.prog 40 zZZ.c := zZJ mixed Tryd.func40 (by decide +kernel) zZZ.made
theorem zZ1.made : cFunc Tryd.prog zZ1.c.pure Tryd.f41 = some zZ1.c := by kernel_rfl
theorem zZ1.told {G : Glob} : Ev.Told G Tryd.prog 41 zZ1.c := zZJ mixed Tryd.func41 (by decide +kernel) zZ1.made
theorem zZ5.made : cFunc Tryd.prog zZ5.c.pure Tryd.f42 = some zZ5.c := by kernel_rfl
theorem zZ5.told {G : Glob} : Ev.Told G Tryd.prog 42 zZ5.c := zZJ mixed Tryd.func42 (by decide +kernel) zZ5.made
theorem zZL.made : cFunc Tryd.prog zZL.c.pure Tryd.f43 = some zZL.c := by kernel_rfl
theorem zZL.told {G : Glob} : Ev.Told G Tryd.prog 43 zZL.c := zZJ mixed Tryd.func43 (by decide +kernel) zZL.made
theorem zZc.made : cFunc Tryd.prog zZc.c.pure Tryd.f44 = some zZc.c := by kernel_rfl
theorem zZc.told {G : Glob} : Ev.Told G Tryd.prog 44 zZc.c := zZJ mixed Tryd.func44 (by decide +kernel) zZc.made
theorem zZu.made : cFunc Tryd.prog zZu.c.pure Tryd.f45 = some zZu.c := by kernel_rfl
theorem zZu.told {G : Glob} : Ev.Told G Tryd.prog 45 zZu.c := zZJ mixed Tryd.func45 (by decide +kernel) zZu.made
theorem zZl.made : cFunc Tryd.prog zZl.c.pure Tryd.f46 = some zZl.c := by kernel_rfl
theorem zZl.told {G : Glob} : Ev.Told G Tryd.prog 46 zZl.c := zZJ mixed Tryd.func46 (by decide +kernel) zZl.made
theorem strings_Join.told {G : Glob} (hG : Laid G) : Ev.Told G Tryd.prog 47 (primF2 .join) := ⟨Tryd.f47, _, Tryd.func47, by decide +kernel, rfl, join_told hG⟩
theorem zZo.made : cFunc Tryd.prog zZo.c.pure Tryd.f48 = some zZo.c := by kernel_rfl
theorem zZo.told {G : Glob} : Ev.Told G Tryd.prog 48 zZo.c := zZJ mixed Tryd.func48 (by decide +kernel) zZo.made
theorem zZx.made : cFunc Tryd.prog zZx.c.pure Tryd.f49 = some zZx.c := by kernel_rfl
theorem zZx.told {G : Glob} : Ev.Told G Tryd.prog 49 zZx.c := zZJ mixed Tryd.func49 (by decide +kernel) zZx.made
theorem zZy.made : cFunc Tryd.prog zZy.c.pure Tryd.f50 = some zZy.c := by kernel_rfl
theorem zZy.told {G : Glob} : Ev.Told G Tryd.prog 50 zZy.c := zZJ mixed Tryd.func50 (by decide +kernel) zZy.made
theorem zZt.made : cFunc Tryd.prog zZt.c.pure Tryd.f51 = some zZt.c := by kernel_rfl
theorem zZt.told {G : Glob} : Ev.Told G Tryd.prog 51 zZt.c := zZJ mixed Tryd.func51 (by decide +kernel) zZt.made
theorem zZe.made : cFunc Tryd.prog zZe.c.pure Tryd.f52 = some zZe.c := by kernel_rfl
theorem zZe.told {G : Glob} : Ev.Told G Tryd.prog 52 zZe.c := zZJ mixed Tryd.func52 (by decide +kernel) zZe.made
theorem vZr.told {G : Glob} (hG : Laid G) : Ev.Told G Tryd.prog 53 (primF1 (.atoi 109)) := ⟨Tryd.f53, _, Tryd.func53, by decide +kernel, rfl, atoi_told hG⟩
theorem zZi.made : cFunc Tryd.prog zZi.c.pure Tryd.f54 = some zZi.c := by kernel_rfl
theorem zZi.told {G : Glob} : Ev.Told G Tryd.prog 54 zZi.c := zZJ mixed Tryd.func54 (by decide +kernel) zZi.made
theorem zZj.made : cFunc Tryd.prog zZj.c.pure Tryd.f55 = some zZj.c := by kernel_rfl
theorem zZj.told {G : Glob} : Ev.Told G Tryd.prog 55 zZj.c := zZJ mixed Tryd.func55 (by decide +kernel) zZj.made
theorem qZa.made : cFunc Tryd.prog qZa.c.pure Tryd.f57 = some qZa.c := by kernel_rfl
theorem qZa.told {G : Glob} : Ev.Told G Tryd.prog 57 qZa.c := zZJ mixed Tryd.func57 (by decide +kernel) qZa.made
theorem zZF.made : cFunc Tryd.prog zZF.c.pure Tryd.f58 = some zZF.c := by kernel_rfl
theorem zZF.told {G : Glob} : Ev.Told G Tryd.prog 58 zZF.c := zZJ mixed Tryd.func58 (by decide +kernel) zZF.made
theorem zZ7.made : cFunc Tryd.prog zZ7.c.pure Tryd.f59 = some zZ7.c := by kernel_rfl
theorem zZ7.told {G : Glob} : Ev.Told G Tryd.prog 59 zZ7.c := zZJ mixed Tryd.func59 (by decide +kernel) zZ7.made
theorem zZk.made : cFunc Tryd.prog zZk.c.pure Tryd.f63 = some zZk.c := by kernel_rfl
theorem zZk.told {G : Glob} : Ev.Told G Tryd.prog 63 zZk.c := zZJ mixed Tryd.func63 (by decide +kernel) zZk.made
theorem qZj.told {G : Glob} (hG : Laid G) : Ev.Told G Tryd.prog 66 (primF2 .sidx) := ⟨Tryd.f66, _, Tryd.func66, by decide +kernel, rfl, sidx_told hG⟩
theorem qZe.told {G : Glob} (hG : Laid G) : Ev.Told G Tryd.prog 68 (primF2 .sbyte) := ⟨Tryd.f68, _, Tryd.func68, by decide +kernel, rfl, sbyte_told hG⟩
theorem zZW {G : Glob} {f k : Nat} {c cf : Cf} (hr : Ev.Told G Tryd.prog k c) (h : (if f = k then some c else none) = some cf) : Ev.Told G Tryd.prog f cf := by
 split at h
 ·rename_i e; subst e; cases h; exact hr
 ·cases h
theorem zZY {G : Glob} {f m : Nat} {a b : Option Cf} {cf : Cf} (h : (if f < m then a else b) = some cf) (ha : a = some cf → Ev.Told G Tryd.prog f cf) (hb : b = some cf → Ev.Told G Tryd.prog f cf) : Ev.Told G Tryd.prog f cf := by
 split at h
 ·exact ha h
 ·exact hb h
theorem tells {G : Glob} (hG : Laid G) : Tells G Tryd.prog Φ := fun f cf h => zZY h (fun h => zZY h (fun h => zZY h (fun h => zZY h (fun h => zZY h (fun h => zZW zZb.told h) (fun h => zZY h (fun h => zZW zZA.told h) (fun h => zZW zZU.told h))) (fun h => zZY h (fun h => zZY h (fun h => zZW zZg.told h) (fun h => zZW zZr.told h)) (fun h => zZY h (fun h => zZW zZB.told h) (fun h => zZW zZw.told h)))) (fun h => zZY h (fun h => zZY h (fun h => zZW zZK.told h) (fun h => zZY h (fun h => zZW zZX.told h) (fun h => zZW zZ0.told h))) (fun h => zZY h (fun h => zZY h (fun h => zZW zZa.told h) (fun h => zZW zZh.told h)) (fun h => zZY h (fun h => zZW qZd.told h) (fun h => zZW zZM.told h))))) (fun h => zZY h (fun h => zZY h (fun h => zZY h (fun h => zZW zZN.told h) (fun h => zZY h (fun h => zZW zZO.told h) (fun h => zZW zZP.told h))) (fun h => zZY h (fun h => zZY h (fun h => zZW zZQ.told h) (fun h => zZW qZb.told h)) (fun h => zZY h (fun h => zZW zZR.told h) (fun h => zZW zZS.told h)))) (fun h => zZY h (fun h => zZY h (fun h => zZY h (fun h => zZW zZI.told h) (fun h => zZW zZC.told h)) (fun h => zZY h (fun h => zZW zZp.told h) (fun h => zZW zZT.told h))) (fun h => zZY h (fun h => zZY h (fun h => zZW zZn.told h) (fun h => zZW zZH.told h)) (fun h => zZY h (fun h => zZW zZD.told h) (fun h => zZW zZz.told h)))))) (fun h => zZY h (fun h => zZY h (fun h => zZY h (fun h => zZY h (fun h => zZW zZm.told h) (fun h => zZY h (fun h => zZW zZE.told h) (fun h => zZW zZv.told h))) (fun h => zZY h (fun h => zZY h (fun h => zZW zZf.told h) (fun h => zZW zZd.told h)) (fun h => zZY h (fun h => zZW qZc.told h) (fun h => zZW zZ6.told h)))) (fun h => zZY h (fun h => zZY h (fun h => zZY h (fun h => zZW (strconv_Itoa.told hG) h) (fun h => zZW zZZ.told h)) (fun h => zZY h (fun h => zZW zZ1.told h) (fun h => zZW zZ5.told h))) (fun h => zZY h (fun h => zZY h (fun h => zZW zZL.told h) (fun h => zZW zZc.told h)) (fun h => zZY h (fun h => zZW zZu.told h) (fun h => zZW zZl.told h))))) (fun h => zZY h (fun h => zZY h (fun h => zZY h (fun h => zZW (strings_Join.told hG) h) (fun h => zZY h (fun h => zZW zZo.told h) (fun h => zZW zZx.told h))) (fun h => zZY h (fun h => zZY h (fun h => zZW zZy.told h) (fun h => zZW zZt.told h)) (fun h => zZY h (fun h => zZW zZe.told h) (fun h => zZW (vZr.told hG) h)))) (fun h => zZY h (fun h => zZY h (fun h => zZY h (fun h => zZW zZi.told h) (fun h => zZW zZj.told h)) (fun h => zZY h (fun h => zZW qZa.told h) (fun h => zZW zZF.told h))) (fun h => zZY h (fun h => zZY h (fun h => zZW zZ7.told h) (fun h => zZW zZk.told h)) (fun h => zZY h (fun h => zZW (qZj.told hG) h) (fun h => zZW (qZe.told hG) h))))))
end Go.Proofs.Sc
