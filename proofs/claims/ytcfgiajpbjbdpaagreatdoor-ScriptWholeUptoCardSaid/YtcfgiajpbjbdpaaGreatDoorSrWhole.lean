/- ScriptWholeUpto: true, whatever is handed in, of bulk at most 1048576, and the input reads behind it as it did; the listed variables tied to the program's text. No conditions. -/
import Derived.Test.YtcfgiajpbjbdpaaGreatDoorScZi
import Derived.Test.YtcfgiajpbjbdpaaGreatDoorScN
import Derived.Test.YtcfgiajpbjbdpaaGreatDoorScCb
set_option maxHeartbeats 16000000
set_option maxRecDepth 100000
set_option linter.unusedVariables false
set_option linter.unusedSimpArgs false
set_option linter.unusedSectionVars false
namespace Go.Proofs.Sc
open Go Go.Ev Go.ChangeShapes Go.WideShapes Go.ChangeAt Go.RowKit
theorem zYbf (H : Type) (enc : TypeId × Value → H) (W : World) (base : Nat) (args : Array Value) (ds gs : List (DataW H)) (before : List MemPlace)
  (hval0 : ∀ (j : Nat) t v, Tryz.f8.params[j]? = some t → args[j]? = some v → Value.okWide Tryz.prog W .any base t v)
  (hW : DataW.Whole enc Tryz.prog Tryz.f8.params.toList YtcfgiajpbjbdpaaGreatDoor.Rows.scriptWholeSpec.vars false W args.toList ds gs before) (hbk : YtcfgiajpbjbdpaaGreatDoor.Rows.uptoBulkAll (ds ++ gs) ≤ 1048576) (hsz0 : (DataW.weightsEach Tryz.prog (Tryz.f8.params.toList ++ YtcfgiajpbjbdpaaGreatDoor.Rows.scriptWholeSpec.plain.varTypes Tryz.prog) (ds ++ gs)).all (· ≤ reachBytes) = true) (hL : laidMetH Tryz.prog YtcfgiajpbjbdpaaGreatDoor.Rows.scriptWholeUptoRow.laid W) :
  Calls Tryz.prog 8 args W fun e W' => ∃ v, e = .returned v ∧ YtcfgiajpbjbdpaaGreatDoor.Rows.scriptWholeSpec.post enc Tryz.prog Tryz.f8 false true false false W args v W' := by
 have hG : Laid W := laid_of hL
 have hsz : (DataW.weightsEach Tryz.prog (Tryz.f8.params.toList ++ YtcfgiajpbjbdpaaGreatDoor.Rows.scriptWholeSpec.plain.varTypes Tryz.prog) (ds ++ gs)).all (· ≤ reachBytes) = true := hsz0
 have hval : ∀ (j : Nat) t v, Tryz.f8.params[j]? = some t → args[j]? = some v → Value.okWide Tryz.prog W .any base t v := hval0
 have hW' := hW
 obtain ⟨p, q, hA0, hV, rfl, hfz, hnd⟩ := hW
 have hA : DataW.TrodAll enc Tryz.prog W 0 (fun _ => true) true Tryz.f8.params.toList args.toList ds p := hA0
 rw [Tryz.params8] at hA hval hsz
 obtain ⟨v0, vs0, d0, ds0, p0, q0, hargs, rfl, rfl, h0, r0⟩ := trodAll_cons hA
 obtain ⟨v1, vs1, d1, ds1, p1, q1, rfl, rfl, rfl, h1, r1⟩ := trodAll_cons r0
 obtain ⟨rfl, rfl, rfl⟩ := trodAll_nil r1
 obtain rfl : args = #[v0, v1] := by cases args; simp_all
 obtain ⟨rfl, rfl⟩ := trodVars_none hV
 have lt0 : ∀ x ∈ p0, x.block < W.heap.size := by obtain ⟨m, hm⟩ := h0; exact DataW.trod_lt m _ _ _ hm
 obtain ⟨rv0, t0⟩ := trod_arg (dep := 6) (by kernel_rfl) h0 (hval 0 tScr v0 rfl rfl)
 obtain ⟨x0, e0, ⟨z0, k0⟩, u0⟩ := r_scr (k := 0) d0 t0 (wt_at hsz (j := 0) (t := tScr) rfl rfl)
 rw [dT_scr e0] at rv0
 have lt1 : ∀ x ∈ p1, x.block < W.heap.size := by obtain ⟨m, hm⟩ := h1; exact DataW.trod_lt m _ _ _ hm
 obtain ⟨rv1, t1⟩ := trod_arg (dep := 1) (by kernel_rfl) h1 (hval 1 tStr v1 rfl rfl)
 obtain ⟨x1, e1, u1⟩ := r_str uStr t1
 rw [dT_str e1] at rv1
 have hbk2 := hbk
 simp only [List.append_nil, YtcfgiajpbjbdpaaGreatDoor.Rows.uptoBulkAll] at hbk2
 unfold ub at u0 u1
 have hc := zYbm x0 x1 (scr_sz z0 k0 (by omega)) (by omega) []
 clear hA0 hval0 hsz0
 have hrr : RL (Sall W) W noK [eScr x0, T x1] (#[v0, v1] : Array Value).toList := by
  simp only [RL]
  exact ⟨rv0, rv1, trivial⟩
 refine (kZv mixed (tells hG) hc hrr).mono fun e W' ⟨v, S', κ', he, bel, hv⟩ => ?_
 ·subst he
  have hvb : v = .bool true := by simpa [RV] using hv
  subst hvb
  exact ⟨_, rfl, _, _, _, [], _, [], hW', trodAll_mk1 (shut_bool (by kernel_rfl) _), (trodAll_cons_mk (Below.trod laidOut (by kernel_rfl) (of_decide_eq_true (by kernel_rfl)) h0 bel lt0) (trodAll_cons_mk (Below.trod laidOut (by kernel_rfl) (of_decide_eq_true (by kernel_rfl)) h1 bel lt1) trodAll_mk0)), rfl, bel.frame _, fun h => by cases h⟩
theorem zYbp (os : Os) {H : Type} (enc : TypeId × Value → H) : ∃ places, DataW.whole enc Tryz.prog ((laidWorld os).forCall (fun _ _ => 0) ⟨#[], #[.agg #[.slice none 0 0, .slice none 0 0, .int .i64 0], .string ⟨#[]⟩], []⟩).memory Tryz.f8.params.toList YtcfgiajpbjbdpaaGreatDoor.Rows.scriptWholeSpec.vars false (#[.agg #[.slice none 0 0, .slice none 0 0, .int .i64 0], .string ⟨#[]⟩] : Array Value).toList 8 = some ([.agg [.nil, .nil, .lit (.int .i64 0)], .lit (.string [])], [], places) :=
 ⟨[], by kernel_rfl⟩
theorem zYbn (os : Os) (started : os.Started) (H : Type) (enc : TypeId × Value → H) (F : Stop.Interp) :
  ReturnsInHanded {} Tryz.checked os 8 .any ((YtcfgiajpbjbdpaaGreatDoor.Rows.OpenSpec.upto YtcfgiajpbjbdpaaGreatDoor.Rows.scriptWholeSpec).preRow enc Tryz.prog Tryz.f8 YtcfgiajpbjbdpaaGreatDoor.Rows.scriptWholeUptoRow.domain false YtcfgiajpbjbdpaaGreatDoor.Rows.scriptWholeUptoRow.laid) (((YtcfgiajpbjbdpaaGreatDoor.Rows.OpenSpec.upto YtcfgiajpbjbdpaaGreatDoor.Rows.scriptWholeSpec).at F).post enc Tryz.prog Tryz.f8 false true false false) := by
 obtain ⟨places, hx⟩ := zYbp os enc
 refine returnsInHanded_of_row (C := Tryz.checked) (s := (YtcfgiajpbjbdpaaGreatDoor.Rows.OpenSpec.upto YtcfgiajpbjbdpaaGreatDoor.Rows.scriptWholeSpec)) ownKnob_none started (by kernel_rfl) Tryz.func8
  (witness_row_at (enc := enc) (C := Tryz.checked) false (laidWorld os) #[.agg #[.slice none 0 0, .slice none 0 0, .int .i64 0], .string ⟨#[]⟩] rfl (by kernel_rfl) (by kernel_rfl) (by kernel_rfl)
   (OpenSpec.preRow_of_cond 8 hx (by kernel_rfl) (fun k hk => by cases hk; kernel_rfl) (by kernel_rfl) (laid_met os _))) ?_
 intro W base args ds gs before hval hW _ hcond hsz hL _ _
 exact zYbf H enc W base args ds gs before hval hW (of_decide_eq_true (hcond _ rfl)) hsz hL
theorem zYbr : YtcfgiajpbjbdpaaGreatDoor.Rows.ScriptWholeUptoSaid :=
 OpenClaim.holds_of_cond 8 Tryz.f8 rfl rfl rfl rfl rfl rfl rfl ⟨rfl, rfl, rfl, rfl, rfl⟩ rfl rfl rfl rfl rfl (by kernel_rfl) Tryz.func8 (by kernel_rfl)
  (of_decide_eq_true (by kernel_rfl)) (by unfold Func.isWrapper; first | (rw [if_pos (by decide +kernel)]; kernel_rfl) | (rw [if_neg (by decide +kernel)]; exact ⟨rfl, rfl⟩))
  (fun os started H enc _ F => by rw [OpenClaim.pre_eq_preRow]; exact zYbn os started H enc F)
theorem zYbo (f : FuncId) (fn : Func) (hf : YtcfgiajpbjbdpaaGreatDoor.Tryz.pinned.checked.prog.funcNamed "canopy/canopylaw28.ScriptWhole" = some f) (hfn : YtcfgiajpbjbdpaaGreatDoor.Tryz.pinned.checked.prog.funcs[f]? = some fn) :
  true = YtcfgiajpbjbdpaaGreatDoor.Tryz.pinned.checked.prog.looks [] ∧ ∀ (j : Nat) t, fn.params[j]? = some t → YtcfgiajpbjbdpaaGreatDoor.Tryz.pinned.checked.prog.wantsStandIn t = false := by
 obtain rfl : f = 8 := Option.some.inj ((show Tryz.prog.funcNamed "canopy/canopylaw28.ScriptWhole" = some 8 by kernel_rfl).symm.trans hf) |>.symm
 obtain rfl : fn = Tryz.f8 := (Option.some.inj (Tryz.func8.symm.trans hfn)).symm
 refine ⟨by kernel_rfl, fun j t ht => ?_⟩
 rw [Tryz.params8] at ht
 have hm := Array.mem_of_getElem? ht
 simp only [List.mem_toArray, List.mem_cons, List.not_mem_nil, or_false] at hm
 rcases hm with rfl | rfl
 ·exact (show Tryz.prog.wantsStandIn tScr = false by kernel_rfl)
 ·exact (show Tryz.prog.wantsStandIn tStr = false by kernel_rfl)
theorem scriptWholeUpto_card : YtcfgiajpbjbdpaaGreatDoor.Rows.ScriptWholeUptoCardSaid :=
 Claim7.holds_tied_plain_at .later [] _ _ _ _ zYbr (fun _ h => by cases h) (by kernel_rfl) (fun _ h => by cases h) YtcfgiajpbjbdpaaGreatDoor.scriptWholeUpto_row_tie rfl ⟨rfl, rfl⟩ (by kernel_rfl) rfl zYbo (by kernel_rfl)
end Go.Proofs.Sc
namespace Go.Proofs.YtcfgiajpbjbdpaaGreatDoor
theorem scriptWholeUpto_holds : Rows.ScriptWholeUptoCardSaid := Sc.scriptWholeUpto_card
end Go.Proofs.YtcfgiajpbjbdpaaGreatDoor
