/- ScriptKnown: true, whatever is handed in, and the input reads behind it as it did; the listed variables tied to the program's text. No conditions. -/
import Derived.Test.YtcfgiajpbjbdpaaDoorSkD
import Derived.Test.YtcfgiajpbjbdpaaDoorSkN
import Derived.Test.YtcfgiajpbjbdpaaDoorSkCb
set_option maxHeartbeats 16000000
set_option maxRecDepth 100000
set_option linter.unusedVariables false
set_option linter.unusedSimpArgs false
set_option linter.unusedSectionVars false
namespace Go.Proofs.Sc
open Go Go.Ev Go.ChangeShapes Go.WideShapes Go.ChangeAt Go.RowKit
theorem vZC (H : Type) (enc : TypeId × Value → H) (W : World) (base : Nat) (args : Array Value) (ds gs : List (DataW H)) (before : List MemPlace)
  (hval0 : ∀ (j : Nat) t v, Tryd.f3.params[j]? = some t → args[j]? = some v → Value.okWide Tryd.prog W .any base t v)
  (hW : DataW.Whole enc Tryd.prog Tryd.f3.params.toList YtcfgiajpbjbdpaaDoor.Rows.scriptKnownSpec.vars false W args.toList ds gs before) (hsz0 : (DataW.weightsEach Tryd.prog (Tryd.f3.params.toList ++ YtcfgiajpbjbdpaaDoor.Rows.scriptKnownSpec.plain.varTypes Tryd.prog) (ds ++ gs)).all (· ≤ reachBytes) = true) (hL : laidMetH Tryd.prog YtcfgiajpbjbdpaaDoor.Rows.scriptKnownRow.laid W) :
  Calls Tryd.prog 3 args W fun e W' => ∃ v, e = .returned v ∧ YtcfgiajpbjbdpaaDoor.Rows.scriptKnownSpec.post enc Tryd.prog Tryd.f3 false true false false W args v W' := by
 have hG : Laid W := laid_of hL
 have hsz : (DataW.weightsEach Tryd.prog (Tryd.f3.params.toList ++ YtcfgiajpbjbdpaaDoor.Rows.scriptKnownSpec.plain.varTypes Tryd.prog) (ds ++ gs)).all (· ≤ reachBytes) = true := hsz0
 have hval : ∀ (j : Nat) t v, Tryd.f3.params[j]? = some t → args[j]? = some v → Value.okWide Tryd.prog W .any base t v := hval0
 have hW' := hW
 obtain ⟨p, q, hA0, hV, rfl, hfz, hnd⟩ := hW
 have hA : DataW.TrodAll enc Tryd.prog W 0 (fun _ => true) true Tryd.f3.params.toList args.toList ds p := hA0
 rw [Tryd.params3] at hA hval hsz
 obtain ⟨v0, vs0, d0, ds0, p0, q0, hargs, rfl, rfl, h0, r0⟩ := trodAll_cons hA
 obtain ⟨v1, vs1, d1, ds1, p1, q1, rfl, rfl, rfl, h1, r1⟩ := trodAll_cons r0
 obtain ⟨rfl, rfl, rfl⟩ := trodAll_nil r1
 obtain rfl : args = #[v0, v1] := by cases args; simp_all
 obtain ⟨rfl, rfl⟩ := trodVars_none hV
 have lt0 : ∀ x ∈ p0, x.block < W.heap.size := by obtain ⟨m, hm⟩ := h0; exact DataW.trod_lt m _ _ _ hm
 obtain ⟨rv0, t0⟩ := trod_arg (dep := 1) (by kernel_rfl) h0 (hval 0 tOp v0 rfl rfl)
 obtain ⟨x0, e0, z0, u0⟩ := r_op uOp t0
 rw [dT_op e0] at rv0
 have lt1 : ∀ x ∈ p1, x.block < W.heap.size := by obtain ⟨m, hm⟩ := h1; exact DataW.trod_lt m _ _ _ hm
 obtain ⟨rv1, t1⟩ := trod_arg (dep := 1) (by kernel_rfl) h1 (hval 1 tOp v1 rfl rfl)
 obtain ⟨x1, e1, z1, u1⟩ := r_op uOp t1
 rw [dT_op e1] at rv1
 have hc := vZi x0 x1 z0 z1 []
 clear hA0 hval0 hsz0
 have hrr : RL (Sall W) W noK [.int .u8 x0, .int .u8 x1] (#[v0, v1] : Array Value).toList := by
  simp only [RL]
  exact ⟨rv0, rv1, trivial⟩
 refine (jZi mixed (tells hG) hc hrr).mono fun e W' ⟨v, S', κ', he, bel, hv⟩ => ?_
 ·subst he
  have hvb : v = .bool true := by simpa [RV] using hv
  subst hvb
  exact ⟨_, rfl, _, _, _, [], _, [], hW', trodAll_mk1 (shut_bool (by kernel_rfl) _), (trodAll_cons_mk (Below.trod laidOut (by kernel_rfl) (of_decide_eq_true (by kernel_rfl)) h0 bel lt0) (trodAll_cons_mk (Below.trod laidOut (by kernel_rfl) (of_decide_eq_true (by kernel_rfl)) h1 bel lt1) trodAll_mk0)), rfl, bel.frame _, fun h => by cases h⟩
theorem wZj (os : Os) {H : Type} (enc : TypeId × Value → H) : ∃ places, DataW.whole enc Tryd.prog ((laidWorld os).forCall (fun _ _ => 0) ⟨#[], #[.int .u8 0, .int .u8 0], []⟩).memory Tryd.f3.params.toList YtcfgiajpbjbdpaaDoor.Rows.scriptKnownSpec.vars false (#[.int .u8 0, .int .u8 0] : Array Value).toList 8 = some ([.lit (.int .u8 0), .lit (.int .u8 0)], [], places) :=
 ⟨[], by kernel_rfl⟩
theorem vZX (os : Os) (started : os.Started) (H : Type) (enc : TypeId × Value → H) (F : Stop.Interp) :
  ReturnsInHanded {} Tryd.checked os 3 .any ((OpenSpec.ofChange YtcfgiajpbjbdpaaDoor.Rows.scriptKnownSpec).preRow enc Tryd.prog Tryd.f3 YtcfgiajpbjbdpaaDoor.Rows.scriptKnownRow.domain false YtcfgiajpbjbdpaaDoor.Rows.scriptKnownRow.laid) (((OpenSpec.ofChange YtcfgiajpbjbdpaaDoor.Rows.scriptKnownSpec).at F).post enc Tryd.prog Tryd.f3 false true false false) := by
 obtain ⟨places, hx⟩ := wZj os enc
 refine returnsInHanded_of_row (C := Tryd.checked) (s := (OpenSpec.ofChange YtcfgiajpbjbdpaaDoor.Rows.scriptKnownSpec)) ownKnob_none started (by kernel_rfl) Tryd.func3
  (witness_row_at (enc := enc) (C := Tryd.checked) false (laidWorld os) #[.int .u8 0, .int .u8 0] rfl (by kernel_rfl) (by kernel_rfl) (by kernel_rfl)
   (OpenSpec.preRow_of_cond 8 hx (by kernel_rfl) (fun k hk => by cases hk) (by kernel_rfl) (laid_met os _))) ?_
 intro W base args ds gs before hval hW _ hcond hsz hL _ _
 exact vZC H enc W base args ds gs before hval hW hsz hL
theorem wZy : YtcfgiajpbjbdpaaDoor.Rows.ScriptKnownSaid :=
 OpenClaim.holds_of_cond 3 Tryd.f3 rfl rfl rfl rfl rfl rfl rfl ⟨rfl, rfl, rfl, rfl, rfl⟩ rfl rfl rfl rfl rfl (by kernel_rfl) Tryd.func3 (by kernel_rfl)
  (of_decide_eq_true (by kernel_rfl)) (by unfold Func.isWrapper; first | (rw [if_pos (by decide +kernel)]; kernel_rfl) | (rw [if_neg (by decide +kernel)]; exact ⟨rfl, rfl⟩))
  (fun os started H enc _ F => by rw [OpenClaim.pre_eq_preRow]; exact vZX os started H enc F)
theorem wZi (f : FuncId) (fn : Func) (hf : YtcfgiajpbjbdpaaDoor.Tryd.pinned.checked.prog.funcNamed "canopy/canopylaw28.ScriptKnown" = some f) (hfn : YtcfgiajpbjbdpaaDoor.Tryd.pinned.checked.prog.funcs[f]? = some fn) :
  true = YtcfgiajpbjbdpaaDoor.Tryd.pinned.checked.prog.looks [] ∧ ∀ (j : Nat) t, fn.params[j]? = some t → YtcfgiajpbjbdpaaDoor.Tryd.pinned.checked.prog.wantsStandIn t = false := by
 obtain rfl : f = 3 := Option.some.inj ((show Tryd.prog.funcNamed "canopy/canopylaw28.ScriptKnown" = some 3 by kernel_rfl).symm.trans hf) |>.symm
 obtain rfl : fn = Tryd.f3 := (Option.some.inj (Tryd.func3.symm.trans hfn)).symm
 refine ⟨by kernel_rfl, fun j t ht => ?_⟩
 rw [Tryd.params3] at ht
 have hm := Array.mem_of_getElem? ht
 simp only [List.mem_toArray, List.mem_cons, List.not_mem_nil, or_false] at hm
 rcases hm with rfl | rfl
 ·exact (show Tryd.prog.wantsStandIn tOp = false by kernel_rfl)
 ·exact (show Tryd.prog.wantsStandIn tOp = false by kernel_rfl)
theorem scriptKnown_card : YtcfgiajpbjbdpaaDoor.Rows.ScriptKnownCardSaid :=
 Claim7.holds_tied_plain_at .later [] _ _ _ _ wZy (fun _ h => by cases h) (by kernel_rfl) (fun _ h => by cases h) YtcfgiajpbjbdpaaDoor.scriptKnown_row_tie rfl ⟨rfl, rfl⟩ (by kernel_rfl) rfl wZi (by kernel_rfl)
end Go.Proofs.Sc
namespace Go.Proofs.YtcfgiajpbjbdpaaDoor
theorem scriptKnown_holds : Rows.ScriptKnownCardSaid := Sc.scriptKnown_card
end Go.Proofs.YtcfgiajpbjbdpaaDoor
