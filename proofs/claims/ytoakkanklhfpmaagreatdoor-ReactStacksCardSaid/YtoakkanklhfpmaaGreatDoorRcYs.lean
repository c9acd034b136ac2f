/- ReactStacks: true, whatever is handed in, and the input reads behind it as it did; the listed variables tied to the program's text. No conditions. -/
import Derived.Test.YtoakkanklhfpmaaGreatDoorRcSe
import Derived.Test.YtoakkanklhfpmaaGreatDoorRcWt
import Derived.Test.YtoakkanklhfpmaaGreatDoorRcCb
set_option maxHeartbeats 16000000
set_option maxRecDepth 100000
set_option linter.unusedVariables false
set_option linter.unusedSimpArgs false
set_option linter.unusedSectionVars false
namespace Go.Proofs.Rc
open Go Go.Ev Go.ChangeShapes Go.WideShapes Go.ChangeAt Go.RowKit
theorem xZ0 (H : Type) (enc : TypeId × Value → H) (W : World) (base : Nat) (args : Array Value) (ds gs : List (DataW H)) (before : List MemPlace)
  (hval0 : ∀ (j : Nat) t v, Tryz.f3.params[j]? = some t → args[j]? = some v → Value.okWide Tryz.prog W .any base t v)
  (hW : DataW.Whole enc Tryz.prog Tryz.f3.params.toList YtoakkanklhfpmaaGreatDoor.Rows.reactStacksSpec.vars false W args.toList ds gs before) (hsz0 : (DataW.weightsEach Tryz.prog (Tryz.f3.params.toList ++ YtoakkanklhfpmaaGreatDoor.Rows.reactStacksSpec.plain.varTypes Tryz.prog) (ds ++ gs)).all (· ≤ reachBytes) = true) (hL : laidMetH Tryz.prog YtoakkanklhfpmaaGreatDoor.Rows.reactStacksRow.laid W) :
  Calls Tryz.prog 3 args W fun e W' => ∃ v, e = .returned v ∧ YtoakkanklhfpmaaGreatDoor.Rows.reactStacksSpec.post enc Tryz.prog Tryz.f3 false true false false W args v W' := by
 have hG : Laid W := trivial
 have hsz : (DataW.weightsEach Tryz.prog (Tryz.f3.params.toList ++ YtoakkanklhfpmaaGreatDoor.Rows.reactStacksSpec.plain.varTypes Tryz.prog) (ds ++ gs)).all (· ≤ reachBytes) = true := hsz0
 have hval : ∀ (j : Nat) t v, Tryz.f3.params[j]? = some t → args[j]? = some v → Value.okWide Tryz.prog W .any base t v := hval0
 have hW' := hW
 obtain ⟨p, q, hA0, hV, rfl, hfz, hnd⟩ := hW
 have hA : DataW.TrodAll enc Tryz.prog W 0 (fun _ => true) true Tryz.f3.params.toList args.toList ds p := hA0
 rw [Tryz.params3] at hA hval hsz
 obtain ⟨v0, vs0, d0, ds0, p0, q0, hargs, rfl, rfl, h0, r0⟩ := trodAll_cons hA
 obtain ⟨rfl, rfl, rfl⟩ := trodAll_nil r0
 obtain rfl : args = #[v0] := by cases args; simp_all
 obtain ⟨rfl, rfl⟩ := trodVars_none hV
 have lt0 : ∀ x ∈ p0, x.block < W.heap.size := by obtain ⟨m, hm⟩ := h0; exact DataW.trod_lt m _ _ _ hm
 obtain ⟨rv0, t0⟩ := trod_arg (dep := 7) (by kernel_rfl) h0 (hval 0 tRs v0 rfl rfl)
 obtain ⟨x0, e0, z0, u0⟩ := r_rs (k := 0) t0 (wt_at hsz (j := 0) (t := tRs) rfl rfl)
 rw [dT_rs e0] at rv0
 have hc := xZZ x0 z0 []
 clear hA0 hval0 hsz0
 have hrr : RL (Sall W) W noK [.agg (cS x0)] (#[v0] : Array Value).toList := by
  simp only [RL]
  exact ⟨rv0, trivial⟩
 refine (jZN mixed (tells hG) hc hrr).mono fun e W' ⟨v, S', κ', he, bel, hv⟩ => ?_
 ·subst he
  have hvb : v = .bool true := by simpa [RV] using hv
  subst hvb
  exact ⟨_, rfl, _, _, _, [], _, [], hW', trodAll_mk1 (shut_bool (by kernel_rfl) _), (trodAll_cons_mk (Below.trod laidOut (by kernel_rfl) (of_decide_eq_true (by kernel_rfl)) h0 bel lt0) trodAll_mk0), rfl, bel.frame _, fun h => by cases h⟩
theorem xZ6 (os : Os) {H : Type} (enc : TypeId × Value → H) : ∃ places, DataW.whole enc Tryz.prog ((laidWorld os).forCall (fun _ _ => 0) ⟨#[], #[.agg #[.slice none 0 0, .slice none 0 0, .slice none 0 0, .bool false]], []⟩).memory Tryz.f3.params.toList YtoakkanklhfpmaaGreatDoor.Rows.reactStacksSpec.vars false (#[.agg #[.slice none 0 0, .slice none 0 0, .slice none 0 0, .bool false]] : Array Value).toList 8 = some ([.agg [.nil, .nil, .nil, .lit (.bool false)]], [], places) :=
 ⟨[], by kernel_rfl⟩
theorem xZ2 (os : Os) (started : os.Started) (H : Type) (enc : TypeId × Value → H) (F : Stop.Interp) :
  ReturnsInHanded {} Tryz.checked os 3 .any ((OpenSpec.ofChange YtoakkanklhfpmaaGreatDoor.Rows.reactStacksSpec).preRow enc Tryz.prog Tryz.f3 YtoakkanklhfpmaaGreatDoor.Rows.reactStacksRow.domain false YtoakkanklhfpmaaGreatDoor.Rows.reactStacksRow.laid) (((OpenSpec.ofChange YtoakkanklhfpmaaGreatDoor.Rows.reactStacksSpec).at F).post enc Tryz.prog Tryz.f3 false true false false) := by
 obtain ⟨places, hx⟩ := xZ6 os enc
 refine returnsInHanded_of_row (C := Tryz.checked) (s := (OpenSpec.ofChange YtoakkanklhfpmaaGreatDoor.Rows.reactStacksSpec)) kZC started (by kernel_rfl) Tryz.func3
  (witness_row_at (enc := enc) (C := Tryz.checked) false (laidWorld os) #[.agg #[.slice none 0 0, .slice none 0 0, .slice none 0 0, .bool false]] rfl (by kernel_rfl) (by kernel_rfl) (by kernel_rfl)
   (OpenSpec.preRow_of_cond 8 hx (by kernel_rfl) (fun k hk => by cases hk) (by kernel_rfl) (laid_met os _))) ?_
 intro W base args ds gs before hval hW _ hcond hsz hL _ _
 exact xZ0 H enc W base args ds gs before hval hW hsz hL
theorem xZ7 : YtoakkanklhfpmaaGreatDoor.Rows.ReactStacksSaid :=
 OpenClaim.holds_of_cond 3 Tryz.f3 rfl rfl rfl rfl rfl rfl rfl ⟨rfl, rfl, rfl, rfl, rfl⟩ rfl rfl rfl rfl rfl (by kernel_rfl) Tryz.func3 (by kernel_rfl)
  (of_decide_eq_true (by kernel_rfl)) (by unfold Func.isWrapper; first | (rw [if_pos (by decide +kernel)]; kernel_rfl) | (rw [if_neg (by decide +kernel)]; exact ⟨rfl, rfl⟩))
  (fun os started H enc _ F => by rw [OpenClaim.pre_eq_preRow]; exact xZ2 os started H enc F)
theorem xZ5 (f : FuncId) (fn : Func) (hf : YtoakkanklhfpmaaGreatDoor.Tryz.pinned.checked.prog.funcNamed "canopy/canopylaw26.ReactStacks" = some f) (hfn : YtoakkanklhfpmaaGreatDoor.Tryz.pinned.checked.prog.funcs[f]? = some fn) :
  false = YtoakkanklhfpmaaGreatDoor.Tryz.pinned.checked.prog.looks [] ∧ ∀ (j : Nat) t, fn.params[j]? = some t → YtoakkanklhfpmaaGreatDoor.Tryz.pinned.checked.prog.wantsStandIn t = false := by
 obtain rfl : f = 3 := Option.some.inj ((show Tryz.prog.funcNamed "canopy/canopylaw26.ReactStacks" = some 3 by kernel_rfl).symm.trans hf) |>.symm
 obtain rfl : fn = Tryz.f3 := (Option.some.inj (Tryz.func3.symm.trans hfn)).symm
 refine ⟨by kernel_rfl, fun j t ht => ?_⟩
 rw [Tryz.params3] at ht
 have hm := Array.mem_of_getElem? ht
 simp only [List.mem_toArray, List.mem_cons, List.not_mem_nil, or_false] at hm
 rcases hm with rfl
 exact (show Tryz.prog.wantsStandIn tRs = false by kernel_rfl)
theorem reactStacks_card : YtoakkanklhfpmaaGreatDoor.Rows.ReactStacksCardSaid :=
 Claim7.holds_tied_plain_at .later [] _ _ _ _ xZ7 (fun _ h => by cases h) (by kernel_rfl) (fun _ h => by cases h) YtoakkanklhfpmaaGreatDoor.reactStacks_row_tie rfl ⟨rfl, rfl⟩ (by kernel_rfl) rfl xZ5 (by kernel_rfl)
end Go.Proofs.Rc
namespace Go.Proofs.YtoakkanklhfpmaaGreatDoor
theorem reactStacks_holds : Rows.ReactStacksCardSaid := Rc.reactStacks_card
end Go.Proofs.YtoakkanklhfpmaaGreatDoor
