/- AttrsAsked: true, whatever is handed in, and the input reads behind it as it did; the listed variables tied to the program's text. No conditions. -/
import Derived.Test.YtaeklgflchhmfaaGreatDoorAqE
import Derived.Test.YtaeklgflchhmfaaGreatDoorAqWt
import Derived.Test.YtaeklgflchhmfaaGreatDoorItCb
set_option maxHeartbeats 16000000
set_option maxRecDepth 100000
set_option linter.unusedVariables false
set_option linter.unusedSimpArgs false
set_option linter.unusedSectionVars false
namespace Go.Proofs.It
open Go Go.Ev Go.ChangeShapes Go.WideShapes Go.ChangeAt Go.RowKit
theorem jZf (H : Type) (enc : TypeId × Value → H) (W : World) (base : Nat) (args : Array Value) (ds gs : List (DataW H)) (before : List MemPlace)
  (hval0 : ∀ (j : Nat) t v, Tryz.f3.params[j]? = some t → args[j]? = some v → Value.okWide Tryz.prog W .any base t v)
  (hW : DataW.Whole enc Tryz.prog Tryz.f3.params.toList YtaeklgflchhmfaaGreatDoor.Rows.attrsAskedSpec.vars false W args.toList ds gs before) (hsz0 : (DataW.weightsEach Tryz.prog (Tryz.f3.params.toList ++ YtaeklgflchhmfaaGreatDoor.Rows.attrsAskedSpec.plain.varTypes Tryz.prog) (ds ++ gs)).all (· ≤ reachBytes) = true) (hL : laidMetH Tryz.prog YtaeklgflchhmfaaGreatDoor.Rows.attrsAskedRow.laid W) :
  Calls Tryz.prog 3 args W fun e W' => ∃ v, e = .returned v ∧ YtaeklgflchhmfaaGreatDoor.Rows.attrsAskedSpec.post enc Tryz.prog Tryz.f3 false true false false W args v W' := by
 have hG : Laid W := trivial
 have hsz : (DataW.weightsEach Tryz.prog (Tryz.f3.params.toList ++ YtaeklgflchhmfaaGreatDoor.Rows.attrsAskedSpec.plain.varTypes Tryz.prog) (ds ++ gs)).all (· ≤ reachBytes) = true := hsz0
 have hval : ∀ (j : Nat) t v, Tryz.f3.params[j]? = some t → args[j]? = some v → Value.okWide Tryz.prog W .any base t v := hval0
 have hW' := hW
 obtain ⟨p, q, hA0, hV, rfl, hfz, hnd⟩ := hW
 have hA : DataW.TrodAll enc Tryz.prog W 0 (fun _ => true) true Tryz.f3.params.toList args.toList ds p := hA0
 rw [Tryz.params3] at hA hval hsz
 obtain ⟨v0, vs0, d0, ds0, p0, q0, hargs, rfl, rfl, h0, r0⟩ := trodAll_cons hA
 obtain ⟨v1, vs1, d1, ds1, p1, q1, rfl, rfl, rfl, h1, r1⟩ := trodAll_cons r0
 obtain ⟨v2, vs2, d2, ds2, p2, q2, rfl, rfl, rfl, h2, r2⟩ := trodAll_cons r1
 obtain ⟨v3, vs3, d3, ds3, p3, q3, rfl, rfl, rfl, h3, r3⟩ := trodAll_cons r2
 obtain ⟨rfl, rfl, rfl⟩ := trodAll_nil r3
 obtain rfl : args = #[v0, v1, v2, v3] := by cases args; simp_all
 obtain ⟨rfl, rfl⟩ := trodVars_none hV
 have lt0 : ∀ x ∈ p0, x.block < W.heap.size := by obtain ⟨m, hm⟩ := h0; exact DataW.trod_lt m _ _ _ hm
 obtain ⟨rv0, t0⟩ := kZQ (dep := 7) (by kernel_rfl) h0 (hval 0 tForest v0 rfl rfl)
 obtain ⟨x0, e0, z0⟩ := r_forest (k := 0) t0 (wt_at hsz (j := 0) (t := tForest) rfl rfl)
 rw [dT_forest e0] at rv0
 have lt1 : ∀ x ∈ p1, x.block < W.heap.size := by obtain ⟨m, hm⟩ := h1; exact DataW.trod_lt m _ _ _ hm
 obtain ⟨rv1, t1⟩ := kZQ (dep := 1) (by kernel_rfl) h1 (hval 1 tInt v1 rfl rfl)
 obtain ⟨x1, e1, z1⟩ := r_int uInt t1
 rw [dT_int e1] at rv1
 have lt2 : ∀ x ∈ p2, x.block < W.heap.size := by obtain ⟨m, hm⟩ := h2; exact DataW.trod_lt m _ _ _ hm
 obtain ⟨rv2, t2⟩ := kZQ (dep := 1) (by kernel_rfl) h2 (hval 2 tStr v2 rfl rfl)
 obtain ⟨x2, e2, z2⟩ := kZm uStr t2 (wt_at hsz (j := 2) (t := tStr) rfl rfl)
 rw [dT_str e2] at rv2
 have lt3 : ∀ x ∈ p3, x.block < W.heap.size := by obtain ⟨m, hm⟩ := h3; exact DataW.trod_lt m _ _ _ hm
 obtain ⟨rv3, t3⟩ := kZQ (dep := 1) (by kernel_rfl) h3 (hval 3 tStr v3 rfl rfl)
 obtain ⟨x3, e3, z3⟩ := kZm uStr t3 (wt_at hsz (j := 3) (t := tStr) rfl rfl)
 rw [dT_str e3] at rv3
 have hc := asked_law x0 z0.sz z0.sa x1 x2 x3 (Nat.le_trans z3 (by decide)) (z0.sl x1) []
 clear hA0 hval0 hsz0
 have hrr : RL (Sall W) W noK [eF x0, .int .i64 x1, .str x2, .str x3] (#[v0, v1, v2, v3] : Array Value).toList := by
  simp only [RL]
  exact ⟨rv0, rv1, rv2, rv3, trivial⟩
 refine (xZy mixed (tells hG) hc hrr).mono fun e W' ⟨v, S', κ', he, bel, hv⟩ => ?_
 ·subst he
  have hvb : v = .bool true := by simpa [RV] using hv
  subst hvb
  exact ⟨_, rfl, _, _, _, [], _, [], hW', trodAll_mk1 (shut_bool (by kernel_rfl) _), (trodAll_cons_mk (Below.trod laidOut (by kernel_rfl) (of_decide_eq_true (by kernel_rfl)) h0 bel lt0) (trodAll_cons_mk (Below.trod laidOut (by kernel_rfl) (of_decide_eq_true (by kernel_rfl)) h1 bel lt1) (trodAll_cons_mk (Below.trod laidOut (by kernel_rfl) (of_decide_eq_true (by kernel_rfl)) h2 bel lt2) (trodAll_cons_mk (Below.trod laidOut (by kernel_rfl) (of_decide_eq_true (by kernel_rfl)) h3 bel lt3) trodAll_mk0)))), rfl, bel.frame _, fun h => by cases h⟩
theorem kZr (os : Os) {H : Type} (enc : TypeId × Value → H) : ∃ places, DataW.whole enc Tryz.prog ((laidWorld os).forCall (fun _ _ => 0) ⟨#[], #[.agg #[.slice none 0 0], .int .i64 0, .string ⟨#[]⟩, .string ⟨#[]⟩], []⟩).memory Tryz.f3.params.toList YtaeklgflchhmfaaGreatDoor.Rows.attrsAskedSpec.vars false (#[.agg #[.slice none 0 0], .int .i64 0, .string ⟨#[]⟩, .string ⟨#[]⟩] : Array Value).toList 8 = some ([.agg [.nil], .lit (.int .i64 0), .lit (.string []), .lit (.string [])], [], places) :=
 ⟨[], by kernel_rfl⟩
theorem jZP (os : Os) (started : os.Started) (H : Type) (enc : TypeId × Value → H) (F : Stop.Interp) :
  ReturnsInHanded {} Tryz.checked os 3 .any ((OpenSpec.ofChange YtaeklgflchhmfaaGreatDoor.Rows.attrsAskedSpec).preRow enc Tryz.prog Tryz.f3 YtaeklgflchhmfaaGreatDoor.Rows.attrsAskedRow.domain false YtaeklgflchhmfaaGreatDoor.Rows.attrsAskedRow.laid) (((OpenSpec.ofChange YtaeklgflchhmfaaGreatDoor.Rows.attrsAskedSpec).at F).post enc Tryz.prog Tryz.f3 false true false false) := by
 obtain ⟨places, hx⟩ := kZr os enc
 refine returnsInHanded_of_row (C := Tryz.checked) (s := (OpenSpec.ofChange YtaeklgflchhmfaaGreatDoor.Rows.attrsAskedSpec)) ownKnob_none started (by kernel_rfl) Tryz.func3
  (witness_row_at (enc := enc) (C := Tryz.checked) false (laidWorld os) #[.agg #[.slice none 0 0], .int .i64 0, .string ⟨#[]⟩, .string ⟨#[]⟩] rfl (by kernel_rfl) (by kernel_rfl) (by kernel_rfl)
   (OpenSpec.preRow_of_cond 8 hx (by kernel_rfl) (fun k hk => by cases hk) (by kernel_rfl) (laid_met os _))) ?_
 intro W base args ds gs before hval hW _ hcond hsz hL _ _
 exact jZf H enc W base args ds gs before hval hW hsz hL
theorem kZV : YtaeklgflchhmfaaGreatDoor.Rows.AttrsAskedSaid :=
 OpenClaim.holds_of_cond 3 Tryz.f3 rfl rfl rfl rfl rfl rfl rfl ⟨rfl, rfl, rfl, rfl, rfl⟩ rfl rfl rfl rfl rfl (by kernel_rfl) Tryz.func3 (by kernel_rfl)
  (of_decide_eq_true (by kernel_rfl)) (by unfold Func.isWrapper; first | (rw [if_pos (by decide +kernel)]; kernel_rfl) | (rw [if_neg (by decide +kernel)]; exact ⟨rfl, rfl⟩))
  (fun os started H enc _ F => by rw [OpenClaim.pre_eq_preRow]; exact jZP os started H enc F)
theorem kZq (f : FuncId) (fn : Func) (hf : YtaeklgflchhmfaaGreatDoor.Tryz.pinned.checked.prog.funcNamed "canopy/canopylaw06.AttrsAsked" = some f) (hfn : YtaeklgflchhmfaaGreatDoor.Tryz.pinned.checked.prog.funcs[f]? = some fn) :
  false = YtaeklgflchhmfaaGreatDoor.Tryz.pinned.checked.prog.looks [] ∧ ∀ (j : Nat) t, fn.params[j]? = some t → YtaeklgflchhmfaaGreatDoor.Tryz.pinned.checked.prog.wantsStandIn t = false := by
 obtain rfl : f = 3 := Option.some.inj ((show Tryz.prog.funcNamed "canopy/canopylaw06.AttrsAsked" = some 3 by kernel_rfl).symm.trans hf) |>.symm
 obtain rfl : fn = Tryz.f3 := (Option.some.inj (Tryz.func3.symm.trans hfn)).symm
 refine ⟨by kernel_rfl, fun j t ht => ?_⟩
 rw [Tryz.params3] at ht
 have hm := Array.mem_of_getElem? ht
 simp only [List.mem_toArray, List.mem_cons, List.not_mem_nil, or_false] at hm
 rcases hm with rfl | rfl | rfl | rfl
 ·exact (show Tryz.prog.wantsStandIn tForest = false by kernel_rfl)
 ·exact (show Tryz.prog.wantsStandIn tInt = false by kernel_rfl)
 ·exact (show Tryz.prog.wantsStandIn tStr = false by kernel_rfl)
 ·exact (show Tryz.prog.wantsStandIn tStr = false by kernel_rfl)
theorem attrsAsked_card : YtaeklgflchhmfaaGreatDoor.Rows.AttrsAskedCardSaid :=
 Claim7.holds_tied_plain_at .later [] _ _ _ _ kZV (fun _ h => by cases h) (by kernel_rfl) (fun _ h => by cases h) YtaeklgflchhmfaaGreatDoor.attrsAsked_row_tie rfl ⟨rfl, rfl⟩ (by kernel_rfl) rfl kZq (by kernel_rfl)
end Go.Proofs.It
namespace Go.Proofs.YtaeklgflchhmfaaGreatDoor
theorem attrsAsked_holds : Rows.AttrsAskedCardSaid := It.attrsAsked_card
end Go.Proofs.YtaeklgflchhmfaaGreatDoor
