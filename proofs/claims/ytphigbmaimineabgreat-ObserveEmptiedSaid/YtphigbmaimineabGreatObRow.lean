/- ObserveEmptied: true, whatever is handed in, and the input reads behind it as it did. No conditions. -/
import Derived.Test.YtphigbmaimineabGreatObWt
import Derived.Test.YtphigbmaimineabGreatObV
import Derived.Test.YtphigbmaimineabGreatObCb
set_option maxHeartbeats 16000000
set_option maxRecDepth 100000
set_option linter.unusedVariables false
set_option linter.unusedSimpArgs false
set_option linter.unusedSectionVars false
namespace Go.Proofs.Ob
open Go Go.Ev Go.ChangeShapes Go.WideShapes Go.ChangeAt Go.RowKit
theorem wZW (os : Os) (started : os.Started) (H : Type) (enc : TypeId × Value → H) :
  ReturnsInHanded {} Tryz.checked os 3 .any (YtphigbmaimineabGreat.Rows.observeEmptiedSpec.pre6 enc Tryz.prog Tryz.f3 YtphigbmaimineabGreat.Rows.observeEmptiedRow.domain false) (YtphigbmaimineabGreat.Rows.observeEmptiedSpec.post enc Tryz.prog Tryz.f3 false true false false) := by
 refine returnsInHanded_of_change_sized (C := Tryz.checked) ownKnob_none started (by kernel_rfl) Tryz.func3
  (ChangeSpec.witness6 (enc := enc) (C := Tryz.checked) false ⟨#[], #[.agg #[.slice none 0 0, .int .i64 0, .slice none 0 0]], []⟩ 8 (by kernel_rfl) (by kernel_rfl) (by kernel_rfl) (by kernel_rfl)) ?_
 intro W base args ds gs before hval0 hW hcnd hsz0 _
 have hsz : (DataW.weightsEach Tryz.prog (Tryz.f3.params.toList ++ YtphigbmaimineabGreat.Rows.observeEmptiedSpec.plain.varTypes Tryz.prog) (ds ++ gs)).all (· ≤ reachBytes) = true := hsz0
 have hval : ∀ (j : Nat) t v, Tryz.f3.params[j]? = some t → args[j]? = some v → Value.okWide Tryz.prog W .any base t v := hval0
 have hW' := hW
 obtain ⟨p, q, hA0, hV, rfl, hfz, hnd⟩ := hW
 have hA : DataW.TrodAll enc Tryz.prog W 0 (fun _ => true) true Tryz.f3.params.toList args.toList ds p := hA0
 rw [Tryz.params3] at hA hval hsz
 obtain ⟨v0, vs0, d0, ds0, p0, q0, hargs, rfl, rfl, h0, r0⟩ := trodAll_cons hA
 obtain ⟨rfl, rfl, rfl⟩ := trodAll_nil r0
 obtain rfl : args = #[v0] := by cases args; simp_all
 obtain ⟨rfl, rfl⟩ := trodVars_none hV
 have lt0 : ∀ x ∈ p0, x.block < W.heap.size := by obtain ⟨m, hm⟩ := h0; exact DataW.trod_lt m _ _ _ hm
 obtain ⟨rv0, t0⟩ := trod_arg (dep := 6) (by kernel_rfl) h0 (hval 0 tWch v0 rfl rfl)
 obtain ⟨x0, e0, z0⟩ := r_wch (k := 0) t0 (wt_at hsz (j := 0) (t := tWch) rfl rfl)
 rw [dT_wch e0] at rv0
 have hc := wZu x0 z0 []
 clear hA0 hval0 hsz0
 have hrr : RL (Sall W) W noK [.agg (cW x0)] (#[v0] : Array Value).toList := by
  simp only [RL]
  exact ⟨rv0, trivial⟩
 refine (kZM mixed (tells (G := W) trivial) hc hrr).mono fun e W' ⟨v, S', κ', he, bel, hv⟩ => ?_
 ·subst he
  have hvb : v = .bool true := by simpa [RV] using hv
  subst hvb
  exact ⟨_, rfl, _, _, _, [], _, [], hW', trodAll_mk1 (shut_bool (by kernel_rfl) _), (trodAll_cons_mk (Below.trod laidOut (by kernel_rfl) (of_decide_eq_true (by kernel_rfl)) h0 bel lt0) trodAll_mk0), rfl, bel.frame _, fun h => by cases h⟩
theorem observeEmptied_over : YtphigbmaimineabGreat.Rows.observeEmptiedRow.holds YtphigbmaimineabGreat.Tryz.pinned (OpenSpec.ofChange YtphigbmaimineabGreat.Rows.observeEmptiedSpec) :=
 OpenClaim.holds_of_wide 3 Tryz.f3 rfl rfl rfl rfl rfl rfl rfl ⟨rfl, rfl, rfl, rfl, rfl⟩ rfl rfl rfl rfl rfl (by kernel_rfl) Tryz.func3 (by kernel_rfl)
  (of_decide_eq_true (by kernel_rfl)) (by unfold Func.isWrapper; first | (rw [if_pos (by decide +kernel)]; kernel_rfl) | (rw [if_neg (by decide +kernel)]; exact ⟨rfl, rfl⟩))
  (fun os started H enc _ => wZW os started H enc)
end Go.Proofs.Ob
namespace Go.Proofs.YtphigbmaimineabGreat
theorem observeEmptied_holds : Rows.ObserveEmptiedSaid := Ob.observeEmptied_over
end Go.Proofs.YtphigbmaimineabGreat
