/- IterateBack: true, whatever is handed in, and the input reads behind it as it did. No conditions. -/
import Derived.Test.YtohcoghaaifmgaaJtE
import Derived.Test.YtohcoghaaifmgaaJtT
import Derived.Test.YtohcoghaaifmgaaJtG
set_option maxHeartbeats 16000000
set_option maxRecDepth 100000
set_option linter.unusedVariables false
set_option linter.unusedSimpArgs false
set_option linter.unusedSectionVars false
namespace Go.Proofs.It
open Go Go.Ev Go.ChangeShapes Go.WideShapes Go.ChangeAt Go.RowKit
theorem zYab (os : Os) (started : os.Started) (H : Type) (enc : TypeId × Value → H) :
  ReturnsInHanded {} Try.checked os 6 .any (Ytohcoghaaifmgaa.Rows.iterateBackSpec.pre6 enc Try.prog Try.f6 Ytohcoghaaifmgaa.Rows.iterateBackRow.domain false) (Ytohcoghaaifmgaa.Rows.iterateBackSpec.post enc Try.prog Try.f6 false true false false) := by
 refine returnsInHanded_of_change_sized (C := Try.checked) wZT started (by kernel_rfl) Try.func6
  (ChangeSpec.witness6 (enc := enc) (C := Try.checked) false ⟨#[], #[.agg #[.slice none 0 0], .agg #[.int .i64 0, .int .i64 0, .bool false, .int .u32 0, .slice none 0 0]], []⟩ 8 (by kernel_rfl) (by kernel_rfl) (by kernel_rfl) (by kernel_rfl)) ?_
 intro W base args ds gs before hval0 hW hcnd hsz0 _
 have hsz : (DataW.weightsEach Try.prog (Try.f6.params.toList ++ Ytohcoghaaifmgaa.Rows.iterateBackSpec.plain.varTypes Try.prog) (ds ++ gs)).all (· ≤ reachBytes) = true := hsz0
 have hval : ∀ (j : Nat) t v, Try.f6.params[j]? = some t → args[j]? = some v → Value.okWide Try.prog W .any base t v := hval0
 have hW' := hW
 obtain ⟨p, q, hA0, hV, rfl, hfz, hnd⟩ := hW
 have hA : DataW.TrodAll enc Try.prog W 0 (fun _ => true) true Try.f6.params.toList args.toList ds p := hA0
 rw [Try.params6] at hA hval hsz
 obtain ⟨v0, vs0, d0, ds0, p0, q0, hargs, rfl, rfl, h0, r0⟩ := trodAll_cons hA
 obtain ⟨v1, vs1, d1, ds1, p1, q1, rfl, rfl, rfl, h1, r1⟩ := trodAll_cons r0
 obtain ⟨rfl, rfl, rfl⟩ := trodAll_nil r1
 obtain rfl : args = #[v0, v1] := by cases args; simp_all
 obtain ⟨rfl, rfl⟩ := trodVars_none hV
 have lt0 : ∀ x ∈ p0, x.block < W.heap.size := by obtain ⟨m, hm⟩ := h0; exact DataW.trod_lt m _ _ _ hm
 obtain ⟨rv0, t0⟩ := wZD (dep := 7) (by kernel_rfl) h0 (hval 0 tForest v0 rfl rfl)
 obtain ⟨x0, e0, z0⟩ := r_forest (k := 0) t0 (wt_at hsz (j := 0) (t := tForest) rfl rfl)
 rw [kZV e0] at rv0
 have lt1 : ∀ x ∈ p1, x.block < W.heap.size := by obtain ⟨m, hm⟩ := h1; exact DataW.trod_lt m _ _ _ hm
 obtain ⟨rv1, t1⟩ := wZD (dep := 5) (by kernel_rfl) h1 (hval 1 tIter v1 rfl rfl)
 obtain ⟨x1, e1, z1⟩ := r_iter (k := 0) t1 (wt_at hsz (j := 1) (t := tIter) rfl rfl)
 rw [dT_iter e1] at rv1
 have hc := xZ8 x0 z0 x1 z1 []
 clear hA0 hval0 hsz0
 have hrr : RL (Sall W) W noK [eF x0, eIt x1] (#[v0, v1] : Array Value).toList := by
  simp only [RL]
  exact ⟨rv0, rv1, trivial⟩
 refine (wZb mixed tells hc hrr).mono fun e W' ⟨v, S', κ', he, bel, hv⟩ => ?_
 ·subst he
  have hvb : v = .bool true := by simpa [RV] using hv
  subst hvb
  exact ⟨_, rfl, _, _, _, [], _, [], hW', trodAll_mk1 (shut_bool (by kernel_rfl) _), (trodAll_cons_mk (Below.trod laidOut (by kernel_rfl) (of_decide_eq_true (by kernel_rfl)) h0 bel lt0) (trodAll_cons_mk (Below.trod laidOut (by kernel_rfl) (of_decide_eq_true (by kernel_rfl)) h1 bel lt1) trodAll_mk0)), rfl, bel.frame _, fun h => by cases h⟩
theorem iterateBack_over : Ytohcoghaaifmgaa.Rows.iterateBackRow.holds Ytohcoghaaifmgaa.Try.pinned (OpenSpec.ofChange Ytohcoghaaifmgaa.Rows.iterateBackSpec) :=
 OpenClaim.holds_of_wide 6 Try.f6 rfl rfl rfl rfl rfl rfl rfl ⟨rfl, rfl, rfl, rfl, rfl⟩ rfl rfl rfl rfl rfl (by kernel_rfl) Try.func6 (by kernel_rfl)
  (of_decide_eq_true (by kernel_rfl)) (by unfold Func.isWrapper; first | (rw [if_pos (by decide +kernel)]; kernel_rfl) | (rw [if_neg (by decide +kernel)]; exact ⟨rfl, rfl⟩))
  (fun os started H enc _ => zYab os started H enc)
end Go.Proofs.It
namespace Go.Proofs.Ytohcoghaaifmgaa
theorem iterateBack_holds : Rows.IterateBackSaid := It.iterateBack_over
end Go.Proofs.Ytohcoghaaifmgaa
