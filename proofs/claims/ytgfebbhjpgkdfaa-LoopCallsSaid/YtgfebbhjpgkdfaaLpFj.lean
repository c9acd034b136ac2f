/- LoopCalls: the row. No conditions. -/
import Derived.Test.YtgfebbhjpgkdfaaLpNr
import Derived.Test.YtgfebbhjpgkdfaaLpFi
namespace Go.Proofs.Lp
open Go Go.Ev Go.ChangeShapes Go.WideShapes Go.ChangeAt Go.RowKit
set_option linter.unusedVariables false
set_option linter.unusedSimpArgs false

set_option maxRecDepth 100000 in
theorem arg_steps61 {H : Type} {d : DataW H} (h : DT Try.prog 3 38 d) (hsz : ∀ es sp, d = .slice es sp → es.length < 2 ^ 61) :
    flatN2 (dT Try.prog 38 d) = true ∧ ∃ S : List Step, nz2 (dT Try.prog 38 d) = .arr (S.map cS) ∧ S.length < 2 ^ 61 := by
  simp only [DT, u38] at h
  rcases h with rfl | ⟨es, sp, rfl, hl, hx⟩
  · refine ⟨by simp [dT, u38, dV, flatN2, flatN, scalN], [], by simp [dT, u38, dV, nz2, nz1, nz], by simp⟩
  · obtain ⟨S, h1, h2⟩ := steps_of (H := H) (es := es) hx
    have := hsz es sp rfl
    refine ⟨?_, S, ?_, by omega⟩
    · simp [dT, u38, dV, h1, flatN2, flatN, scalN, scal, cS]
    · simp [dT, u38, dV, h1, nz2, nz1, nz]


theorem calls_call {a0 a1 : V} {S M : List Step} (h0 : flatN2 a0 = true) (e0 : nz2 a0 = .arr (S.map cS)) (hS : S.length < 2 ^ 61) (h1 : flatN2 a1 = true) (e1 : nz2 a1 = .arr (M.map cS)) (hM : M.length < 2 ^ 61) :
    callW Φ law27_LoopCalls [a0, a1] [] = some (.bool true, []) := by
  have ht := calls_spec S M hS hM []
  have hm : mapH (fz fzDepth) ([] : Heap) [a0, a1] = some ([.arr (S.map cS), .arr (M.map cS)], []) := by
    have := mapH_map (f := fz fzDepth) (g := nz2) (h := ([] : Heap)) (l := [a0, a1]) (fun y hy => by
      refine fz_flatN2 ?_
      simp only [List.mem_cons, List.not_mem_nil, or_false] at hy
      rcases hy with rfl | rfl
      · exact h0
      · exact h1)
    rw [this]
    simp only [List.map_cons, List.map_nil, e0, e1]
  exact callW_args (Φ := Φ) (h := []) (h1 := []) law27_LoopCalls.Φ rfl (by simp [flat2, flat, scal, cS]) hm ht

set_option maxRecDepth 100000 in
theorem calls_lifted (os : Os) (started : os.Started) (H : Type) (enc : TypeId × Value → H) :
    ReturnsInHanded {} Try.checked os 6 .any (Ytgfebbhjpgkdfaa.Rows.loopCallsSpec.pre6 enc Try.prog Try.f6 Ytgfebbhjpgkdfaa.Rows.loopCallsRow.domain false) (Ytgfebbhjpgkdfaa.Rows.loopCallsSpec.post enc Try.prog Try.f6 false true false false) := by
  refine returnsInHanded_of_change_sized (C := Try.checked) ownKnob_none started (by kernel_rfl) Try.func6
    (ChangeSpec.witness6 (enc := enc) (C := Try.checked) false ⟨#[], #[.slice none 0 0, .slice none 0 0], []⟩ 8 (by kernel_rfl) (by kernel_rfl) (by kernel_rfl) (by kernel_rfl)) ?_
  intro W base args ds gs before hval0 hW hcnd hsz0 _
  have hsz : (DataW.weightsEach Try.prog (Try.f6.params.toList ++ Ytgfebbhjpgkdfaa.Rows.loopCallsSpec.plain.varTypes Try.prog) (ds ++ gs)).all (· ≤ reachBytes) = true := hsz0
  have hval : ∀ (j : Nat) t v, Try.f6.params[j]? = some t → args[j]? = some v → Value.okWide Try.prog W .any base t v := hval0
  have hW' := hW
  obtain ⟨p, q, hA0, hV, rfl, hfz, hnd⟩ := hW
  have hA : DataW.TrodAll enc Try.prog W 0 (fun _ => true) true Try.f6.params.toList args.toList ds p := hA0
  rw [Try.params6] at hA hval hsz
  obtain ⟨v0, vs0, d0, ds0, p0, q0, hargs, rfl, rfl, h0, r0⟩ := trodAll_cons hA
  obtain ⟨v1, vs1, d1, ds1, p1, q1, rfl, rfl, rfl, h1, r1⟩ := trodAll_cons r0
  obtain ⟨rfl, rfl, rfl⟩ := trodAll_nil r1
  obtain rfl : args = #[v0, v1] := by cases args; simp_all
  obtain ⟨rfl, rfl⟩ := trodVars_none hV
  have lt0 : ∀ x ∈ p0, x.block < W.heap.size := by obtain ⟨m, hm⟩ := h0; exact DataW.trod_lt m _ _ _ hm
  have lt1 : ∀ x ∈ p1, x.block < W.heap.size := by obtain ⟨m, hm⟩ := h1; exact DataW.trod_lt m _ _ _ hm
  obtain ⟨rv0, t0⟩ := trod_arg (dep := 3) (by kernel_rfl) h0 (hval 0 38 v0 rfl rfl)
  obtain ⟨rv1, t1⟩ := trod_arg (dep := 3) (by kernel_rfl) h1 (hval 1 38 v1 rfl rfl)
  have hs0 : ∀ es sp, d0 = .slice es sp → es.length < 2 ^ 61 := by
    rintro es sp rfl
    have z := sized_slice hsz (j := 0) (t := 38) (e := 42) (elems := es) (spare := sp) rfl rfl u38
    have hb : Try.prog.bytesOf 42 = 48 := by kernel_rfl
    rw [hb] at z
    have := reachBytes_lt
    omega
  have hs1 : ∀ es sp, d1 = .slice es sp → es.length < 2 ^ 61 := by
    rintro es sp rfl
    have z := sized_slice hsz (j := 1) (t := 38) (e := 42) (elems := es) (spare := sp) rfl rfl u38
    have hb : Try.prog.bytesOf 42 = 48 := by kernel_rfl
    rw [hb] at z
    have := reachBytes_lt
    omega
  obtain ⟨f0, S, e0, l0⟩ := arg_steps61 t0 hs0
  obtain ⟨f1, M, e1, l1⟩ := arg_steps61 t1 hs1
  have hc := calls_call f0 e0 l0 f1 e1 l1
  clear hA0 hval0 hsz0
  have hrr : RL (Sall W) W noK [dT Try.prog 38 d0, dT Try.prog 38 d1] (#[v0, v1] : Array Value).toList := by
    simp only [RL]
    exact ⟨rv0, rv1, trivial⟩
  refine (calls_of_callW mixed tells hc hrr).mono fun e W' ⟨v, S', κ', he, bel, hv⟩ => ?_
  · subst he
    have hvb : v = .bool true := by simpa [RV] using hv
    subst hvb
    exact ⟨_, rfl, _, _, _, [], _, [], hW', trodAll_mk1 (shut_bool (by kernel_rfl) _), (trodAll_cons_mk (Below.trod laidOut (by kernel_rfl) (of_decide_eq_true (by kernel_rfl)) h0 bel lt0) (trodAll_cons_mk (Below.trod laidOut (by kernel_rfl) (of_decide_eq_true (by kernel_rfl)) h1 bel lt1) trodAll_mk0)), rfl, bel.frame _, fun h => by cases h⟩

theorem calls_over : Ytgfebbhjpgkdfaa.Rows.loopCallsRow.holds Ytgfebbhjpgkdfaa.Try.pinned (OpenSpec.ofChange Ytgfebbhjpgkdfaa.Rows.loopCallsSpec) :=
  OpenClaim.holds_of_wide 6 Try.f6 rfl rfl rfl rfl rfl rfl rfl ⟨rfl, rfl, rfl, rfl, rfl⟩ rfl rfl rfl rfl rfl (by kernel_rfl) Try.func6 (by kernel_rfl)
    (of_decide_eq_true (by kernel_rfl)) (by unfold Func.isWrapper; first | (rw [if_pos (by decide +kernel)]; kernel_rfl) | (rw [if_neg (by decide +kernel)]; exact ⟨rfl, rfl⟩))
    (fun os started H enc _ => calls_lifted os started H enc)
end Go.Proofs.Lp
namespace Go.Proofs.Ytgfebbhjpgkdfaa
theorem loopCalls_holds : Rows.LoopCallsSaid := Lp.calls_over
end Go.Proofs.Ytgfebbhjpgkdfaa
