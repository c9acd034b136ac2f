/- LoopDoes: the row. No conditions. -/
import Derived.Test.YtgfebbhjpgkdfaaLpNr
import Derived.Test.YtgfebbhjpgkdfaaLpGw
namespace Go.Proofs.Lp
open Go Go.Ev Go.ChangeShapes Go.WideShapes Go.ChangeAt Go.RowKit
set_option linter.unusedVariables false
set_option linter.unusedSimpArgs false

theorem does_call {a0 : V} {S : List Step} (h0 : flatN2 a0 = true) (e0 : nz2 a0 = .arr (S.map cS)) (hS : S.length < 2 ^ 62) :
    callW Φ law27_LoopDoes [a0] [] = some (.bool true, []) := by
  have ht := does_spec S hS []
  have hm : mapH (fz fzDepth) ([] : Heap) [a0] = some ([.arr (S.map cS)], []) := by
    have := mapH_map (f := fz fzDepth) (g := nz2) (h := ([] : Heap)) (l := [a0]) (fun y hy => by
      refine fz_flatN2 ?_
      simp only [List.mem_cons, List.not_mem_nil, or_false] at hy
      rw [hy]
      exact h0)
    rw [this]
    simp only [List.map_cons, List.map_nil, e0]
  exact callW_args (Φ := Φ) (h := []) (h1 := []) law27_LoopDoes.Φ rfl (by simp [flat2, flat, scal, cS]) hm ht

set_option maxRecDepth 100000 in
theorem does_lifted (os : Os) (started : os.Started) (H : Type) (enc : TypeId × Value → H) :
    ReturnsInHanded {} Try.checked os 5 .any (Ytgfebbhjpgkdfaa.Rows.loopDoesSpec.pre6 enc Try.prog Try.f5 Ytgfebbhjpgkdfaa.Rows.loopDoesRow.domain false) (Ytgfebbhjpgkdfaa.Rows.loopDoesSpec.post enc Try.prog Try.f5 false true false false) := by
  refine returnsInHanded_of_change_sized (C := Try.checked) ownKnob_none started (by kernel_rfl) Try.func5
    (ChangeSpec.witness6 (enc := enc) (C := Try.checked) false ⟨#[], #[.slice none 0 0], []⟩ 8 (by kernel_rfl) (by kernel_rfl) (by kernel_rfl) (by kernel_rfl)) ?_
  intro W base args ds gs before hval0 hW hcnd hsz0 _
  have hsz : (DataW.weightsEach Try.prog (Try.f5.params.toList ++ Ytgfebbhjpgkdfaa.Rows.loopDoesSpec.plain.varTypes Try.prog) (ds ++ gs)).all (· ≤ reachBytes) = true := hsz0
  have hval : ∀ (j : Nat) t v, Try.f5.params[j]? = some t → args[j]? = some v → Value.okWide Try.prog W .any base t v := hval0
  have hW' := hW
  obtain ⟨p, q, hA0, hV, rfl, hfz, hnd⟩ := hW
  have hA : DataW.TrodAll enc Try.prog W 0 (fun _ => true) true Try.f5.params.toList args.toList ds p := hA0
  rw [Try.params5] at hA hval hsz
  obtain ⟨v0, vs0, d0, ds0, p0, q0, hargs, rfl, rfl, h0, r0⟩ := trodAll_cons hA
  obtain ⟨rfl, rfl, rfl⟩ := trodAll_nil r0
  obtain rfl : args = #[v0] := by cases args; simp_all
  obtain ⟨rfl, rfl⟩ := trodVars_none hV
  have lt0 : ∀ x ∈ p0, x.block < W.heap.size := by obtain ⟨m, hm⟩ := h0; exact DataW.trod_lt m _ _ _ hm
  obtain ⟨rv0, t0⟩ := trod_arg (dep := 3) (by kernel_rfl) h0 (hval 0 38 v0 rfl rfl)
  have hs : ∀ es sp, d0 = .slice es sp → es.length < 2 ^ 62 := by
    rintro es sp rfl
    have z := sized_slice hsz (j := 0) (t := 38) (e := 42) (elems := es) (spare := sp) rfl rfl u38
    have hb : Try.prog.bytesOf 42 = 48 := by kernel_rfl
    rw [hb] at z
    have := reachBytes_lt
    omega
  obtain ⟨f0, S, e0, l0⟩ := arg_steps t0 hs
  have hc := does_call f0 e0 l0
  clear hA0 hval0 hsz0
  have hrr : RL (Sall W) W noK [dT Try.prog 38 d0] (#[v0] : Array Value).toList := by
    simp only [RL]
    exact ⟨rv0, trivial⟩
  refine (calls_of_callW mixed tells hc hrr).mono fun e W' ⟨v, S', κ', he, bel, hv⟩ => ?_
  · subst he
    have hvb : v = .bool true := by simpa [RV] using hv
    subst hvb
    exact ⟨_, rfl, _, _, _, [], _, [], hW', trodAll_mk1 (shut_bool (by kernel_rfl) _), (trodAll_cons_mk (Below.trod laidOut (by kernel_rfl) (of_decide_eq_true (by kernel_rfl)) h0 bel lt0) trodAll_mk0), rfl, bel.frame _, fun h => by cases h⟩

theorem does_over : Ytgfebbhjpgkdfaa.Rows.loopDoesRow.holds Ytgfebbhjpgkdfaa.Try.pinned (OpenSpec.ofChange Ytgfebbhjpgkdfaa.Rows.loopDoesSpec) :=
  OpenClaim.holds_of_wide 5 Try.f5 rfl rfl rfl rfl rfl rfl rfl ⟨rfl, rfl, rfl, rfl, rfl⟩ rfl rfl rfl rfl rfl (by kernel_rfl) Try.func5 (by kernel_rfl)
    (of_decide_eq_true (by kernel_rfl)) (by unfold Func.isWrapper; first | (rw [if_pos (by decide +kernel)]; kernel_rfl) | (rw [if_neg (by decide +kernel)]; exact ⟨rfl, rfl⟩))
    (fun os started H enc _ => does_lifted os started H enc)
end Go.Proofs.Lp
namespace Go.Proofs.Ytgfebbhjpgkdfaa
theorem loopDoes_holds : Rows.LoopDoesSaid := Lp.does_over
end Go.Proofs.Ytgfebbhjpgkdfaa
