/- LoopTimers: the row. No conditions. -/
import Derived.Test.YtgfebbhjpgkdfaaLpP
import Derived.Test.YtgfebbhjpgkdfaaE05
import Derived.Test.YtgfebbhjpgkdfaaRows
import Derived.WalkKit
import Derived.ProofKit
import Derived.OpenShut
import Derived.ShutString
import Derived.ChangeOld
import Derived.Below
import Derived.SizedLaws
import Derived.Carry
namespace Go.Proofs.Lp
open Go Go.Ev Go.ChangeShapes Go.WideShapes Go.ChangeAt Go.RowKit
set_option linter.unusedVariables false
set_option linter.unusedSimpArgs false

theorem ownKnob_none : ownKnob Try.prog.godebug = none := by kernel_rfl
theorem laidOut : laidOutB Try.prog = true := by kernel_rfl

/-- Numbers in a row, as it reads. -/
theorem ints_of {H : Type} {k : IntKind} : ∀ {es : List (DataW H)}, (∀ x ∈ es, ∃ n, x = .lit (.int k n) ∧ (Lit.int k n).wf = true) → ∃ zs : List Int, es = zs.map (fun n => .lit (.int k n)) ∧ zs.length = es.length
  | [], _ => ⟨[], rfl, rfl⟩
  | x :: es, h => by
    obtain ⟨n, rfl, _⟩ := h x (by simp)
    obtain ⟨zs, h1, h2⟩ := ints_of (es := es) fun y hy => h y (by simp [hy])
    exact ⟨n :: zs, by rw [h1]; rfl, by simp [h2]⟩
theorem dVs_ints {H : Type} (zs : List Int) : dVs (zs.map fun n => (DataW.lit (.int .i64 n) : DataW H)) = zs.map cI := by
  rw [dVs_eq, List.map_map]
  rfl

set_option maxRecDepth 100000 in
/-- A slice of numbers, as it is handed in. -/
theorem arg_ints {H : Type} {t e : TypeId} {d : DataW H} (ht : Try.prog.underlying t = some (.slice e)) (he : Try.prog.underlying e = some (.int .i64)) (h : DT Try.prog 2 t d) :
    flatN2 (dT Try.prog t d) = true ∧ ∃ zs : List Int, nz2 (dT Try.prog t d) = .arr (zs.map cI) ∧ zs.length ≤ maxLen := by
  simp only [DT, ht] at h
  rcases h with rfl | ⟨es, sp, rfl, hl, hx⟩
  · refine ⟨by simp [dT, ht, dV, flatN2, flatN, scalN], [], by simp [dT, ht, dV, nz2, nz1, nz], by simp⟩
  · simp only [he] at hx
    obtain ⟨zs, rfl, hz⟩ := ints_of hx
    refine ⟨?_, zs, ?_, by omega⟩
    · simp [dT, ht, dV, dVs_ints, flatN2, flatN, scalN, scal, cI]
    · simp [dT, ht, dV, dVs_ints, nz2, nz1, nz]

theorem timers_call {a0 a1 : V} {W G : List Int} (h0 : flatN2 a0 = true) (h1 : flatN2 a1 = true) (e0 : nz2 a0 = .arr (W.map cI)) (e1 : nz2 a1 = .arr (G.map cI)) (hG : G.length < 2 ^ 63) (on : Int) :
    callW Φ law27_LoopTimers [a0, a1, .int .i64 on] [] = some (.bool true, []) := by
  have ht := timers_spec W G on hG []
  have hm : mapH (fz fzDepth) ([] : Heap) [a0, a1, .int .i64 on] = some ([.arr (W.map cI), .arr (G.map cI), .int .i64 on], []) := by
    have := mapH_map (f := fz fzDepth) (g := nz2) (h := ([] : Heap)) (l := [a0, a1, .int .i64 on]) (fun x hx => by
      refine fz_flatN2 ?_
      simp only [List.mem_cons, List.not_mem_nil, or_false] at hx
      rcases hx with rfl | rfl | rfl
      · exact h0
      · exact h1
      · rfl)
    rw [this]
    simp only [List.map_cons, List.map_nil, e0, e1]
    rfl
  exact callW_args (Φ := Φ) (h := []) (h1 := []) law27_LoopTimers.Φ rfl (by simp [flat2, flat, scal, cI]) hm ht

set_option maxRecDepth 100000 in
theorem timers_lifted (os : Os) (started : os.Started) (H : Type) (enc : TypeId × Value → H) :
    ReturnsInHanded {} Try.checked os 3 .any (Ytgfebbhjpgkdfaa.Rows.loopTimersSpec.pre6 enc Try.prog Try.f3 Ytgfebbhjpgkdfaa.Rows.loopTimersRow.domain false) (Ytgfebbhjpgkdfaa.Rows.loopTimersSpec.post enc Try.prog Try.f3 false true false false) := by
  refine returnsInHanded_of_change_sized (C := Try.checked) ownKnob_none started (by kernel_rfl) Try.func3
    (ChangeSpec.witness6 (enc := enc) (C := Try.checked) false ⟨#[], #[.slice none 0 0, .slice none 0 0, .int .i64 0], []⟩ 8 (by kernel_rfl) (by kernel_rfl) (by kernel_rfl) (by kernel_rfl)) ?_
  intro W base args ds gs before hval0 hW hcnd hsz0 _
  have hval : ∀ (j : Nat) t v, Try.f3.params[j]? = some t → args[j]? = some v → Value.okWide Try.prog W .any base t v := hval0
  have hW' := hW
  obtain ⟨p, q, hA0, hV, rfl, hfz, hnd⟩ := hW
  have hA : DataW.TrodAll enc Try.prog W 0 (fun _ => true) true Try.f3.params.toList args.toList ds p := hA0
  rw [Try.params3] at hA hval
  obtain ⟨v0, vs0, d0, ds0, p0, q0, hargs, rfl, rfl, h0, r0⟩ := trodAll_cons hA
  obtain ⟨v1, vs1, d1, ds1, p1, q1, rfl, rfl, rfl, h1, r1⟩ := trodAll_cons r0
  obtain ⟨v2, vs2, d2, ds2, p2, q2, rfl, rfl, rfl, h2, r2⟩ := trodAll_cons r1
  obtain ⟨rfl, rfl, rfl⟩ := trodAll_nil r2
  obtain rfl : args = #[v0, v1, v2] := by cases args; simp_all
  obtain ⟨rfl, rfl⟩ := trodVars_none hV
  have u22 : Try.prog.underlying 22 = some (.slice 2) := by kernel_rfl
  have u23 : Try.prog.underlying 23 = some (.slice 3) := by kernel_rfl
  have u2 : Try.prog.underlying 2 = some (.int .i64) := by kernel_rfl
  have u3 : Try.prog.underlying 3 = some (.int .i64) := by kernel_rfl
  have lt0 : ∀ x ∈ p0, x.block < W.heap.size := by obtain ⟨m, hm⟩ := h0; exact DataW.trod_lt m _ _ _ hm
  have lt1 : ∀ x ∈ p1, x.block < W.heap.size := by obtain ⟨m, hm⟩ := h1; exact DataW.trod_lt m _ _ _ hm
  obtain ⟨rv0, t0⟩ := trod_arg (dep := 2) (by kernel_rfl) h0 (hval 0 22 v0 rfl rfl)
  obtain ⟨rv1, t1⟩ := trod_arg (dep := 2) (by kernel_rfl) h1 (hval 1 23 v1 rfl rfl)
  obtain ⟨n2, rfl, rfl, rfl, w2⟩ := open_int u2 (hval 2 2 v2 rfl rfl) h2
  obtain ⟨f0, zs0, e0, l0⟩ := arg_ints u22 u2 t0
  obtain ⟨f1, zs1, e1, l1⟩ := arg_ints u23 u3 t1
  have hc := timers_call f0 f1 e0 e1 (by unfold maxLen at l1; omega) n2
  clear hA0 hval0 hsz0
  have hrr : RL (Sall W) W noK [dT Try.prog 22 d0, dT Try.prog 23 d1, .int .i64 n2] (#[v0, v1, .int .i64 n2] : Array Value).toList := by
    simp only [RL]
    exact ⟨rv0, rv1, by simp [RV], trivial⟩
  refine (calls_of_callW mixed tells hc hrr).mono fun e W' ⟨v, S', κ', he, bel, hv⟩ => ?_
  · subst he
    have hvb : v = .bool true := by simpa [RV] using hv
    subst hvb
    exact ⟨_, rfl, _, _, _, [], _, [], hW', trodAll_mk1 (shut_bool (by kernel_rfl) _), (trodAll_cons_mk (Below.trod laidOut (by kernel_rfl) (of_decide_eq_true (by kernel_rfl)) h0 bel lt0) (trodAll_cons_mk (Below.trod laidOut (by kernel_rfl) (of_decide_eq_true (by kernel_rfl)) h1 bel lt1) (trodAll_cons_mk (shut_int u2 w2) trodAll_mk0))), rfl, bel.frame _, fun h => by cases h⟩

theorem timers_over : Ytgfebbhjpgkdfaa.Rows.loopTimersRow.holds Ytgfebbhjpgkdfaa.Try.pinned (OpenSpec.ofChange Ytgfebbhjpgkdfaa.Rows.loopTimersSpec) :=
  OpenClaim.holds_of_wide 3 Try.f3 rfl rfl rfl rfl rfl rfl rfl ⟨rfl, rfl, rfl, rfl, rfl⟩ rfl rfl rfl rfl rfl (by kernel_rfl) Try.func3 (by kernel_rfl)
    (of_decide_eq_true (by kernel_rfl)) (by unfold Func.isWrapper; first | (rw [if_pos (by decide +kernel)]; kernel_rfl) | (rw [if_neg (by decide +kernel)]; exact ⟨rfl, rfl⟩))
    (fun os started H enc _ => timers_lifted os started H enc)
end Go.Proofs.Lp
namespace Go.Proofs.Ytgfebbhjpgkdfaa
theorem loopTimers_holds : Rows.LoopTimersSaid := Lp.timers_over
end Go.Proofs.Ytgfebbhjpgkdfaa
