/- The program's loop: Waiting. No conditions. -/
import Derived.Test.YtgfebbhjpgkdfaaLpR
namespace Go.Proofs.Lp
open Go Go.Ev
set_option linter.unusedVariables false
set_option linter.unusedSimpArgs false

set_option maxHeartbeats 8000000 in
set_option maxRecDepth 8000 in
theorem waiting_spec {h : Heap} {l : Nat} {L : LS} {f : Nat → Option Nat} (hr : Rep h l L f) (ht : tot L < 2 ^ 40) :
    callW Φ loop_Loop_Waiting [.ptr l 0] h = some (.tup [.int .i64 (sumq L 8 : Nat), .int .i64 (L.q 0).length, .int .i64 L.tm.length], h) := by
  obtain ⟨v, hr⟩ := hr
  have hw := waits_spec hr ht
  have hm := len_spec (off := 0) hr.1 (cells_get v L (i := 0) (by decide)) (hr.sq (i := 0) (by decide))
  rw [List.length_map] at hm
  have h9 := hr.s9.len h
  rw [List.length_map] at h9
  have hc9 := hr.c9
  have e1 : IntKind.i64.wrap ((tot L : Int) - ((L.q 0).length : Int)) = ((L.tm.length + sumq L 8 : Nat) : Int) := by unfold tot at ht ⊢; rw [Ev.wrap64] <;> omega
  have e2 : IntKind.i64.wrap (((L.tm.length + sumq L 8 : Nat) : Int) - (L.tm.length : Int)) = ((sumq L 8 : Nat) : Int) := by unfold tot at ht; rw [Ev.wrap64] <;> omega
  obtain ⟨A, hA⟩ : ∃ A : Int, A = ((L.tm.length + sumq L 8 : Nat) : Int) := ⟨_, rfl⟩
  rw [← hA] at e1 e2
  have key : ∀ env : List V, env.length = 29 → eget env 0 = .ptr l 0 →
      WK (callW Φ) none (FinQ [.tmp 2, .tmp 3, .tmp 4] (.tup [.int .i64 (sumq L 8 : Nat), .int .i64 (L.q 0).length, .int .i64 L.tm.length], h)) [.c (fst (snd (snd loop_Loop_Waiting.c.body))), .c .ret] { env := env, marks := [], heap := h } := by
    intro env he g0
    simp only [fst, snd, loop_Loop_Waiting.c]
    refine kDraw2 loop_Loop_Waiting.r3.ord ?_
    simp (config := { maxSteps := 5000000 }) [loop_Loop_Waiting.r3, List.filterMap_cons, g0, he, evNilchk, okV, fV_eq, hw, hm, hc9, h9, e1, e2]
    repeat' apply And.intro
    all_goals
      simp only [set_puts, puts_puts, List.cons_append, List.nil_append]
      exact puts_ext _ rfl rfl rfl rfl
  refine callW_rough loop_Loop_Waiting.Φ rfl (body_q (Nat.le_of_ble_eq_true rfl) (fun env he h0 => ?_))
  have g0 := h0 0 (by simp)
  change eget env 0 = .ptr l 0 at g0
  clear h0
  simp [loop_Loop_Waiting.c] at he
  simp [loop_Loop_Waiting.c, loop_Loop_Waiting.r0, loop_Loop_Waiting.r1, g0, he, okV, fV_eq, evNilchk, evEqn, eqnV, nilOf]
  exact key _ (by simp [he]) (by simp [g0])
end Go.Proofs.Lp
