/- The program's loop: a loop that is none. No conditions. -/
import Derived.Test.YtgfebbhjpgkdfaaLpS
namespace Go.Proofs.Lp
open Go Go.Ev
set_option linter.unusedVariables false
set_option linter.unusedSimpArgs false

theorem now_nil (h : Heap) : callW Φ loop_Loop_Now [.nilp] h = some (.int .i64 0, h) := by
  refine callW_rough loop_Loop_Now.Φ rfl (body_q (Nat.le_of_ble_eq_true rfl) (fun env he h0 => ?_))
  have g0 := h0 0 (by simp)
  change eget env 0 = .nilp at g0
  clear h0
  simp [loop_Loop_Now.c] at he
  simp [loop_Loop_Now.c, loop_Loop_Now.r0, loop_Loop_Now.r1, loop_Loop_Now.r2, g0, he, okV, fV_eq, evNilchk, evEqn, eqnV, nilOf]
theorem given_nil (h : Heap) : callW Φ loop_Loop_Given [.nilp] h = some (.int .i64 0, h) := by
  refine callW_rough loop_Loop_Given.Φ rfl (body_q (Nat.le_of_ble_eq_true rfl) (fun env he h0 => ?_))
  have g0 := h0 0 (by simp)
  change eget env 0 = .nilp at g0
  clear h0
  simp [loop_Loop_Given.c] at he
  simp [loop_Loop_Given.c, loop_Loop_Given.r0, loop_Loop_Given.r1, loop_Loop_Given.r2, g0, he, okV, fV_eq, evNilchk, evEqn, eqnV, nilOf]
theorem due_nil (h : Heap) : callW Φ loop_Loop_Due [.nilp] h = some (.tup [.int .i64 0, .bool false], h) := by
  refine callW_rough loop_Loop_Due.Φ rfl (body_q (Nat.le_of_ble_eq_true rfl) (fun env he h0 => ?_))
  have g0 := h0 0 (by simp)
  change eget env 0 = .nilp at g0
  clear h0
  simp [loop_Loop_Due.c] at he
  simp [loop_Loop_Due.c, loop_Loop_Due.r0, loop_Loop_Due.r1, loop_Loop_Due.r2, g0, he, okV, fV_eq, evNilchk, evEqn, eqnV, nilOf, evPick]
theorem waiting_nil (h : Heap) : callW Φ loop_Loop_Waiting [.nilp] h = some (.tup [.int .i64 0, .int .i64 0, .int .i64 0], h) := by
  refine callW_rough loop_Loop_Waiting.Φ rfl (body_q (Nat.le_of_ble_eq_true rfl) (fun env he h0 => ?_))
  have g0 := h0 0 (by simp)
  change eget env 0 = .nilp at g0
  clear h0
  simp [loop_Loop_Waiting.c] at he
  simp [loop_Loop_Waiting.c, loop_Loop_Waiting.r0, loop_Loop_Waiting.r1, loop_Loop_Waiting.r2, g0, he, okV, fV_eq, evNilchk, evEqn, eqnV, nilOf]
theorem fork_nil (h : Heap) : callW Φ loop_Loop_Fork [.nilp] h = some (.nilp, h) := by
  refine callW_rough loop_Loop_Fork.Φ rfl (body_q (Nat.le_of_ble_eq_true rfl) (fun env he h0 => ?_))
  have g0 := h0 0 (by simp)
  change eget env 0 = .nilp at g0
  clear h0
  simp [loop_Loop_Fork.c] at he
  simp [loop_Loop_Fork.c, loop_Loop_Fork.r0, loop_Loop_Fork.r1, loop_Loop_Fork.r2, g0, he, okV, fV_eq, evNilchk, evEqn, eqnV, nilOf]
theorem close_nil (h : Heap) : ∃ h', callW Φ loop_Loop_Close [.nilp] h = some (.bool false, h ++ h') := by
  refine ⟨[.cells [.nilp]], ?_⟩
  refine callW_rough loop_Loop_Close.Φ rfl (body_q (Nat.le_of_ble_eq_true rfl) (fun env he h0 => ?_))
  have g0 := h0 0 (by simp)
  change eget env 0 = .nilp at g0
  clear h0
  simp [loop_Loop_Close.c] at he
  have hb : evBox h [.nilp] = some (.ptr h.length 0, h ++ [.cells [.nilp]]) := by simp [evBox, V.isCell]
  have hc : cellsAt (h ++ [.cells [.nilp]]) (.ptr h.length 0) = some [.nilp] := by simp [cellsAt]
  simp [loop_Loop_Close.c, loop_Loop_Close.r0, loop_Loop_Close.r1, loop_Loop_Close.r2, g0, he, okV, fV_eq, evNilchk, evEqn, eqnV, nilOf, V.cells, hb, hc]
theorem clear_nil (h : Heap) (n : Int) : ∃ h', callW Φ loop_Loop_Clear [.nilp, .int .i64 n] h = some (.bool false, h ++ h') := by
  refine ⟨[.cells [.int .i64 n]], ?_⟩
  refine callW_rough loop_Loop_Clear.Φ rfl (body_q (Nat.le_of_ble_eq_true rfl) (fun env he h0 => ?_))
  have g0 := h0 0 (by simp)
  have g1 := h0 1 (by simp)
  change eget env 0 = .nilp at g0
  change eget env 1 = .int .i64 n at g1
  clear h0
  simp [loop_Loop_Clear.c] at he
  have hb : evBox h [.int .i64 n] = some (.ptr h.length 0, h ++ [.cells [.int .i64 n]]) := by simp [evBox, V.isCell]
  simp [loop_Loop_Clear.c, loop_Loop_Clear.r0, loop_Loop_Clear.r1, loop_Loop_Clear.r2, g0, g1, he, okV, fV_eq, evNilchk, evEqn, eqnV, nilOf, V.cells, hb]
theorem advance_nil (h : Heap) (n : Int) : callW Φ loop_Loop_Advance [.nilp, .int .i64 n] h = some (.tup [.int .i64 0, .int .i64 1], h) := by
  refine callW_rough loop_Loop_Advance.Φ rfl (body_q (Nat.le_of_ble_eq_true rfl) (fun env he h0 => ?_))
  have g0 := h0 0 (by simp)
  change eget env 0 = .nilp at g0
  clear h0
  simp [loop_Loop_Advance.c] at he
  simp [loop_Loop_Advance.c, loop_Loop_Advance.r0, loop_Loop_Advance.r1, loop_Loop_Advance.r2, g0, he, okV, fV_eq, evNilchk, evEqn, eqnV, nilOf]
theorem next_nil (h : Heap) (n : Int) : ∃ h', callW Φ loop_Loop_Next [.nilp, .int .i64 n] h = some (.agg (cN (0, 0, 0)), h ++ h') := by
  refine ⟨[.cells [.int .u8 0, .int .i64 0, .int .i64 0]], ?_⟩
  refine callW_rough loop_Loop_Next.Φ rfl (body_q (Nat.le_of_ble_eq_true rfl) (fun env he h0 => ?_))
  have g0 := h0 0 (by simp)
  change eget env 0 = .nilp at g0
  clear h0
  simp [loop_Loop_Next.c] at he
  have hb0 : ∀ H, evBuild H [.int .u8 0, .int .i64 0, .int .i64 0] [] = some (.agg [.int .u8 0, .int .i64 0, .int .i64 0], H) := fun _ => rfl
  have hs : evStoreV (h ++ [.cells [.int .u8 0, .int .i64 0, .int .i64 0]]) 3 (.ptr h.length 0) (.agg [.int .u8 0, .int .i64 0, .int .i64 0]) = some (V.non, h ++ [.cells [.int .u8 0, .int .i64 0, .int .i64 0]]) := by
    simp [evStoreV, evStore, V.cells, V.isCell, setRange]
  have hc : cellsAt (h ++ [.cells [.int .u8 0, .int .i64 0, .int .i64 0]]) (.ptr h.length 0) = some [.int .u8 0, .int .i64 0, .int .i64 0] := by simp [cellsAt]
  simp [loop_Loop_Next.c, loop_Loop_Next.r0, loop_Loop_Next.r1, loop_Loop_Next.r2, g0, he, okV, fV_eq, evNilchk, evEqn, eqnV, nilOf, hb0, hs, hc, ofCells, cN]
theorem fault_nil (h : Heap) (b : Bool) : callW Φ loop_Loop_fault [.nilp, .bool b] h = some (.int .i64 1, h) := by
  refine callW_rough loop_Loop_fault.Φ rfl (body_q (Nat.le_of_ble_eq_true rfl) (fun env he h0 => ?_))
  have g0 := h0 0 (by simp)
  change eget env 0 = .nilp at g0
  clear h0
  simp [loop_Loop_fault.c] at he
  simp [loop_Loop_fault.c, loop_Loop_fault.r0, loop_Loop_fault.r1, loop_Loop_fault.r2, g0, he, okV, fV_eq, evNilchk, evEqn, eqnV, nilOf]
theorem micro_nil (h : Heap) (n : Int) : callW Φ loop_Loop_Micro [.nilp, .int .i64 n] h = some (.int .i64 1, h) := by
  have hf := fault_nil h
  refine callW_rough loop_Loop_Micro.Φ rfl (body_q (Nat.le_of_ble_eq_true rfl) (fun env he h0 => ?_))
  have g0 := h0 0 (by simp)
  change eget env 0 = .nilp at g0
  clear h0
  simp [loop_Loop_Micro.c] at he
  simp [loop_Loop_Micro.c, loop_Loop_Micro.r0, loop_Loop_Micro.r1, loop_Loop_Micro.r2, loop_Loop_Micro.r4, g0, he, okV, fV_eq, evNilchk, evEqn, eqnV, nilOf, hf]
theorem task_nil (h : Heap) (n : Int) : callW Φ loop_Loop_Task [.nilp, .int .i64 0, .int .i64 n] h = some (.int .i64 1, h) := by
  have hf := fault_nil h
  refine callW_rough loop_Loop_Task.Φ rfl (body_q (Nat.le_of_ble_eq_true rfl) (fun env he h0 => ?_))
  have g0 := h0 0 (by simp)
  have g1 := h0 1 (by simp)
  change eget env 0 = .nilp at g0
  change eget env 1 = .int .i64 0 at g1
  clear h0
  simp [loop_Loop_Task.c] at he
  simp [loop_Loop_Task.c, loop_Loop_Task.r0, loop_Loop_Task.r1, loop_Loop_Task.r2, loop_Loop_Task.r4, g0, g1, he, okV, fV_eq, evNilchk, evEqn, eqnV, nilOf, evPick, hf]
theorem after_nil (h : Heap) (n : Int) : callW Φ loop_Loop_After [.nilp, .int .i64 1, .int .i64 0, .int .i64 n] h = some (.tup [.int .i64 0, .int .i64 1], h) := by
  have hf := fault_nil h
  refine callW_rough loop_Loop_After.Φ rfl (body_q (Nat.le_of_ble_eq_true rfl) (fun env he h0 => ?_))
  have g0 := h0 0 (by simp)
  have g1 := h0 1 (by simp)
  have g2 := h0 2 (by simp)
  change eget env 0 = .nilp at g0
  change eget env 1 = .int .i64 1 at g1
  change eget env 2 = .int .i64 0 at g2
  clear h0
  simp [loop_Loop_After.c] at he
  simp [loop_Loop_After.c, loop_Loop_After.r0, loop_Loop_After.r1, loop_Loop_After.r2, loop_Loop_After.r3, g0, g1, g2, he, okV, fV_eq, evNilchk, evEqn, eqnV, nilOf, evPick, hf]
theorem do_nil (h : Heap) (x : Step) : ∃ h', callW Φ loop_Loop_Do [.nilp, .agg (cS x)] h = some (.tup [.int .i64 0, .agg (cN (0, 0, 0)), .int .i64 1], h ++ h') := by
  refine ⟨[Ob.cells (cS x), Ob.cells [.int .u8 0, .int .i64 0, .int .i64 0]], ?_⟩
  refine callW_rough loop_Loop_Do.Φ rfl (body_q (Nat.le_of_ble_eq_true rfl) (fun env he h0 => ?_))
  have g0 := h0 0 (by simp)
  have g1 := h0 1 (by simp)
  change eget env 0 = .nilp at g0
  change eget env 1 = .agg (cS x) at g1
  clear h0
  simp [loop_Loop_Do.c] at he
  have hbx : evBox h (cS x) = some (.ptr h.length 0, h ++ [Ob.cells (cS x)]) := by simp [evBox, cS, V.isCell]
  have hb0 : ∀ H, evBuild H [.int .u8 0, .int .i64 0, .int .i64 0] [] = some (.agg [.int .u8 0, .int .i64 0, .int .i64 0], H) := fun _ => rfl
  have hs : evStoreV (h ++ [Ob.cells (cS x), .cells [.int .u8 0, .int .i64 0, .int .i64 0]]) 3 (.ptr (h.length + 1) 0) (.agg [.int .u8 0, .int .i64 0, .int .i64 0]) = some (V.non, h ++ [Ob.cells (cS x), .cells [.int .u8 0, .int .i64 0, .int .i64 0]]) := by
    simp [evStoreV, evStore, V.cells, V.isCell, setRange, List.set_append]
  have hc : cellsAt (h ++ [Ob.cells (cS x), .cells [.int .u8 0, .int .i64 0, .int .i64 0]]) (.ptr (h.length + 1) 0) = some [.int .u8 0, .int .i64 0, .int .i64 0] := by simp [cellsAt]
  simp only [cS] at g1 hbx hs hc ⊢
  simp [loop_Loop_Do.c, loop_Loop_Do.r0, loop_Loop_Do.r1, loop_Loop_Do.r2, g0, g1, he, okV, fV_eq, evNilchk, evEqn, eqnV, nilOf, V.cells, hbx, hb0, hs, hc, ofCells, cN]
end Go.Proofs.Lp
