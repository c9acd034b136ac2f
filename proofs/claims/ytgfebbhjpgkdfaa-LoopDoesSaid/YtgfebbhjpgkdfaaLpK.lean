/- The law's lives. No conditions. -/
import Derived.Test.YtgfebbhjpgkdfaaLpJ
namespace Go.Proofs.Lp
open Go Go.Ev
set_option linter.unusedVariables false
set_option linter.unusedSimpArgs false

def lv1 : LS := taskL LS.new 1 10
def lv2 : LS := microL lv1 20
def lv3 : LS := afterL lv2 5 0 30
def lv4 : LS := (nextR lv3 0).2
def lv5 : LS := (nextR lv4 0).2
def lv6 : LS := (nextR lv5 0).2
def lv7 : LS := advL lv6 5
def lv8 : LS := (nextR lv7 0).2

set_option maxHeartbeats 8000000 in
set_option maxRecDepth 8000 in
theorem lives_spec (h : Heap) : callW Φ law27_lives [] h = some (.bool true, h) := by
  obtain ⟨P, hP⟩ : ∃ P : V → Heap → Prop, P = fun r h' => r = .bool true := ⟨_, rfl⟩
  suffices hgo : ∃ r h', evBodyW (callW Φ) law27_lives.c [] [] = some (r, h') ∧ P r h' by
    obtain ⟨r, h', h1, h2⟩ := hgo
    rw [hP] at h2
    subst h2
    exact callW_flat law27_lives.Φ rfl (args := []) (by simp) h1 rfl
  obtain ⟨f0, hc0, hr0, _⟩ := new_spec []
  simp only [List.length_nil, List.nil_append] at hc0 hr0
  obtain ⟨h0, hh0⟩ : ∃ h0 : Heap, h0 = [Ob.cells (cellsL (fun _ => V.nils) LS.new)] := ⟨_, rfl⟩
  rw [← hh0] at hc0 hr0
  obtain ⟨h1, f1, hc1, hr1, _⟩ := task_spec hr0 (by decide +kernel) 1 10
  obtain ⟨h2, f2, hc2, hr2, _⟩ := micro_spec (L := lv1) hr1 (by decide +kernel) 20
  obtain ⟨h3, f3, hc3, hr3, _⟩ := after_spec (L := lv2) hr2 (by decide +kernel) (by decide +kernel) (by decide +kernel) (by decide +kernel) (by decide +kernel) 5 0 30
  obtain ⟨h4, f4, hc4, hr4, _⟩ := next_spec (L := lv3) hr3 (by decide +kernel) 0
  obtain ⟨h5, f5, hc5, hr5, _⟩ := next_spec (L := lv4) hr4 (by decide +kernel) 0
  obtain ⟨h6, f6, hc6, hr6, _⟩ := next_spec (L := lv5) hr5 (by decide +kernel) 0
  rw [show faultV LS.new (decide ((0 : Int) ≤ 1 ∧ (1 : Int) < 8)) = 0 by decide +kernel] at hc1
  rw [show faultV lv1 true = 0 by decide +kernel] at hc2
  rw [show afterV lv2 5 0 = (1, 0) by decide +kernel] at hc3
  rw [show (nextR lv3 0).1 = (1, 0, 20) by decide +kernel] at hc4
  rw [show (nextR lv4 0).1 = (2, 1, 10) by decide +kernel] at hc5
  rw [show (nextR lv5 0).1 = (0, 0, 0) by decide +kernel] at hc6
  simp only [cN] at hc4 hc5 hc6
  obtain ⟨v6, hr6⟩ := hr6
  have hr6e := hr6.ext [Ob.cells (cN (1, 0, 20)), Ob.cells (cN (2, 1, 10)), Ob.cells (cN (0, 0, 0))]
  obtain ⟨H6, hH6⟩ : ∃ H6, H6 = h6 ++ [Ob.cells (cN (1, 0, 20)), Ob.cells (cN (2, 1, 10)), Ob.cells (cN (0, 0, 0))] := ⟨_, rfl⟩
  rw [← hH6] at hr6e
  obtain ⟨h7, f7, hc7, hr7, hfr7⟩ := advance_spec (L := lv6) ⟨v6, hr6e⟩ (by decide +kernel) (by decide +kernel) (by decide +kernel) 5
  obtain ⟨h8, f8, hc8, hr8, hfr8⟩ := next_spec (L := lv7) hr7 (by decide +kernel) 0
  rw [show advN lv6 5 = 1 by decide +kernel, show advV lv6 5 = 0 by decide +kernel] at hc7
  rw [show (nextR lv7 0).1 = (2, 0, 30) by decide +kernel] at hc8
  simp only [cN] at hc8
  have hfr := hfr7.trans hfr8
  have hno : ∀ j, h6.length ≤ j → ¬ own 0 f6 j := fun j hj ho => by
    have := Rep.lt ⟨v6, hr6⟩ ho
    omega
  have hl6 : H6.length = h6.length + 3 := by rw [hH6]; simp
  obtain ⟨H8, hH8⟩ : ∃ H8, H8 = h8 ++ [Ob.cells (cN (2, 0, 30))] := ⟨_, rfl⟩
  have k : ∀ j c, j < 3 → H6[h6.length + j]? = some (.cells c) → cellsAt H8 (.ptr (h6.length + j) 0) = some c := by
    intro j c hj hc
    have := hfr.len
    have h2 : H8[h6.length + j]? = some (.cells c) := by
      rw [hH8, List.getElem?_append_left (by omega), hfr.rest _ (by omega) (hno _ (by omega))]
      exact hc
    simp [cellsAt, h2]
  have k0 := k 0 (cN (1, 0, 20)) (by decide) (by rw [hH6]; simp)
  have k1 := k 1 (cN (2, 1, 10)) (by decide) (by rw [hH6]; simp)
  have k2 := k 2 (cN (0, 0, 0)) (by decide) (by rw [hH6]; simp)
  have k8 : cellsAt H8 (.ptr h8.length 0) = some (cN (2, 0, 30)) := by rw [hH8]; simp [cellsAt]
  simp only [cN, Nat.add_zero] at k0 k1 k2 k8
  have hp : P (.bool true) H8 := by rw [hP]
  have s1 : evStoreV (h6 ++ [Ob.cells [.int .u8 0, .int .i64 0, .int .i64 0], Ob.cells [.int .u8 0, .int .i64 0, .int .i64 0], Ob.cells [.int .u8 0, .int .i64 0, .int .i64 0]]) 3 (.ptr h6.length 0) (.agg [.int .u8 1, .int .i64 0, .int .i64 20]) =
      some (V.non, h6 ++ [Ob.cells [.int .u8 1, .int .i64 0, .int .i64 20], Ob.cells [.int .u8 0, .int .i64 0, .int .i64 0], Ob.cells [.int .u8 0, .int .i64 0, .int .i64 0]]) := by
    simp [evStoreV, evStore, V.cells, V.isCell, setRange]
  have s2 : evStoreV (h6 ++ [Ob.cells [.int .u8 1, .int .i64 0, .int .i64 20], Ob.cells [.int .u8 0, .int .i64 0, .int .i64 0], Ob.cells [.int .u8 0, .int .i64 0, .int .i64 0]]) 3 (.ptr (h6.length + 1) 0) (.agg [.int .u8 2, .int .i64 1, .int .i64 10]) =
      some (V.non, h6 ++ [Ob.cells [.int .u8 1, .int .i64 0, .int .i64 20], Ob.cells [.int .u8 2, .int .i64 1, .int .i64 10], Ob.cells [.int .u8 0, .int .i64 0, .int .i64 0]]) := by
    simp [evStoreV, evStore, V.cells, V.isCell, setRange, List.set_append]
  have s3 : evStoreV (h6 ++ [Ob.cells [.int .u8 1, .int .i64 0, .int .i64 20], Ob.cells [.int .u8 2, .int .i64 1, .int .i64 10], Ob.cells [.int .u8 0, .int .i64 0, .int .i64 0]]) 3 (.ptr (h6.length + 2) 0) (.agg [.int .u8 0, .int .i64 0, .int .i64 0]) =
      some (V.non, H6) := by
    rw [hH6]
    simp [evStoreV, evStore, V.cells, V.isCell, setRange, List.set_append, cN]
  have s4 : evStoreV (h8 ++ [Ob.cells [.int .u8 0, .int .i64 0, .int .i64 0]]) 3 (.ptr h8.length 0) (.agg [.int .u8 2, .int .i64 0, .int .i64 30]) = some (V.non, H8) := by
    rw [hH8]
    simp [evStoreV, evStore, V.cells, V.isCell, setRange, cN]
  refine body_x (Nat.le_of_ble_eq_true rfl) (fun env he g => ?_)
  simp [law27_lives.c] at he
  simp [law27_lives.c, law27_lives.r0, law27_lives.r1, law27_lives.r2, law27_lives.r4, law27_lives.r5, law27_lives.r6, law27_lives.r7, he, okV, fV_eq, evEqn, eqnV, nilOf, hc0, hc1, hc2, hc3, evExt, hc4, hc5, hc6, s1, s2, s3]
  simp [law27_lives.r8, law27_lives.r9, he, okV, fV_eq, evEqn, eqnV, nilOf, evExt, hc7, hc8, s4]
  have b1 : evBuild H8 [.int .u8 0, .int .i64 0, .int .i64 0] [(0, 1, .int .u8 1), (2, 1, .int .i64 20)] = some (.agg [.int .u8 1, .int .i64 0, .int .i64 20], H8) := rfl
  have b2 : evBuild H8 [.int .u8 0, .int .i64 0, .int .i64 0] [(0, 1, .int .u8 2), (1, 1, .int .i64 1), (2, 1, .int .i64 10)] = some (.agg [.int .u8 2, .int .i64 1, .int .i64 10], H8) := rfl
  have b3 : evBuild H8 [.int .u8 0, .int .i64 0, .int .i64 0] [] = some (.agg [.int .u8 0, .int .i64 0, .int .i64 0], H8) := rfl
  have b4 : evBuild H8 [.int .u8 0, .int .i64 0, .int .i64 0] [(0, 1, .int .u8 2), (2, 1, .int .i64 30)] = some (.agg [.int .u8 2, .int .i64 0, .int .i64 30], H8) := rfl
  have q : ∀ a b c : Int, evEqc H8 false (.cons 0 none (.leaf .i) (.cons 1 none (.leaf .i) (.cons 2 none (.leaf .i) .nil))) (.agg [.int .u8 a, .int .i64 b, .int .i64 c]) (.agg [.int .u8 a, .int .i64 b, .int .i64 c]) = some (.bool true, H8) := by
    intro a b c
    simp [evEqc, eqdV, ofCells, cellEq, okV, fV_eq]
  simp (config := { maxSteps := 2000000 }) [law27_lives.r10, he, okV, fV_eq, evPick, k0, k1, k2, k8, b1, b2, b3, b4, q, hp]
end Go.Proofs.Lp
