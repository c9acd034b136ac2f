/- LoopNil. No conditions. -/
import Derived.Test.YtgfebbhjpgkdfaaLpY
namespace Go.Proofs.Lp
open Go Go.Ev
set_option linter.unusedVariables false
set_option linter.unusedSimpArgs false

set_option maxHeartbeats 8000000 in
set_option maxRecDepth 8000 in
theorem nil_spec (S : List Step) (x : Step) (hS : S.length < 2 ^ 62) (h : Heap) : callW Φ law27_LoopNil [.arr (S.map cS), .agg (cS x)] h = some (.bool true, h) := by
  obtain ⟨P, hPd⟩ : ∃ P : V → Heap → Prop, P = fun r h' => r = .bool true := ⟨_, rfl⟩
  have hP : ∀ h, P (.bool true) h := fun h => by rw [hPd]
  have hflat : flatN2 (.arr (S.map cS)) = true := by simp [flatN2, flatN, scalN, scal, cS]
  suffices hgo : ∃ r h', evBodyW (callW Φ) law27_LoopNil.c [.arr (S.map cS), .agg (cS x)] [] = some (r, h') ∧ P r h' by
    obtain ⟨r, h', h1, h2⟩ := hgo
    rw [hPd] at h2
    subst h2
    exact callW_flat (args := [.arr (S.map cS), .agg (cS x)]) law27_LoopNil.Φ rfl (by simp only [List.all_cons, List.all_nil, hflat, Bool.and_true, Bool.true_and]; rfl) h1 rfl
  refine body_x (Nat.le_of_ble_eq_true rfl) (fun env he g => ?_)
  have g0 := g 0 (by simp)
  have g1 := g 1 (by simp)
  change eget env 0 = .arr (S.map cS) at g0
  change eget env 1 = .agg (cS x) at g1
  clear g
  simp [law27_LoopNil.c] at he
  have hlv := lives_spec
  obtain ⟨H0, hH0⟩ : ∃ H0 : Heap, H0 = [Ob.cells (cS x)] := ⟨_, rfl⟩
  have hb0 : evBox [] (cS x) = some (.ptr 0 0, H0) := by rw [hH0]; simp [evBox, cS, V.isCell]
  have hx0 : cellsAt H0 (.ptr 0 0) = some (cS x) := by rw [hH0]; rfl
  obtain ⟨e1, cdo⟩ := do_nil H0 x
  obtain ⟨H1, hH1⟩ : ∃ H1 : Heap, H1 = H0 ++ e1 := ⟨_, rfl⟩
  rw [← hH1] at cdo
  obtain ⟨H2, hH2⟩ : ∃ H2 : Heap, H2 = H1 ++ [Ob.cells [.int .u8 0, .int .i64 0, .int .i64 0]] := ⟨_, rfl⟩
  have hst : evStoreV (H1 ++ [Ob.cells [.int .u8 0, .int .i64 0, .int .i64 0]]) 3 (.ptr H1.length 0) (.agg [.int .u8 0, .int .i64 0, .int .i64 0]) = some (V.non, H2) := by
    rw [hH2]
    simp [evStoreV, evStore, V.cells, V.isCell, setRange]
  have hc2 : cellsAt H2 (.ptr H1.length 0) = some [.int .u8 0, .int .i64 0, .int .i64 0] := by rw [hH2]; simp [cellsAt]
  have cw := waiting_nil H2
  have cd := due_nil H2
  have ca := after_nil H2 1
  have cv := advance_nil H2 1
  have cn := now_nil H2
  have cg := given_nil H2
  have cf := fork_nil H2
  obtain ⟨e3, cc⟩ := close_nil H2
  obtain ⟨H3, hH3⟩ : ∃ H3 : Heap, H3 = H2 ++ e3 := ⟨_, rfl⟩
  rw [← hH3] at cc
  obtain ⟨e4, cl⟩ := clear_nil H3 1
  obtain ⟨H4, hH4⟩ : ∃ H4 : Heap, H4 = H3 ++ e4 := ⟨_, rfl⟩
  rw [← hH4] at cl
  obtain ⟨e5, cx⟩ := next_nil H4 0
  obtain ⟨H5, hH5⟩ : ∃ H5 : Heap, H5 = H4 ++ e5 := ⟨_, rfl⟩
  rw [← hH5] at cx
  have ct := task_nil H5 1
  have cm := micro_nil H5 1
  have q : ∀ H, evEqc H true (.cons 0 none (.leaf .i) (.cons 1 none (.leaf .i) (.cons 2 none (.leaf .i) .nil))) (.agg [.int .u8 0, .int .i64 0, .int .i64 0]) (.agg [.int .u8 0, .int .i64 0, .int .i64 0]) = some (.bool false, H) := fun H => by
    simp [evEqc, eqdV, ofCells, cellEq, okV, fV_eq]
  have b3 : ∀ H, evBuild H [.int .u8 0, .int .i64 0, .int .i64 0] [] = some (.agg [.int .u8 0, .int .i64 0, .int .i64 0], H) := fun _ => rfl
  simp only [cN] at cdo cx
  simp only [cS] at g1 hb0 hx0 cdo
  simp [law27_LoopNil.c, law27_LoopNil.r0, law27_LoopNil.r1, law27_LoopNil.r3, law27_LoopNil.r4, law27_LoopNil.r5, law27_LoopNil.r6, law27_LoopNil.r7, law27_LoopNil.r8, g0, g1, he, okV, fV_eq, evExt, V.cells, hb0, hlv, hx0, ofCells, cdo, hst, cw, cd, ca, cv]
  simp (config := { maxSteps := 3000000 }) [law27_LoopNil.r9, g0, he, okV, fV_eq, evPick, evEqn, eqnV, nilOf, hc2, ofCells, b3, q, cn, cg, cf, cc, cl, cx, ct, cm]
  refine nil2 hP hS ?_ ?_
  all_goals simp [he, g0]
end Go.Proofs.Lp
