/- IterateMakes, IterateSteps, IterateRemoves: walked. No conditions. -/
import Derived.Test.YtohcoghaaifmgaaJtA
set_option maxHeartbeats 16000000
set_option maxRecDepth 100000
set_option linter.unusedVariables false
set_option linter.unusedSimpArgs false
set_option linter.unusedSectionVars false
namespace Go.Proofs.It
open Go Go.Ev
theorem WO_of_WK {call : CallF} {l : List Cp} {s : St} {R : St → Prop} (h : WK call none (fun e s' => e = .normal ∧ R s') [.o l] s) : ∃ s1, WO call l s (fun r => r = s1) ∧ R s1 := by
 simp only [WK] at h
 obtain ⟨s1, h1, _, h2⟩ := h
 exact ⟨s1, ⟨s1, h1, rfl⟩, h2⟩
theorem WO_eq {call : CallF} {a : List Cp} {s s1 : St} {Q : St → Prop} (h : WO call a s (fun r => r = s1)) (hq : Q s1) : WO call a s Q := by
 obtain ⟨_, h1, rfl⟩ := h
 exact ⟨_, h1, hq⟩
theorem kDrawW {call : CallF} {rnd : Option Nat} {Q : Ex → St → Prop} {s : St} {k : List It} {ops : List Cp} {af : List (List Nat)} {fl l : List Nat} {ls : List (List Nat)} (h : orders2 ops af ops.length (List.replicate ops.length false) = some (l :: ls))
  (hw : WK call none (fun e r => e = .normal ∧ (∀ l' ∈ ls, WK call none (fun e' r' => e' = .normal ∧ r' = r) [.o (l'.filterMap (ops[·]?))] s) ∧ WK call rnd Q k r) [.o (l.filterMap (ops[·]?))] s) : WK call rnd Q (.c (.draw ops af fl) :: k) s := by
 obtain ⟨s1, h1, h2, h3⟩ := WO_of_WK hw
 exact kDraw2 h (WO_eq h1 ⟨fun l' hl' => by
  obtain ⟨s2, h4, rfl⟩ := WO_of_WK (h2 l' hl')
  exact h4, h3⟩)
theorem pushIt (K : Heap) (j : Itr) {n : Nat} (hn : K.length = n) : evStoreV (K ++ [.cells zIt]) 5 (.ptr n 0) (eIt j) = some (V.non, K ++ [.cells (cIt j)]) := by
 have := storeIt (H := K ++ [.cells zIt]) (id := n) (a := .int .i64 0) (b := .int .i64 0) (c := .bool false) (d := .int .u32 0) (e := .nils) j (by rw [← hn]; simp)
 rw [this, ← hn]
 simp [List.set_append]
theorem told_flt (i : Itr) (b : Bool) (o : Option Int) : (toldI i b o).flt = i.flt := by cases o <;> rfl
theorem next_fl (f : List Nd) {i : Itr} (z : Fz i.flt) : (nextI f i).flt.rules.length < 2 ^ 50 := by
 unfold nextI; split
 ·rw [told_flt]; exact z.len
 ·decide
theorem prev_fl (f : List Nd) {i : Itr} (z : Fz i.flt) : (prevI f i).flt.rules.length < 2 ^ 50 := by
 unfold prevI; split
 ·rw [told_flt]; exact z.len
 ·decide
theorem rem_fl (f : List Nd) {i : Itr} (z : Fz i.flt) (node : Int) : (remT f i node).flt.rules.length < 2 ^ 50 := by
 unfold remT; split
 ·unfold remI; split
  ·split <;> exact z.len
  ·exact z.len
 ·decide
theorem new_fl (f : List Nd) (root : Int) {t : Flt} (z : Fz t) : (newI f root t).flt.rules.length < 2 ^ 50 := by
 unfold newI; split
 ·exact z.len
 ·decide
theorem wZv (f : List Nd) (z : Sz f) (i : Itr) (zt : Fz i.flt) (H : Heap) : callW Φ zZG [eF f, eIt i] H = some (.bool true, H) := by
 have : ∃ hh, evBodyW (callW Φ) zZG.c [eF f, eIt i] [] = some (.bool true, hh) := by
  obtain ⟨K0, hK0⟩ : ∃ K0 : Heap, K0 = [cF f] := ⟨_, rfl⟩
  obtain ⟨K1, hK1⟩ : ∃ K1 : Heap, K1 = [cF f, .cells (cIt i)] := ⟨_, rfl⟩
  have hb0 : evBox [] [.arr (f.map cN)] = some (.ptr 0 0, K0) := by rw [hK0]; exact qZd [] rfl
  have hb1 : evBox K0 (cIt i) = some (.ptr 1 0, K1) := by rw [hK0, hK1]; exact qZd _ rfl
  obtain ⟨a, ha⟩ : ∃ a, a = nextI f i := ⟨_, rfl⟩
  obtain ⟨c, hc⟩ : ∃ c, c = prevI f i := ⟨_, rfl⟩
  obtain ⟨K2, hK2⟩ : ∃ K2 : Heap, K2 = K1 ++ [.cells (cIt a)] := ⟨_, rfl⟩
  obtain ⟨K3, hK3⟩ : ∃ K3 : Heap, K3 = K2 ++ [.cells (cIt a)] := ⟨_, rfl⟩
  obtain ⟨K4, hK4⟩ : ∃ K4 : Heap, K4 = K3 ++ [.cells (cIt c)] := ⟨_, rfl⟩
  obtain ⟨K5, hK5⟩ : ∃ K5 : Heap, K5 = K4 ++ [.cells (cIt c)] := ⟨_, rfl⟩
  have l1 : K1.length = 2 := by rw [hK1]; rfl
  have l2 : K2.length = 3 := by rw [hK2, hK1]; rfl
  have l3 : K3.length = 4 := by rw [hK3, hK2, hK1]; rfl
  have l4 : K4.length = 5 := by rw [hK4, hK3, hK2, hK1]; rfl
  have p1 := pushIt K1 a l1
  have p2 := pushIt K2 a l2
  have p3 := pushIt K3 c l3
  have p4 := pushIt K4 c l4
  rw [← hK2] at p1
  rw [← hK3] at p2
  rw [← hK4] at p3
  rw [← hK5] at p4
  have a1 : cellsAt K1 (.ptr 0 0) = some [.arr (f.map cN)] := by rw [hK1]; rfl
  have a2 : cellsAt K2 (.ptr 0 0) = some [.arr (f.map cN)] := by rw [hK2, hK1]; rfl
  have a3 : cellsAt K3 (.ptr 0 0) = some [.arr (f.map cN)] := by rw [hK3, hK2, hK1]; rfl
  have a4 : cellsAt K4 (.ptr 0 0) = some [.arr (f.map cN)] := by rw [hK4, hK3, hK2, hK1]; rfl
  have b1 : cellsAt K1 (.ptr 1 0) = some (cIt i) := by rw [hK1]; rfl
  have b2 : cellsAt K2 (.ptr 1 0) = some (cIt i) := by rw [hK2, hK1]; rfl
  have b3 : cellsAt K3 (.ptr 1 0) = some (cIt i) := by rw [hK3, hK2, hK1]; rfl
  have b4 : cellsAt K4 (.ptr 1 0) = some (cIt i) := by rw [hK4, hK3, hK2, hK1]; rfl
  have d2 : cellsAt K5 (.ptr 2 0) = some (cIt a) := by rw [hK5, hK4, hK3, hK2, hK1]; rfl
  have d3 : cellsAt K5 (.ptr 3 0) = some (cIt a) := by rw [hK5, hK4, hK3, hK2, hK1]; rfl
  have d4 : cellsAt K5 (.ptr 4 0) = some (cIt c) := by rw [hK5, hK4, hK3, hK2, hK1]; rfl
  have d5 : cellsAt K5 (.ptr 5 0) = some (cIt c) := by rw [hK5, hK4, hK3, hK2, hK1]; rfl
  have h1 := wZh f z i zt K1
  have h2 := xZp f z i zt K2
  have h3 := jZ2 f z i zt K3
  have h4 := xZr f z i zt K4
  have s1 := same_it a (by rw [ha]; exact next_fl f zt) K5
  have s2 := same_it c (by rw [hc]; exact prev_fl f zt) K5
  have hB := vZJ K5
  simp only [eF] at h1 h2 h3 h4
  rw [← ha] at h1 h2
  rw [← hc] at h3 h4
  refine qZE (Nat.le_of_ble_eq_true rfl) (fun env he h0 => ?_)
  have g0 := h0 0 (by simp)
  change eget env 0 = .agg [.arr (f.map cN)] at g0
  have g1 := h0 1 (by simp)
  change eget env 1 = eIt i at g1
  clear h0
  simp [zZG.c] at he
  simp [zZG.c, zZG.r0, zZG.r1, zZG.r2, zZG.r3, zZG.r4, zZG.r5, g0, g1, he, ccF, ccIt, hb0, hb1, okIt, a1, b1, h1, evExt, l1, p1, a2, b2, h2, l2, p2, a3, b3, h3, l3, p3, a4, b4, h4, l4, p4, d2, d3, d4, d5, s1, s2, hB, evPick]
 obtain ⟨h', hb⟩ := this
 exact zZQ (h := H) zZG.Φ rfl (args := [eF f, eIt i]) rfl hb rfl
theorem wZd (f : List Nd) (z : Sz f) (i : Itr) (zt : Fz i.flt) (node : Int) (H : Heap) : callW Φ zZK [eF f, eIt i, .int .i64 node] H = some (.bool true, H) := by
 have : ∃ hh, evBodyW (callW Φ) zZK.c [eF f, eIt i, .int .i64 node] [] = some (.bool true, hh) := by
  obtain ⟨K0, hK0⟩ : ∃ K0 : Heap, K0 = [cF f] := ⟨_, rfl⟩
  obtain ⟨K1, hK1⟩ : ∃ K1 : Heap, K1 = [cF f, .cells (cIt i)] := ⟨_, rfl⟩
  have hb0 : evBox [] [.arr (f.map cN)] = some (.ptr 0 0, K0) := by rw [hK0]; exact qZd [] rfl
  have hb1 : evBox K0 (cIt i) = some (.ptr 1 0, K1) := by rw [hK0, hK1]; exact qZd _ rfl
  obtain ⟨a, ha⟩ : ∃ a, a = remT f i node := ⟨_, rfl⟩
  obtain ⟨K2, hK2⟩ : ∃ K2 : Heap, K2 = K1 ++ [.cells (cIt a)] := ⟨_, rfl⟩
  obtain ⟨K3, hK3⟩ : ∃ K3 : Heap, K3 = K2 ++ [.cells (cIt a)] := ⟨_, rfl⟩
  have l1 : K1.length = 2 := by rw [hK1]; rfl
  have l2 : K2.length = 3 := by rw [hK2, hK1]; rfl
  have p1 := pushIt K1 a l1
  have p2 := pushIt K2 a l2
  rw [← hK2] at p1
  rw [← hK3] at p2
  have a1 : cellsAt K1 (.ptr 0 0) = some [.arr (f.map cN)] := by rw [hK1]; rfl
  have a2 : cellsAt K2 (.ptr 0 0) = some [.arr (f.map cN)] := by rw [hK2, hK1]; rfl
  have b1 : cellsAt K1 (.ptr 1 0) = some (cIt i) := by rw [hK1]; rfl
  have b2 : cellsAt K2 (.ptr 1 0) = some (cIt i) := by rw [hK2, hK1]; rfl
  have d2 : cellsAt K3 (.ptr 2 0) = some (cIt a) := by rw [hK3, hK2, hK1]; rfl
  have d3 : cellsAt K3 (.ptr 3 0) = some (cIt a) := by rw [hK3, hK2, hK1]; rfl
  have h1 := vZP f z i zt node K1
  have h2 := jZq f z i zt node K2
  have s1 := same_it a (by rw [ha]; exact rem_fl f zt node) K3
  have hB := vZJ K3
  simp only [eF] at h1 h2
  rw [← ha] at h1 h2
  refine qZE (Nat.le_of_ble_eq_true rfl) (fun env he h0 => ?_)
  have g0 := h0 0 (by simp)
  change eget env 0 = .agg [.arr (f.map cN)] at g0
  have g1 := h0 1 (by simp)
  change eget env 1 = eIt i at g1
  have g2 := h0 2 (by simp)
  change eget env 2 = .int .i64 node at g2
  clear h0
  simp [zZK.c] at he
  simp [zZK.c, zZK.r0, zZK.r1, zZK.r2, zZK.r3, g0, g1, g2, he, ccF, ccIt, hb0, hb1, okIt, a1, b1, h1, evExt, l1, p1, a2, b2, h2, l2, p2, d2, d3, s1, hB, evPick]
 obtain ⟨h', hb⟩ := this
 exact zZQ (h := H) zZK.Φ rfl (args := [eF f, eIt i, .int .i64 node]) rfl hb rfl
theorem wZu (f : List Nd) (z : Sz f) (root : Int) (t : Flt) (zf : Fz t) (i : Itr) (zt : Fz i.flt) (H : Heap) : callW Φ zZF [eF f, .int .i64 root, eFl t, eIt i] H = some (.bool true, H) := by
 have : ∃ hh, evBodyW (callW Φ) zZF.c [eF f, .int .i64 root, eFl t, eIt i] [] = some (.bool true, hh) := by
  obtain ⟨K0, hK0⟩ : ∃ K0 : Heap, K0 = [cF f] := ⟨_, rfl⟩
  obtain ⟨K0b, hK0b⟩ : ∃ K0b : Heap, K0b = [cF f, .cells (cFl t)] := ⟨_, rfl⟩
  obtain ⟨K1, hK1⟩ : ∃ K1 : Heap, K1 = [cF f, .cells (cFl t), .cells (cIt i)] := ⟨_, rfl⟩
  have hb0 : evBox [] [.arr (f.map cN)] = some (.ptr 0 0, K0) := by rw [hK0]; exact qZd [] rfl
  have hb1 : evBox K0 (cFl t) = some (.ptr 1 0, K0b) := by rw [hK0, hK0b]; exact qZd _ rfl
  have hb2 : evBox K0b (cIt i) = some (.ptr 2 0, K1) := by rw [hK0b, hK1]; exact qZd _ rfl
  obtain ⟨a, ha⟩ : ∃ a, a = newI f root t := ⟨_, rfl⟩
  obtain ⟨K2, hK2⟩ : ∃ K2 : Heap, K2 = K1 ++ [.cells (cIt a)] := ⟨_, rfl⟩
  obtain ⟨K3, hK3⟩ : ∃ K3 : Heap, K3 = K2 ++ [.cells (cIt a)] := ⟨_, rfl⟩
  have l1 : K1.length = 3 := by rw [hK1]; rfl
  have l2 : K2.length = 4 := by rw [hK2, hK1]; rfl
  have p1 := pushIt K1 a l1
  have p2 := pushIt K2 a l2
  rw [← hK2] at p1
  rw [← hK3] at p2
  have a1 : cellsAt K1 (.ptr 0 0) = some [.arr (f.map cN)] := by rw [hK1]; rfl
  have a2 : cellsAt K2 (.ptr 0 0) = some [.arr (f.map cN)] := by rw [hK2, hK1]; rfl
  have b1 : cellsAt K1 (.ptr 1 0) = some (cFl t) := by rw [hK1]; rfl
  have b2 : cellsAt K2 (.ptr 1 0) = some (cFl t) := by rw [hK2, hK1]; rfl
  have a3 : cellsAt K3 (.ptr 0 0) = some [.arr (f.map cN)] := by rw [hK3, hK2, hK1]; rfl
  have b3 : cellsAt K3 (.ptr 2 0) = some (cIt i) := by rw [hK3, hK2, hK1]; rfl
  have d2 : cellsAt K3 (.ptr 3 0) = some (cIt a) := by rw [hK3, hK2, hK1]; rfl
  have d3 : cellsAt K3 (.ptr 4 0) = some (cIt a) := by rw [hK3, hK2, hK1]; rfl
  have okF : ∀ H, okCells H (some 2) (some (cFl t)) = some (eFl t, H) := fun _ => rfl
  have h1 := wZF f z root t zf K1
  have h2 := xZH f z root t zf K2
  have h3 := qZ4 f z i zt K3
  have h4 := vZs f z i zt K3
  have s1 := same_it a (by rw [ha]; exact new_fl f root zf) K3
  have hB := vZJ K3
  simp only [eF] at h1 h2 h3 h4
  rw [← ha] at h1 h2
  have tail : ∀ env : List V, env.length = 47 → eget env 4 = .ptr 0 0 → eget env 7 = .ptr 2 0 → eget env 9 = .ptr 3 0 → eget env 11 = .ptr 4 0 → eget env 10 = .int .i64 (faultT f t [root]) → eget env 12 = .int .i64 (faultT f t [root]) →
    WK (callW Φ) none (FinV [.tmp 8] (.bool true)) [It.c (.draw zZF.r3 [[], [], [0, 1], [2, 2], [3], [3], [4, 5, 3], [3, 6], [7, 3], [8], [8], [9, 10, 8, 8], [8], [8], [12, 13, 11, 8], [11, 14, 8], [8, 15], [16, 14], [17, 17], [17, 18], [19, 18, 0, 1, 2, 3, 4, 5, 6, 7, 8, 9, 10, 11, 12, 13, 14, 15, 16, 17, 18, 19]] [3, 4, 5, 6, 7, 8, 15, 16, 17, 19, 20]), It.c .ret] { env := env, marks := [], heap := K3 } := by
   intro env he t4 t7 t9 t11 t10 t12
   refine kDrawW zZF.r3.ord ?_
   simp (config := { maxSteps := 5000000 }) [zZF.r3, List.filterMap_cons, t4, t7, t9, t11, t10, t12, he, d2, d3, okIt, s1, a3, b3, h3, h4, hB, evPick]
   repeat' apply And.intro
   all_goals
    simp only [kZK, wZV, List.cons_append, List.nil_append]
    exact kZJ _ rfl rfl rfl rfl
  refine qZE (Nat.le_of_ble_eq_true rfl) (fun env he h0 => ?_)
  have g0 := h0 0 (by simp)
  change eget env 0 = .agg [.arr (f.map cN)] at g0
  have g1 := h0 1 (by simp)
  change eget env 1 = .int .i64 root at g1
  have g2 := h0 2 (by simp)
  change eget env 2 = eFl t at g2
  have g3 := h0 3 (by simp)
  change eget env 3 = eIt i at g3
  clear h0
  simp [zZF.c] at he
  simp [zZF.c, zZF.r0, zZF.r1, zZF.r2, g0, g1, g2, g3, he, ccF, ccFl, ccIt, hb0, hb1, hb2, okIt, okF, a1, b1, h1, evExt, l1, p1, a2, b2, h2, l2, p2]
  refine tail _ ?_ ?_ ?_ ?_ ?_ ?_ ?_ <;> simp [he]
 obtain ⟨h', hb⟩ := this
 exact zZQ (h := H) zZF.Φ rfl (args := [eF f, .int .i64 root, eFl t, eIt i]) rfl hb rfl
end Go.Proofs.It
