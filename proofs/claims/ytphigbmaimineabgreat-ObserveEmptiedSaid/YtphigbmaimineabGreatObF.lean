/- Watches compared. No conditions. -/
import Derived.Test.YtphigbmaimineabGreatObE
set_option maxHeartbeats 16000000
set_option maxRecDepth 100000
set_option linter.unusedVariables false
set_option linter.unusedSimpArgs false
set_option linter.unusedSectionVars false
namespace Go.Proofs.Ob
open Go Go.Ev
theorem two_at (A B : List V) (E : Heap) (off : Nat) : cellsAt ([.cells A, .cells B] ++ E) (.ptr 0 off) = some (A.drop off) ∧ cellsAt ([.cells A, .cells B] ++ E) (.ptr 1 off) = some (B.drop off) := ⟨rfl, rfl⟩
theorem kZG (a b : Wch) (za : SzW a) (H : Heap) : callW Φ zZo [.agg (cW a), .agg (cW b)] H = some (.bool (decide (a = b)), H) := by
 have : ∃ hh, evBodyW (callW Φ) zZo.c [.agg (cW a), .agg (cW b)] [] = some (.bool (decide (a = b)), hh) := by
  refine jZa (Nat.le_of_ble_eq_true rfl) (fun env he h0 => ?_)
  have g0 := h0 0 (by simp)
  change eget env 0 = .agg (cW a) at g0
  have g1 := h0 1 (by simp)
  change eget env 1 = .agg (cW b) at g1
  clear h0
  simp [zZo.c] at he
  obtain ⟨zl, zq, zg, zr⟩ := za
  obtain ⟨B, hB⟩ : ∃ B : Heap, B = [.cells (cW a), .cells (cW b)] := ⟨_, rfl⟩
  have c0 : ∀ (E : Heap) off, cellsAt (B ++ E) (.ptr 0 off) = some ((cW a).drop off) := fun E off => by rw [hB]; rfl
  have c1 : ∀ (E : Heap) off, cellsAt (B ++ E) (.ptr 1 off) = some ((cW b).drop off) := fun E off => by rw [hB]; rfl
  have c0' : ∀ off, cellsAt B (.ptr 0 off) = some ((cW a).drop off) := fun off => by rw [hB]; rfl
  have c1' : ∀ off, cellsAt B (.ptr 1 off) = some ((cW b).drop off) := fun off => by rw [hB]; rfl
  have b0 : evBox [] (cW a) = some (.ptr 0 0, [.cells (cW a)]) := wZc [] _ (by simp [V.isCell])
  have b1 : evBox [.cells (cW a)] (cW b) = some (.ptr 1 0, B) := by rw [hB]; exact wZc [.cells (cW a)] _ (by simp [V.isCell])
  have hcc : ∀ c, (V.agg (cW c)).cells = cW c := fun c => rfl
  by_cases q_r : ((a.regs.length : Int) != b.regs.length) = true
  ·have hne : a ≠ b := fun e => by subst e; simp at q_r
   simp [zZo.c, zZo.r0, zZo.r1, zZo.r2, zZo.r3, zZo.r11, zZo.r17, g0, g1, he, hcc, b0, b1, c0', c1', evPick, qZO, q_r, hne]
  have q_rf : ((a.regs.length : Int) != b.regs.length) = false := by simpa using q_r
  by_cases q_n : (a.next != b.next) = true
  ·have hne : a ≠ b := fun e => by subst e; simp at q_n
   simp [zZo.c, zZo.r0, zZo.r1, zZo.r2, zZo.r3, zZo.r11, zZo.r17, g0, g1, he, hcc, b0, b1, c0', c1', evPick, qZO, q_rf, q_n, hne]
  have q_nf : (a.next != b.next) = false := by simpa using q_n
  by_cases q_q : ((a.qs.length : Int) != b.qs.length) = true
  ·have hne : a ≠ b := fun e => by subst e; simp at q_q
   simp [zZo.c, zZo.r0, zZo.r1, zZo.r2, zZo.r3, zZo.r11, zZo.r17, g0, g1, he, hcc, b0, b1, c0', c1', evPick, qZO, q_rf, q_nf, q_q, hne]
  have q_qf : ((a.qs.length : Int) != b.qs.length) = false := by simpa using q_q
  have hlr : a.regs.length = b.regs.length := by simp at q_rf; omega
  have hlq : a.qs.length = b.qs.length := by simp at q_qf; omega
  have hnx : a.next = b.next := by simpa using q_nf
  simp [zZo.c, zZo.r0, zZo.r1, zZo.r3, g0, g1, he, hcc, b0, b1, c0', c1', evPick, qZO, q_rf, q_nf, q_qf]
  refine kLoop (fun m s => ∃ (i : Nat) (E : Heap), m = a.regs.length - i ∧ i ≤ a.regs.length ∧ eget s.env 2 = .ptr 0 0 ∧ eget s.env 3 = .ptr 1 0 ∧ eget s.env 5 = .int .i64 i ∧ s.env.length = 102 ∧ s.marks = [] ∧ s.heap = B ++ E ∧ a.regs.take i = b.regs.take i) a.regs.length
   ⟨0, [], rfl, by omega, by simp [he], by simp [he], by simp [he], by simpa using he, rfl, by simp, rfl⟩ ?_
  rintro m ⟨env, mk, Hh⟩ ⟨i, E, rfl, hi, k2, k3, k5, hl, hm, hH, hw⟩
  simp only at k2 k3 k5 hl hm hH
  obtain rfl := hm
  obtain rfl := hH
  by_cases c : i < a.regs.length
  ·have cc1 : (i : Int) < a.regs.length := by omega
   obtain ⟨x, hx⟩ : ∃ x, a.regs[i]? = some x := ⟨_, List.getElem?_eq_getElem c⟩
   obtain ⟨y, hy⟩ : ∃ y, b.regs[i]? = some y := ⟨_, List.getElem?_eq_getElem (by omega)⟩
   have ia := fun H => jZv (h := H) (k := .i64) hx
   have ib := fun H => jZv (h := H) (k := .i64) hy
   have wr := wrap64 (n := (i : Int) + 1) (by omega) (by omega)
   have sx : evStoreV (B ++ (E ++ [.cells zG])) 12 (.ptr (B.length + E.length) 0) (.agg (cG x)) = some (V.non, B ++ (E ++ [.cells (cG x)])) := by
    rw [← List.append_assoc, ← List.append_assoc, ← List.length_append]; exact vZX rfl rfl rfl
   simp [zZo.b10, zZo.r4, zZo.r5, k2, k3, k5, hl, c0, c1, c, qZO, ia, okG, sx]
   obtain ⟨E1, hE1⟩ : ∃ E1, E1 = E ++ [.cells (cG x)] := ⟨_, rfl⟩
   have e1 : B.length + (E.length + 1) = B.length + E1.length := by rw [hE1]; simp
   rw [← hE1]
   have sy : evStoreV (B ++ (E1 ++ [.cells zG])) 12 (.ptr (B.length + E1.length) 0) (.agg (cG y)) = some (V.non, B ++ (E1 ++ [.cells (cG y)])) := by
    rw [← List.append_assoc, ← List.append_assoc, ← List.length_append]; exact vZX rfl rfl rfl
   have cx : ∀ off, cellsAt (B ++ (E1 ++ [.cells (cG y)])) (.ptr (B.length + E.length) off) = some ((cG x).drop off) := fun off => by
    have := (cells_two (B ++ E) (cG x) (cG y) off).1
    rw [hE1]; simpa [List.append_assoc] using this
   have cy : ∀ off, cellsAt (B ++ (E1 ++ [.cells (cG y)])) (.ptr (B.length + E1.length) off) = some ((cG y).drop off) := fun off => by
    rw [← List.append_assoc, ← List.length_append]; exact wZi _ _ _
   simp [zZo.r6, k2, k3, k5, hl, c0, c1, ib, okG, sy]
   obtain ⟨E2, hE2⟩ : ∃ E2, E2 = E1 ++ [.cells (cG y)] := ⟨_, rfl⟩
   rw [← hE2]
   rw [← hE2] at cx cy
   have S := wZL x.o y.o (zg x (List.mem_of_getElem? hx)) (B ++ E2)
   have dx : ∀ off, (cG x).drop off = (cGv x (.arr (x.o.filt.map cT))).drop off := fun _ => rfl
   have dy : ∀ off, (cG y).drop off = (cGv y (.arr (y.o.filt.map cT))).drop off := fun _ => rfl
   simp only [dx] at cx
   simp only [dy] at cy
   have ne2 : x ≠ y → a ≠ b := fun h e => ne_at hx hy h (by rw [e])
   by_cases q_id : (x.id != y.id) = true
   ·have hxy : x ≠ y := fun e => by subst e; simp at q_id
    have hne := ne2 hxy
    simp [zZo.r7, zZo.r8, zZo.r9, k2, k3, k5, hl, cx, cy, evPick, q_id, hne]
   have q_idf : (x.id != y.id) = false := by simpa using q_id
   by_cases q_obs : (x.obs != y.obs) = true
   ·have hxy : x ≠ y := fun e => by subst e; simp at q_obs
    have hne := ne2 hxy
    simp [zZo.r7, zZo.r8, zZo.r9, k2, k3, k5, hl, cx, cy, evPick, q_idf, q_obs, hne]
   have q_obsf : (x.obs != y.obs) = false := by simpa using q_obs
   by_cases q_node : (x.node != y.node) = true
   ·have hxy : x ≠ y := fun e => by subst e; simp at q_node
    have hne := ne2 hxy
    simp [zZo.r7, zZo.r8, zZo.r9, k2, k3, k5, hl, cx, cy, evPick, q_idf, q_obsf, q_node, hne]
   have q_nodef : (x.node != y.node) = false := by simpa using q_node
   by_cases q_src : (x.src != y.src) = true
   ·have hxy : x ≠ y := fun e => by subst e; simp at q_src
    have hne := ne2 hxy
    simp [zZo.r7, zZo.r8, zZo.r9, k2, k3, k5, hl, cx, cy, evPick, q_idf, q_obsf, q_nodef, q_src, hne]
   have q_srcf : (x.src != y.src) = false := by simpa using q_src
   by_cases q_o : decide (x.o = y.o) = false
   ·have hxy : x ≠ y := fun e => by subst e; simp at q_o
    have hne := ne2 hxy
    rw [q_o] at S
    simp [zZo.r7, zZo.r8, zZo.r9, k2, k3, k5, hl, cx, cy, evPick, q_idf, q_obsf, q_nodef, q_srcf, S, hne]
   have q_of : decide (x.o = y.o) = true := by simpa using q_o
   rw [q_of] at S
   have hxy : x = y := by
    cases x; cases y
    simp at q_idf q_obsf q_nodef q_srcf q_of
    simp [q_idf, q_obsf, q_nodef, q_srcf, q_of]
   simp [zZo.r7, zZo.r8, zZo.r9, k2, k3, k5, hl, cx, cy, evPick, q_idf, q_obsf, q_nodef, q_srcf, S, wr]
   
   exact ⟨a.regs.length - (i + 1), by omega, i + 1, rfl, by omega, by simp, wZp hw hx (by rw [hy, hxy])⟩
  ·have hre : a.regs = b.regs := by
    rw [List.take_of_length_le (by omega), List.take_of_length_le (by omega)] at hw
    exact hw
   simp [zZo.b10, zZo.r4, zZo.c, zZo.r11, k2, k3, k5, hl, c0, c1, qZO, c]
   refine kLoop (fun m s => ∃ (i : Nat), m = a.qs.length - i ∧ i ≤ a.qs.length ∧ eget s.env 2 = .ptr 0 0 ∧ eget s.env 3 = .ptr 1 0 ∧ eget s.env 8 = .int .i64 i ∧ s.env.length = 102 ∧ s.marks = [] ∧ s.heap = B ++ E ∧ a.qs.take i = b.qs.take i) a.qs.length
    ⟨0, rfl, by omega, by simp [hl, k2], by simp [hl, k3], by simp [hl], by simpa using hl, rfl, rfl, rfl⟩ ?_
   rintro m ⟨env, mk, Hh⟩ ⟨i, rfl, hi, k2, k3, k8, hl, hm, hH, hw⟩
   simp only at k2 k3 k8 hl hm hH
   obtain rfl := hm
   obtain rfl := hH
   by_cases c : i < a.qs.length
   ·have cc1 : (i : Int) < a.qs.length := by omega
    obtain ⟨x, hx⟩ : ∃ x, a.qs[i]? = some x := ⟨_, List.getElem?_eq_getElem c⟩
    obtain ⟨y, hy⟩ : ∃ y, b.qs[i]? = some y := ⟨_, List.getElem?_eq_getElem (by omega)⟩
    have ia := fun H => wZ4 (h := H) (k := .i64) hx
    have ib := fun H => wZ4 (h := H) (k := .i64) hy
    have wr := wrap64 (n := (i : Int) + 1) (by omega) (by omega)
    have S := vZY x y (zr x (List.mem_of_getElem? hx)) (B ++ E)
    simp [zZo.b16, zZo.r12, k2, k3, k8, hl, c0, c1, c, qZO]
    refine kDraw1 zZo.r13.ord ?_
    by_cases hq : x = y
    ·rw [decide_eq_true hq] at S
     simp [zZo.r13, zZo.r15, k2, k3, k8, hl, c0, c1, ia, ib, okQ, S, wr]
     exact ⟨a.qs.length - (i + 1), by omega, i + 1, rfl, by omega, by simp, wZp hw hx (by rw [hy, hq])⟩
    ·rw [decide_eq_false hq] at S
     have hne : a ≠ b := fun e => ne_at hx hy hq (by rw [e])
     simp [zZo.c, zZo.r13, zZo.r14, k2, k3, k8, hl, c0, c1, ia, ib, okQ, S, hne]
   ·have hqe : a.qs = b.qs := by
     rw [List.take_of_length_le (by omega), List.take_of_length_le (by omega)] at hw
     exact hw
    have hab : a = b := by
     cases a; cases b
     simp only at hre hqe hnx
     rw [hre, hqe, hnx]
    subst hab
    simp [zZo.b16, zZo.r12, zZo.c, zZo.r17, k2, k3, k8, hl, c0, c1, qZO, c]
 obtain ⟨h', hb⟩ := this
 exact vZG (h := H) zZo.Φ rfl (args := [.agg (cW a), .agg (cW b)]) rfl hb rfl
end Go.Proofs.Ob
