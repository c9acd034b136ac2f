/- The program's forest: kids by their kinds. No conditions. -/
import Derived.Test.YtaeklgflchhmfaaGreatDoorItPa
set_option maxHeartbeats 16000000
set_option maxRecDepth 100000
set_option linter.unusedVariables false
set_option linter.unusedSimpArgs false
set_option linter.unusedSectionVars false
namespace Go.Proofs.It
open Go Go.Ev
theorem jZD (f : List Nd) (n : Nd) (hf : f.length < 2 ^ 50) (hlen : n.kids.length < 2 ^ 50) (H : Heap) : callW Φ zZc [eF f, eN n] H = some (.bool (kidsOk f n.kind n.kids), H) := by
 have : ∃ hh, evBodyW (callW Φ) zZc.c [eF f, eN n] [] = some (.bool (kidsOk f n.kind n.kids), hh) := by
  have hKind := fun h H => jZd f h hf H
  obtain ⟨K, hKd⟩ : ∃ K : Heap, K = [Ob.cells [.arr (f.map cN)], Ob.cells (cN n)] := ⟨_, rfl⟩
  have hb : evBox [] [.arr (f.map cN)] = some (.ptr 0 0, [Ob.cells [.arr (f.map cN)]]) := by simp [evBox, V.isCell]
  have hb2 : evBox [Ob.cells [.arr (f.map cN)]] (cN n) = some (.ptr 1 0, K) := by rw [hKd]; exact cellsN _ n
  have c0 : cellsAt K (.ptr 0 0) = some [.arr (f.map cN)] := by rw [hKd]; rfl
  have d0 : cellsAt K (.ptr 1 0) = some (cN n) := by rw [hKd]; rfl
  have d9 : cellsAt K (.ptr 1 9) = some ((cN n).drop 9) := by rw [hKd]; rfl
  have hcc : (V.agg [V.arr (f.map cN)]).cells = [.arr (f.map cN)] := rfl
  have hcn : (V.agg (cN n)).cells = cN n := rfl
  refine qZ3 (Nat.le_of_ble_eq_true rfl) (fun env he h0 => ?_)
  have g0 := h0 0 (by simp)
  have g1 := h0 1 (by simp)
  change eget env 0 = .agg [.arr (f.map cN)] at g0
  change eget env 1 = .agg (cN n) at g1
  clear h0
  simp [zZc.c] at he
  simp only [eF] at hKind
  have hK0 : K[0]? = some (.cells [.arr (f.map cN)]) := by rw [hKd]; rfl
  simp [zZc.c, zZc.r0, zZc.r1, zZc.r2, zZc.r3, g0, g1, he, hcc, hcn, hb, hb2, faddrP, d0, d9]
  refine kLoop (fun m s => ∃ i a t : Nat, m = n.kids.length - i ∧ i ≤ n.kids.length ∧ a ≤ i ∧ t ≤ i ∧ s.env.length = 55 ∧ eget s.env 2 = .ptr 0 0 ∧ eget s.env 5 = .bool (n.kind == 9) ∧ eget s.env 6 = .int .i64 a ∧ eget s.env 7 = .int .i64 t ∧ eget s.env 14 = .arr (n.kids.map cI) ∧ eget s.env 15 = .int .i64 n.kids.length ∧ eget s.env 16 = .int .i64 i ∧ s.marks = [] ∧ s.heap[0]? = some (.cells [.arr (f.map cN)]) ∧
    kidsOk f n.kind n.kids = kidsGo f n.kind (n.kids.drop i) a t) n.kids.length ⟨0, 0, 0, by simp [g0, g1, he, kidsOk, hK0]⟩ ?_
  rintro m ⟨e, mk, hp⟩ ⟨i, a, t, rfl, hi, hai, hti, he, k2, k5, k6, k7, k14, k15, k16, hm, hh, hat⟩
  simp only at he k2 k5 k6 k7 k14 k15 k16 hm hh
  obtain rfl := hm
  have c0 : cellsAt hp (.ptr 0 0) = some [.arr (f.map cN)] := by simp [cellsAt, hh]
  by_cases hlt : i < n.kids.length
  ·obtain ⟨x, hx⟩ : ∃ x, n.kids[i]? = some x := ⟨_, List.getElem?_eq_getElem hlt⟩
   have hw : IntKind.i64.wrap ((i : Int) + 1) = ((i + 1 : Nat) : Int) := by rw [Ev.wrap64] <;> omega
   have hwa : IntKind.i64.wrap ((a : Int) + 1) = ((a + 1 : Nat) : Int) := by rw [Ev.wrap64] <;> omega
   have hwt : IntKind.i64.wrap ((t : Int) + 1) = ((t + 1 : Nat) : Int) := by rw [Ev.wrap64] <;> omega
   rw [vZI hx] at hat
   simp only [kidsGo] at hat
   obtain ⟨E, hKx⟩ := hKind x hp
   have hh2 := kept hh E
   obtain ⟨hp2, hp2e⟩ : ∃ hp2, hp2 = hp ++ E := ⟨_, rfl⟩
   rw [← hp2e] at hKx hh2
   have ha1 := qZU (h := hp) (k := .i64) wZS hx
   cases e1 : (kindOf f x == 1) with
   | true =>
    rw [e1] at hat
    simp only [if_true] at hat
    simp [zZc.b21, zZc.r4, zZc.r5, zZc.r6, zZc.r7, zZc.r8, zZc.r20, k2, k5, k6, k7, k14, k15, k16, he, hlt, ha1, cellI, c0, hKx, hh2, ofCells, e1]
    exact ⟨n.kids.length - (i + 1), by omega, i + 1, rfl, by omega, a + 1, by omega, t, by omega, by simpa using hwa, rfl, by simpa using hw, hat⟩
   | false =>
    rw [e1] at hat
    simp only [if_false, Bool.false_eq_true] at hat
    cases e10 : (kindOf f x == 10) with
    | true =>
     have e3 : (kindOf f x == 3) = false := by simp at e10; simp [e10]
     have e4 : (kindOf f x == 4) = false := by simp at e10; simp [e10]
     have e8 : (kindOf f x == 8) = false := by simp at e10; simp [e10]
     have e7 : (kindOf f x == 7) = false := by simp at e10; simp [e10]
     rw [e3, e4, e8, e7, e10] at hat
     simp only [Bool.or_self, if_false, if_true, Bool.false_eq_true] at hat
     cases k9 : (n.kind == 9) with
     | false =>
      rw [k9] at hat k5
      simp only [Bool.false_and] at hat
      rw [hat]
      simp [zZc.b21, zZc.r4, zZc.r5, zZc.r6, zZc.r7, zZc.r9, zZc.r10, zZc.r11, k2, k5, k6, k7, k14, k15, k16, he, hlt, ha1, cellI, c0, hKx, hh2, ofCells, e1, e10, k9, evPick]
     | true =>
      rw [k9] at hat k5
      by_cases ha0 : a = 0
      ·have z : ¬ (0 : Int) < (a : Int) := by omega
       have z2 : ¬ 0 < a := by omega
       have z3 : (a == 0) = true := by simp [ha0]
       rw [z3] at hat
       simp only [Bool.and_self, Bool.true_and] at hat
       simp [zZc.b21, zZc.r4, zZc.r5, zZc.r6, zZc.r7, zZc.r9, zZc.r10, zZc.r12, zZc.r20, k2, k5, k6, k7, k14, k15, k16, he, hlt, ha1, cellI, c0, hKx, hh2, ofCells, e1, e10, k9, z, z2, evPick]
       exact ⟨n.kids.length - (i + 1), by omega, i + 1, rfl, by omega, a, by omega, t + 1, by omega, rfl, by simpa using hwt, by simpa using hw, hat⟩
      ·have z : (0 : Int) < (a : Int) := by omega
       have z2 : 0 < a := by omega
       have z3 : (a == 0) = false := by simp [ha0]
       rw [z3] at hat
       simp only [Bool.and_false, Bool.false_and] at hat
       rw [hat]
       simp [zZc.b21, zZc.r4, zZc.r5, zZc.r6, zZc.r7, zZc.r9, zZc.r10, zZc.r11, k2, k5, k6, k7, k14, k15, k16, he, hlt, ha1, cellI, c0, hKx, hh2, ofCells, e1, e10, k9, z, z2, evPick]
    | false =>
     rw [e10] at hat
     simp only [if_false, Bool.false_eq_true] at hat
     cases e3 : (kindOf f x == 3) with
     | true =>
      rw [e3] at hat
      simp only [Bool.true_or, if_true] at hat
      cases k9 : (n.kind == 9) with
      | true =>
       rw [k9] at hat k5
       simp only [Bool.not_true, Bool.false_and] at hat
       rw [hat]
       simp [zZc.b21, zZc.r4, zZc.r5, zZc.r6, zZc.r7, zZc.r9, zZc.r13, zZc.r15, zZc.r16, k2, k5, k6, k7, k14, k15, k16, he, hlt, ha1, cellI, c0, hKx, hh2, ofCells, e1, e10, e3, k9]
      | false =>
       rw [k9] at hat k5
       simp only [Bool.not_false, Bool.true_and] at hat
       simp [zZc.b21, zZc.r4, zZc.r5, zZc.r6, zZc.r7, zZc.r9, zZc.r13, zZc.r15, zZc.r20, k2, k5, k6, k7, k14, k15, k16, he, hlt, ha1, cellI, c0, hKx, hh2, ofCells, e1, e10, e3, k9]
       exact ⟨n.kids.length - (i + 1), by omega, i + 1, rfl, by omega, a, by omega, t, by omega, rfl, rfl, by simpa using hw, hat⟩
     | false =>
      cases e4 : (kindOf f x == 4) with
      | true =>
       rw [e3, e4] at hat
       simp only [Bool.false_or, if_true] at hat
       cases k9 : (n.kind == 9) with
       | true =>
        rw [k9] at hat k5
        simp only [Bool.not_true, Bool.false_and] at hat
        rw [hat]
        simp [zZc.b21, zZc.r4, zZc.r5, zZc.r6, zZc.r7, zZc.r9, zZc.r13, zZc.r14, zZc.r15, zZc.r16, k2, k5, k6, k7, k14, k15, k16, he, hlt, ha1, cellI, c0, hKx, hh2, ofCells, e1, e10, e3, e4, k9]
       | false =>
        rw [k9] at hat k5
        simp only [Bool.not_false, Bool.true_and] at hat
        simp [zZc.b21, zZc.r4, zZc.r5, zZc.r6, zZc.r7, zZc.r9, zZc.r13, zZc.r14, zZc.r15, zZc.r20, k2, k5, k6, k7, k14, k15, k16, he, hlt, ha1, cellI, c0, hKx, hh2, ofCells, e1, e10, e3, e4, k9]
        exact ⟨n.kids.length - (i + 1), by omega, i + 1, rfl, by omega, a, by omega, t, by omega, rfl, rfl, by simpa using hw, hat⟩
      | false =>
       rw [e3, e4] at hat
       simp only [Bool.or_self, if_false, Bool.false_eq_true] at hat
       cases e8 : (kindOf f x == 8) with
       | true =>
        rw [e8] at hat
        simp only [Bool.true_or, if_true] at hat
        simp [zZc.b21, zZc.r4, zZc.r5, zZc.r6, zZc.r7, zZc.r9, zZc.r13, zZc.r14, zZc.r17, zZc.r20, k2, k5, k6, k7, k14, k15, k16, he, hlt, ha1, cellI, c0, hKx, hh2, ofCells, e1, e10, e3, e4, e8]
        exact ⟨n.kids.length - (i + 1), by omega, i + 1, rfl, by omega, a, by omega, t, by omega, rfl, rfl, by simpa using hw, hat⟩
       | false =>
        cases e7 : (kindOf f x == 7) with
        | true =>
         rw [e8, e7] at hat
         simp only [Bool.false_or, if_true] at hat
         simp [zZc.b21, zZc.r4, zZc.r5, zZc.r6, zZc.r7, zZc.r9, zZc.r13, zZc.r14, zZc.r17, zZc.r18, zZc.r20, k2, k5, k6, k7, k14, k15, k16, he, hlt, ha1, cellI, c0, hKx, hh2, ofCells, e1, e10, e3, e4, e8, e7]
         exact ⟨n.kids.length - (i + 1), by omega, i + 1, rfl, by omega, a, by omega, t, by omega, rfl, rfl, by simpa using hw, hat⟩
        | false =>
         rw [e8, e7] at hat
         simp only [Bool.or_self, if_false, Bool.false_eq_true] at hat
         rw [hat]
         simp [zZc.b21, zZc.r4, zZc.r5, zZc.r6, zZc.r7, zZc.r9, zZc.r13, zZc.r14, zZc.r17, zZc.r18, zZc.r19, k2, k5, k6, k7, k14, k15, k16, he, hlt, ha1, cellI, c0, hKx, hh2, ofCells, e1, e10, e3, e4, e8, e7]
  ·have : i = n.kids.length := by omega
   subst this
   rw [List.drop_length] at hat
   simp only [kidsGo] at hat
   cases k9 : (n.kind == 9) with
   | false =>
    have k9' : (n.kind != 9) = true := by simp [bne, k9]
    rw [k9'] at hat
    simp only [Bool.true_or] at hat
    rw [hat]
    rw [k9] at k5
    simp [zZc.b21, zZc.r4, zZc.r22, k5, k6, k7, k15, k16, he, evPick]
   | true =>
    have k9' : (n.kind != 9) = false := by simp [bne, k9]
    rw [k9'] at hat
    simp only [Bool.false_or] at hat
    rw [hat]
    rw [k9] at k5
    by_cases z1 : a ≤ 1
    ·have z1' : (a : Int) < 2 := by omega
     have y1 : a < 2 := by omega
     by_cases z2 : t ≤ 1
     ·have z2' : (t : Int) < 2 := by omega
      have y2 : t < 2 := by omega
      simp [zZc.b21, zZc.r4, zZc.r22, k5, k6, k7, k15, k16, he, evPick, z1, z1', y1, z2, z2', y2]
     ·have z2' : ¬ (t : Int) < 2 := by omega
      have y2 : ¬ t < 2 := by omega
      simp [zZc.b21, zZc.r4, zZc.r22, k5, k6, k7, k15, k16, he, evPick, z1, z1', y1, z2, z2', y2]
    ·have z1' : ¬ (a : Int) < 2 := by omega
     have y1 : ¬ a < 2 := by omega
     simp [zZc.b21, zZc.r4, zZc.r22, k5, k6, k7, k15, k16, he, evPick, z1, z1', y1]
 obtain ⟨h', hb⟩ := this
 exact zZ4 (h := H) zZc.Φ rfl (args := [eF f, eN n]) rfl hb rfl
end Go.Proofs.It
