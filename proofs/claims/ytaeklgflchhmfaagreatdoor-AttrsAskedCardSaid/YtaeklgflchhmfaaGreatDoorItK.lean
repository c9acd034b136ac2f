/- Kids by their kinds; rings: the document's answer. No conditions. -/
import Derived.Test.YtaeklgflchhmfaaGreatDoorItH
set_option maxHeartbeats 16000000
set_option maxRecDepth 100000
set_option linter.unusedVariables false
set_option linter.unusedSimpArgs false
set_option linter.unusedSectionVars false
namespace Go.Proofs.It
open Go Go.Ev
def kidsGo (f : List Nd) (k : Int) : List Int → Nat → Nat → Bool
 | [], e, t => k != 9 || (decide (e ≤ 1) && decide (t ≤ 1))
 | h :: r, e, t =>
  if kindOf f h == 1 then kidsGo f k r (e + 1) t
  else if kindOf f h == 3 || kindOf f h == 4 then !(k == 9) && kidsGo f k r e t
  else if kindOf f h == 8 || kindOf f h == 7 then kidsGo f k r e t
  else if kindOf f h == 10 then (k == 9 && e == 0) && kidsGo f k r e (t + 1)
  else false
def kidsOk (f : List Nd) (k : Int) (l : List Int) : Bool := kidsGo f k l 0 0
theorem xZl (f : List Nd) (k : Int) (l : List Int) (hf : f.length < 2 ^ 50) (hlen : l.length < 2 ^ 50) (H : Heap) : callW Φ zZe [eF f, .int .u8 k, eI l] H = some (.bool (kidsOk f k l), H) := by
 have : ∃ hh, evBodyW (callW Φ) zZe.c [eF f, .int .u8 k, eI l] [] = some (.bool (kidsOk f k l), hh) := by
  have hK := fun h H => wZx f h hf H
  obtain ⟨K, hKd⟩ : ∃ K : Heap, K = [Ob.cells [.arr (f.map cN)]] := ⟨_, rfl⟩
  have hb : evBox [] [.arr (f.map cN)] = some (.ptr 0 0, K) := by rw [hKd]; simp [evBox, V.isCell]
  have c0 : cellsAt K (.ptr 0 0) = some [.arr (f.map cN)] := by rw [hKd]; rfl
  refine qZ3 (Nat.le_of_ble_eq_true rfl) (fun env he h0 => ?_)
  have g0 := h0 0 (by simp)
  have g1 := h0 1 (by simp)
  have g2 := h0 2 (by simp)
  change eget env 0 = .agg [.arr (f.map cN)] at g0
  change eget env 1 = .int .u8 k at g1
  change eget env 2 = eI l at g2
  clear h0
  simp [zZe.c] at he
  simp only [eF] at hK
  simp [zZe.c, zZe.r0, zZe.r1, zZe.r2, g0, g2, he, eI, V.cells, hb]
  refine kLoop (fun m s => ∃ i a t : Nat, m = l.length - i ∧ i ≤ l.length ∧ a ≤ i ∧ t ≤ i ∧ s.env.length = 53 ∧ eget s.env 1 = .int .u8 k ∧ eget s.env 3 = .ptr 0 0 ∧ eget s.env 7 = .int .i64 a ∧ eget s.env 8 = .int .i64 t ∧ eget s.env 11 = .arr (l.map cI) ∧ eget s.env 12 = .int .i64 l.length ∧ eget s.env 13 = .int .i64 i ∧ s.marks = [] ∧ s.heap = K ∧
    kidsOk f k l = kidsGo f k (l.drop i) a t) l.length ⟨0, 0, 0, by simp [g1, g2, he, kidsOk, eI]⟩ ?_
  rintro m ⟨e, mk, hp⟩ ⟨i, a, t, rfl, hi, hai, hti, he, k1, k3, k7, k8, k11, k12, k13, hm, hh, hat⟩
  simp only at he k1 k3 k7 k8 k11 k12 k13 hm hh
  obtain rfl := hm
  obtain rfl := hh
  by_cases hlt : i < l.length
  ·obtain ⟨x, hx⟩ : ∃ x, l[i]? = some x := ⟨l[i], by simp [hlt]⟩
   have hw : IntKind.i64.wrap ((i : Int) + 1) = ((i + 1 : Nat) : Int) := by rw [Ev.wrap64] <;> omega
   have hwa : IntKind.i64.wrap ((a : Int) + 1) = ((a + 1 : Nat) : Int) := by rw [Ev.wrap64] <;> omega
   have hwt : IntKind.i64.wrap ((t : Int) + 1) = ((t + 1 : Nat) : Int) := by rw [Ev.wrap64] <;> omega
   rw [vZI hx] at hat
   simp only [kidsGo] at hat
   have hKx := hK x
   have ha1 := qZU (h := hp) (k := .i64) wZS hx
   cases e1 : (kindOf f x == 1) with
   | true =>
    rw [e1] at hat
    simp only [if_true] at hat
    simp [zZe.b20, zZe.r3, zZe.r4, zZe.r5, zZe.r6, zZe.r7, zZe.r19, k1, k3, k7, k8, k11, k12, k13, he, hlt, ha1, cellI, c0, hKx, ofCells, e1]
    exact ⟨l.length - (i + 1), by omega, i + 1, rfl, by omega, a + 1, by omega, t, by omega, by simpa using hwa, rfl, by simpa using hw, hat⟩
   | false =>
    rw [e1] at hat
    simp only [if_false, Bool.false_eq_true] at hat
    cases e3 : (kindOf f x == 3) with
    | true =>
     rw [e3] at hat
     simp only [Bool.true_or, if_true] at hat
     cases k9 : (k == 9) with
     | true =>
      rw [k9] at hat
      simp only [Bool.not_true, Bool.false_and] at hat
      rw [hat]
      simp [zZe.b20, zZe.r3, zZe.r4, zZe.r5, zZe.r6, zZe.r8, zZe.r10, zZe.r11, k1, k3, k7, k8, k11, k12, k13, he, hlt, ha1, cellI, c0, hKx, ofCells, e1, e3, k9]
     | false =>
      rw [k9] at hat
      simp only [Bool.not_false, Bool.true_and] at hat
      simp [zZe.b20, zZe.r3, zZe.r4, zZe.r5, zZe.r6, zZe.r8, zZe.r10, zZe.r19, k1, k3, k7, k8, k11, k12, k13, he, hlt, ha1, cellI, c0, hKx, ofCells, e1, e3, k9]
      exact ⟨l.length - (i + 1), by omega, i + 1, rfl, by omega, a, by omega, t, by omega, rfl, rfl, by simpa using hw, hat⟩
    | false =>
     cases e4 : (kindOf f x == 4) with
     | true =>
      rw [e3, e4] at hat
      simp only [Bool.false_or, if_true] at hat
      cases k9 : (k == 9) with
      | true =>
       rw [k9] at hat
       simp only [Bool.not_true, Bool.false_and] at hat
       rw [hat]
       simp [zZe.b20, zZe.r3, zZe.r4, zZe.r5, zZe.r6, zZe.r8, zZe.r9, zZe.r10, zZe.r11, k1, k3, k7, k8, k11, k12, k13, he, hlt, ha1, cellI, c0, hKx, ofCells, e1, e3, e4, k9]
      | false =>
       rw [k9] at hat
       simp only [Bool.not_false, Bool.true_and] at hat
       simp [zZe.b20, zZe.r3, zZe.r4, zZe.r5, zZe.r6, zZe.r8, zZe.r9, zZe.r10, zZe.r19, k1, k3, k7, k8, k11, k12, k13, he, hlt, ha1, cellI, c0, hKx, ofCells, e1, e3, e4, k9]
       exact ⟨l.length - (i + 1), by omega, i + 1, rfl, by omega, a, by omega, t, by omega, rfl, rfl, by simpa using hw, hat⟩
     | false =>
      rw [e3, e4] at hat
      simp only [Bool.or_self, if_false, Bool.false_eq_true] at hat
      cases e8 : (kindOf f x == 8) with
      | true =>
       rw [e8] at hat
       simp only [Bool.true_or, if_true] at hat
       simp [zZe.b20, zZe.r3, zZe.r4, zZe.r5, zZe.r6, zZe.r8, zZe.r9, zZe.r12, zZe.r19, k1, k3, k7, k8, k11, k12, k13, he, hlt, ha1, cellI, c0, hKx, ofCells, e1, e3, e4, e8]
       exact ⟨l.length - (i + 1), by omega, i + 1, rfl, by omega, a, by omega, t, by omega, rfl, rfl, by simpa using hw, hat⟩
      | false =>
       cases e7 : (kindOf f x == 7) with
       | true =>
        rw [e8, e7] at hat
        simp only [Bool.false_or, if_true] at hat
        simp [zZe.b20, zZe.r3, zZe.r4, zZe.r5, zZe.r6, zZe.r8, zZe.r9, zZe.r12, zZe.r13, zZe.r19, k1, k3, k7, k8, k11, k12, k13, he, hlt, ha1, cellI, c0, hKx, ofCells, e1, e3, e4, e8, e7]
        exact ⟨l.length - (i + 1), by omega, i + 1, rfl, by omega, a, by omega, t, by omega, rfl, rfl, by simpa using hw, hat⟩
       | false =>
        rw [e8, e7] at hat
        simp only [Bool.or_self, if_false, Bool.false_eq_true] at hat
        cases e10 : (kindOf f x == 10) with
        | false =>
         rw [e10] at hat
         simp only [if_false, Bool.false_eq_true] at hat
         rw [hat]
         simp [zZe.b20, zZe.r3, zZe.r4, zZe.r5, zZe.r6, zZe.r8, zZe.r9, zZe.r12, zZe.r13, zZe.r14, zZe.r18, k1, k3, k7, k8, k11, k12, k13, he, hlt, ha1, cellI, c0, hKx, ofCells, e1, e3, e4, e8, e7, e10]
        | true =>
         rw [e10] at hat
         simp only [if_true] at hat
         cases k9 : (k == 9) with
         | false =>
          have k9' : (k != 9) = true := by simp [bne, k9]
          rw [k9] at hat
          simp only [Bool.false_and] at hat
          rw [hat]
          simp [zZe.b20, zZe.r3, zZe.r4, zZe.r5, zZe.r6, zZe.r8, zZe.r9, zZe.r12, zZe.r13, zZe.r14, zZe.r15, zZe.r16, zZe.r17, k1, k3, k7, k8, k11, k12, k13, he, hlt, ha1, cellI, c0, hKx, ofCells, e1, e3, e4, e8, e7, e10, k9, k9', evPick]
         | true =>
          have k9' : (k != 9) = false := by simp [bne, k9]
          rw [k9] at hat
          by_cases ha0 : a = 0
          ·have z : ¬ (0 : Int) < (a : Int) := by omega
           have z2 : ¬ 0 < a := by omega
           have z3 : (a == 0) = true := by simp [ha0]
           rw [z3] at hat
           simp only [Bool.and_self, Bool.true_and] at hat
           simp [zZe.b20, zZe.r3, zZe.r4, zZe.r5, zZe.r6, zZe.r8, zZe.r9, zZe.r12, zZe.r13, zZe.r14, zZe.r15, zZe.r16, zZe.r19, k1, k3, k7, k8, k11, k12, k13, he, hlt, ha1, cellI, c0, hKx, ofCells, e1, e3, e4, e8, e7, e10, k9, k9', z, z2, evPick]
           exact ⟨l.length - (i + 1), by omega, i + 1, rfl, by omega, a, by omega, t + 1, by omega, rfl, by simpa using hwt, by simpa using hw, hat⟩
          ·have z : (0 : Int) < (a : Int) := by omega
           have z2 : 0 < a := by omega
           have z3 : (a == 0) = false := by simp [ha0]
           rw [z3] at hat
           simp only [Bool.and_false, Bool.false_and] at hat
           rw [hat]
           simp [zZe.b20, zZe.r3, zZe.r4, zZe.r5, zZe.r6, zZe.r8, zZe.r9, zZe.r12, zZe.r13, zZe.r14, zZe.r15, zZe.r16, zZe.r17, k1, k3, k7, k8, k11, k12, k13, he, hlt, ha1, cellI, c0, hKx, ofCells, e1, e3, e4, e8, e7, e10, k9, k9', z, z2, evPick]
  ·have : i = l.length := by omega
   subst this
   rw [List.drop_length] at hat
   simp only [kidsGo] at hat
   cases k9 : (k == 9) with
   | false =>
    have k9' : (k != 9) = true := by simp [bne, k9]
    rw [k9'] at hat
    simp only [Bool.true_or] at hat
    rw [hat]
    simp [zZe.b20, zZe.r3, zZe.r21, k1, k7, k8, k12, k13, he, k9', evPick]
   | true =>
    have k9' : (k != 9) = false := by simp [bne, k9]
    rw [k9'] at hat
    simp only [Bool.false_or] at hat
    rw [hat]
    by_cases z1 : a ≤ 1
    ·have z1' : (a : Int) ≤ 1 := by omega
     by_cases z2 : t ≤ 1
     ·have z2' : (t : Int) ≤ 1 := by omega
      simp [zZe.b20, zZe.r3, zZe.r21, k1, k7, k8, k12, k13, he, k9', evPick, z1, z1', z2, z2']
     ·have z2' : ¬ (t : Int) ≤ 1 := by omega
      simp [zZe.b20, zZe.r3, zZe.r21, k1, k7, k8, k12, k13, he, k9', evPick, z1, z1', z2, z2']
    ·have z1' : ¬ (a : Int) ≤ 1 := by omega
     simp [zZe.b20, zZe.r3, zZe.r21, k1, k7, k8, k12, k13, he, k9', evPick, z1, z1']
 obtain ⟨h', hb⟩ := this
 exact zZ4 (h := H) zZe.Φ rfl (args := [eF f, .int .u8 k, eI l]) rfl hb rfl
end Go.Proofs.It
