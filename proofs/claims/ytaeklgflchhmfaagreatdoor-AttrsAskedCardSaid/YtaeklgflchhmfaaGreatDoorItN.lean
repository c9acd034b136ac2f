/- Rings, and whether a forest is right: the document's answer. No conditions. -/
import Derived.Test.YtaeklgflchhmfaaGreatDoorItM
set_option maxHeartbeats 16000000
set_option maxRecDepth 100000
set_option linter.unusedVariables false
set_option linter.unusedSimpArgs false
set_option linter.unusedSectionVars false
namespace Go.Proofs.It
open Go Go.Ev
def upN (f : List Nd) : Nat → Int → Int
 | 0, h => h
 | n + 1, h => above (at_ f (upN f n h))
def ringGo (f : List Nd) (h : Int) : Nat → Bool
 | 0 => true
 | n + 1 => is_ f h && ringGo f (above (at_ f h)) n
def ring (f : List Nd) (h : Int) : Bool := ringGo f h (f.length + 1)
theorem xZm (f : List Nd) (h : Int) (z : Sz f) (H : Heap) : callW Φ zZO [eF f, .int .i64 h] H = some (.bool (ring f h), H) := by
 have : ∃ hh, evBodyW (callW Φ) zZO.c [eF f, .int .i64 h] [] = some (.bool (ring f h), hh) := by
  have hlen := z.len
  obtain ⟨K, hK⟩ : ∃ K : Heap, K = [Ob.cells [.arr (f.map cN)]] := ⟨_, rfl⟩
  have hb : evBox [] [.arr (f.map cN)] = some (.ptr 0 0, K) := by rw [hK]; simp [evBox, V.isCell]
  have hK0 : K[0]? = some (.cells [.arr (f.map cN)]) := by rw [hK]; rfl
  refine qZ3 (Nat.le_of_ble_eq_true rfl) (fun env he h0 => ?_)
  have g0 := h0 0 (by simp)
  have g1 := h0 1 (by simp)
  change eget env 0 = .agg [.arr (f.map cN)] at g0
  change eget env 1 = .int .i64 h at g1
  clear h0
  simp [zZO.c] at he
  have hcc : (V.agg [V.arr (f.map cN)]).cells = [.arr (f.map cN)] := rfl
  simp [zZO.c, zZO.r0, zZO.r1, zZO.r2, g0, g1, he, hcc, hb]
  refine kLoop (fun m s => ∃ (i : Nat) (x : Int), m = f.length + 1 - i ∧ i ≤ f.length + 1 ∧ s.env.length = 27 ∧ eget s.env 2 = .ptr 0 0 ∧ eget s.env 5 = .int .i64 x ∧ eget s.env 6 = .int .i64 i ∧ s.marks = [] ∧ s.heap[0]? = some (.cells [.arr (f.map cN)]) ∧ ring f h = ringGo f x (f.length + 1 - i)) (f.length + 1) ⟨0, h, by simp [he, hK0, ring]⟩ ?_
  rintro m ⟨e, mk, hp⟩ ⟨i, x, rfl, hi, he, k2, k5, k6, hm, hh, hat⟩
  simp only at he k2 k5 k6 hm hh
  subst hm
  have c0 : cellsAt hp (.ptr 0 0) = some [.arr (f.map cN)] := by simp [cellsAt, hh]
  by_cases hlt : i ≤ f.length
  ·have hw : IntKind.i64.wrap ((i : Int) + 1) = ((i + 1 : Nat) : Int) := by rw [Ev.wrap64] <;> omega
   have hi1 : (i : Int) ≤ (f.length : Int) := by omega
   obtain ⟨r, hr⟩ : ∃ r, f.length + 1 - i = r + 1 := ⟨f.length - i, by omega⟩
   rw [hr] at hat
   simp only [ringGo] at hat
   have hN := fun H => vZp f x z.len H
   simp only [eF] at hN
   have hpu := pushN hp (at_ f x)
   have da := atN hp (at_ f x)
   have d0 := da 0
   simp only [List.drop_zero] at d0
   have hA := fun H => kZx (at_ f x) H
   have h2 : (hp ++ [Ob.cells (cN (at_ f x))])[0]? = some (.cells [.arr (f.map cN)]) := by rw [List.getElem?_append_left (List.getElem?_eq_some_iff.1 hh).1]; exact hh
   obtain ⟨H2, hH2⟩ : ∃ H2, H2 = hp ++ [Ob.cells (cN (at_ f x))] := ⟨_, rfl⟩
   rw [← hH2] at hpu d0 h2
   simp only [eN] at hA
   have hln : (cN (at_ f x)).length = 16 := rfl
   cases hs : is_ f x with
   | false =>
    rw [hs] at hat
    simp only [Bool.false_and] at hat
    rw [hat]
    simp only [hs] at hN
    simp [zZO.b9, zZO.r3, zZO.r4, zZO.r5, zZO.r6, k2, k5, k6, he, faddrP, c0, hi1, hlt, hN, eN, evExt, hpu, ofCells]
   | true =>
    rw [hs] at hat
    simp only [Bool.true_and] at hat
    simp only [hs] at hN
    simp [zZO.b9, zZO.r3, zZO.r4, zZO.r5, zZO.r7, zZO.r8, k2, k5, k6, he, faddrP, c0, hi1, hlt, hN, eN, evExt, hpu, d0, okN, hA, ofCells]
    have hrr : r = f.length + 1 - (i + 1) := by omega
    rw [hrr] at hat
    exact ⟨f.length + 1 - (i + 1), by omega, i + 1, rfl, by omega, by simpa using hw, h2, by simpa using hat⟩
  ·have : i = f.length + 1 := by omega
   subst this
   have hz : ¬ ((f.length : Int) + 1 ≤ (f.length : Int)) := by omega
   have hr : ring f h = true := by rw [hat]; simp [ringGo]
   rw [hr]
   simp [zZO.b9, zZO.r3, zZO.r10, k2, k6, he, faddrP, c0, hz, ofCells]
 obtain ⟨h', hb⟩ := this
 exact zZ4 (h := H) zZO.Φ rfl (args := [eF f, .int .i64 h]) rfl hb rfl
def nodeOk (f : List Nd) (i : Nat) (n : Nd) : Bool := made n && links f (i + 1 : Nat) && !ring f (i + 1 : Nat)
def rightFrom (f : List Nd) : Nat → List Nd → Bool
 | _, [] => true
 | i, n :: l => nodeOk f i n && rightFrom f (i + 1) l
def right (f : List Nd) : Bool := decide (f.length ≤ 4096) && rightFrom f 0 f
def whyR (f : List Nd) : Int := if right f then 0 else 5
theorem kZy (f : List Nd) (z : Sz f) (H : Heap) : ∃ n, callW Φ zZy [eF f] H = some (.tup [.int .i64 (whyR f), .int .i64 n], H) := by
 have : ∃ n hh, evBodyW (callW Φ) zZy.c [eF f] [] = some (.tup [.int .i64 (whyR f), .int .i64 n], hh) := by
  obtain ⟨P, hP⟩ : ∃ P : V → Heap → Prop, P = fun y h' => ∃ n, y = .tup [.int .i64 (whyR f), .int .i64 n] := ⟨_, rfl⟩
  suffices hgo : ∃ r h', evBodyW (callW Φ) zZy.c [eF f] [] = some (r, h') ∧ P r h' by
   obtain ⟨r, h', h1, h2⟩ := hgo
   rw [hP] at h2
   obtain ⟨n, rfl⟩ := h2
   exact ⟨n, h', h1⟩
  have hPn : ∀ n h, P (.tup [.int .i64 (whyR f), .int .i64 n]) h := fun n h => by rw [hP]; exact ⟨n, rfl⟩
  have hlen := z.len
  obtain ⟨K, hK⟩ : ∃ K : Heap, K = [Ob.cells [.arr (f.map cN)]] := ⟨_, rfl⟩
  have hb : evBox [] [.arr (f.map cN)] = some (.ptr 0 0, K) := by rw [hK]; simp [evBox, V.isCell]
  have hK0 : K[0]? = some (.cells [.arr (f.map cN)]) := by rw [hK]; rfl
  have cK : cellsAt K (.ptr 0 0) = some [.arr (f.map cN)] := by rw [hK]; rfl
  refine vZU (Nat.le_of_ble_eq_true rfl) (fun env he h0 => ?_)
  have g0 := h0 0 (by simp)
  change eget env 0 = .agg [.arr (f.map cN)] at g0
  clear h0
  simp [zZy.c] at he
  have hcc : (V.agg [V.arr (f.map cN)]).cells = [.arr (f.map cN)] := rfl
  by_cases hbig : f.length ≤ 4096
  case neg =>
   have hr : right f = false := by simp [right, hbig]
   have hw : whyR f = 5 := by simp [whyR, hr]
   have hz : (4096 : Int) < (f.length : Int) := by omega
   rw [hw] at hPn
   simp [zZy.c, zZy.r0, zZy.r1, zZy.r2, g0, he, hcc, hb, cK, faddrP, hz, hPn, ofCells]
  have hz : ¬ (4096 : Int) < (f.length : Int) := by omega
  simp [zZy.c, zZy.r0, zZy.r1, zZy.r3, g0, he, hcc, hb, cK, faddrP, hz, ofCells]
  refine kLoop (fun m s => ∃ i : Nat, m = f.length - i ∧ i ≤ f.length ∧ s.env.length = 37 ∧ eget s.env 1 = .ptr 0 0 ∧ eget s.env 11 = .arr (f.map cN) ∧ eget s.env 12 = .int .i64 f.length ∧ eget s.env 13 = .int .i64 i ∧ s.marks = [] ∧ s.heap[0]? = some (.cells [.arr (f.map cN)]) ∧ right f = rightFrom f i (f.drop i)) f.length ⟨0, by simp [he, hK0, right, hbig]⟩ ?_
  rintro m ⟨e, mk, hp⟩ ⟨i, rfl, hi, he, k1, k11, k12, k13, hm, hh, hat⟩
  simp only at he k1 k11 k12 k13 hm hh
  subst hm
  by_cases hlt : i < f.length
  ·obtain ⟨x, hx⟩ : ∃ x, f[i]? = some x := ⟨_, List.getElem?_eq_getElem hlt⟩
   have hw : IntKind.i64.wrap ((i : Int) + 1) = (i : Int) + 1 := by rw [Ev.wrap64] <;> omega
   have hdx : f.drop i = x :: f.drop (i + 1) := by
    obtain ⟨hi', rfl⟩ := List.getElem?_eq_some_iff.1 hx
    exact List.drop_eq_getElem_cons hi'
   rw [hdx] at hat
   simp only [rightFrom, nodeOk] at hat
   have ha1 := qZU (h := hp) (k := .i64) vZ0 hx
   have hpu := pushN hp x
   have d0 := atN hp x 0
   simp only [List.drop_zero] at d0
   have h2 : (hp ++ [Ob.cells (cN x)])[0]? = some (.cells [.arr (f.map cN)]) := by rw [List.getElem?_append_left (List.getElem?_eq_some_iff.1 hh).1]; exact hh
   obtain ⟨H2, hH2⟩ : ∃ H2, H2 = hp ++ [Ob.cells (cN x)] := ⟨_, rfl⟩
   rw [← hH2] at hpu d0 h2
   have c0 : cellsAt H2 (.ptr 0 0) = some [.arr (f.map cN)] := by simp [cellsAt, h2]
   have hM := fun H => xZk x (z.attrs x (List.mem_of_getElem? hx)) H
   have hL := fun H => kZC f ((i + 1 : Nat) : Int) z (by omega) (by omega) H
   have hR := fun H => xZm f ((i + 1 : Nat) : Int) z H
   have ecast : ((i + 1 : Nat) : Int) = (i : Int) + 1 := by omega
   rw [ecast] at hL hR hat
   simp only [eF, eN] at hM hL hR
   cases m1 : made x with
   | false =>
    rw [m1] at hat
    simp only [Bool.false_and] at hat
    have hwh : whyR f = 5 := by simp [whyR, hat]
    rw [hwh] at hPn
    simp only [m1] at hM
    simp [zZy.b9, zZy.r4, zZy.r5, zZy.r6, zZy.r7, k1, k11, k12, k13, he, hlt, ha1, okN, eN, hpu, d0, hM, evPick, hw, hPn, ofCells]
   | true =>
    simp only [m1] at hM
    cases m2 : links f ((i : Int) + 1) with
    | false =>
     rw [m1, m2] at hat
     simp only [Bool.false_and, Bool.and_false] at hat
     have hwh : whyR f = 5 := by simp [whyR, hat]
     rw [hwh] at hPn
     simp only [m2] at hL
     simp [zZy.b9, zZy.r4, zZy.r5, zZy.r6, zZy.r7, k1, k11, k12, k13, he, hlt, ha1, okN, eN, hpu, d0, hM, evPick, hw, c0, hL, hPn, ofCells]
    | true =>
     simp only [m2] at hL
     cases m3 : ring f ((i : Int) + 1) with
     | true =>
      rw [m1, m2, m3] at hat
      simp only [Bool.not_true, Bool.false_and, Bool.and_false] at hat
      have hwh : whyR f = 5 := by simp [whyR, hat]
      rw [hwh] at hPn
      simp only [m3] at hR
      simp [zZy.b9, zZy.r4, zZy.r5, zZy.r6, zZy.r7, k1, k11, k12, k13, he, hlt, ha1, okN, eN, hpu, d0, hM, evPick, hw, c0, hL, hR, hPn, ofCells]
     | false =>
      rw [m1, m2, m3] at hat
      simp only [Bool.not_false, Bool.true_and, Bool.and_true] at hat
      simp only [m3] at hR
      simp [zZy.b9, zZy.r4, zZy.r5, zZy.r6, zZy.r8, k1, k11, k12, k13, he, hlt, ha1, okN, eN, hpu, d0, hM, evPick, hw, c0, hL, hR, ofCells]
      exact ⟨f.length - (i + 1), by omega, i + 1, rfl, by omega, by omega, h2, hat⟩
  ·have : i = f.length := by omega
   subst this
   have hr : right f = true := by rw [hat, List.drop_length]; rfl
   have hwh : whyR f = 0 := by simp [whyR, hr]
   rw [hwh] at hPn
   simp [zZy.b9, zZy.r4, zZy.r10, k12, k13, he, hPn]
 obtain ⟨n, h', hb⟩ := this
 exact ⟨n, zZ4 (h := H) zZy.Φ rfl (args := [eF f]) rfl hb rfl⟩
theorem kZz (f : List Nd) (z : Sz f) (H : Heap) : callW Φ qZn [eF f] H = some (.bool (right f), H) := by
 have : ∃ hh, evBodyW (callW Φ) qZn.c [eF f] [] = some (.bool (right f), hh) := by
  obtain ⟨K, hK⟩ : ∃ K : Heap, K = [Ob.cells [.arr (f.map cN)]] := ⟨_, rfl⟩
  have hb : evBox [] [.arr (f.map cN)] = some (.ptr 0 0, K) := by rw [hK]; simp [evBox, V.isCell]
  have cK : cellsAt K (.ptr 0 0) = some [.arr (f.map cN)] := by rw [hK]; rfl
  obtain ⟨n, hC⟩ := kZy f z K
  refine qZ3 (Nat.le_of_ble_eq_true rfl) (fun env he h0 => ?_)
  have g0 := h0 0 (by simp)
  change eget env 0 = .agg [.arr (f.map cN)] at g0
  clear h0
  simp [qZn.c] at he
  have hcc : (V.agg [V.arr (f.map cN)]).cells = [.arr (f.map cN)] := rfl
  simp only [eF] at hC
  cases hr : right f with
  | true =>
   have hw : whyR f = 0 := by simp [whyR, hr]
   rw [hw] at hC
   simp [qZn.c, qZn.r0, qZn.r1, qZn.r2, g0, he, hcc, hb, cK, hC, evExt, ofCells]
  | false =>
   have hw : whyR f = 5 := by simp [whyR, hr]
   rw [hw] at hC
   simp [qZn.c, qZn.r0, qZn.r1, qZn.r2, g0, he, hcc, hb, cK, hC, evExt, ofCells]
 obtain ⟨h', hb⟩ := this
 exact zZ4 (h := H) qZn.Φ rfl (args := [eF f]) rfl hb rfl
end Go.Proofs.It
