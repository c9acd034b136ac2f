/- The program's Next and Prev; the last node within one. No conditions. -/
import Derived.Test.YtohcoghaaifmgaaItZv
set_option maxHeartbeats 16000000
set_option maxRecDepth 100000
set_option linter.unusedVariables false
set_option linter.unusedSimpArgs false
set_option linter.unusedSectionVars false
namespace Go.Proofs.It
open Go Go.Ev
theorem wZi  (H : Heap) : callW Φ qZA [] H = some (.tup [.agg [.int .i64 1, .bool false], .agg [.int .i64 (-1), .bool true]], H) := by
 have : ∃ hh, evBodyW (callW Φ) qZA.c [] [] = some (.tup [.agg [.int .i64 1, .bool false], .agg [.int .i64 (-1), .bool true]], hh) := by
  refine qZE (Nat.le_of_ble_eq_true rfl) (fun env he h0 => ?_)
  clear h0
  simp [qZA.c] at he
  simp [qZA.c, qZA.r0, qZA.r1, he, evBuild, placeParts, V.cells, V.isCell, setRange, evStoreV, evStore, cellsAt, ofCells]
 obtain ⟨h', hb⟩ := this
 exact zZQ (h := H) qZA.Φ rfl (args := []) rfl hb rfl
theorem wZh (f : List Nd) (z : Sz f) (i : Itr) (zt : Fz i.flt) (H : Heap) : callW Φ qZn [eF f, eIt i] H = some (.tup [eIt (nextI f i), .int .i64 (nextN f i), .int .i64 (checkI f i)], H) := by
 have : ∃ hh, evBodyW (callW Φ) qZn.c [eF f, eIt i] [] = some (.tup [eIt (nextI f i), .int .i64 (nextN f i), .int .i64 (checkI f i)], hh) := by
  obtain ⟨K0, hK0⟩ : ∃ K0 : Heap, K0 = [cF f] := ⟨_, rfl⟩
  obtain ⟨K1, hK1⟩ : ∃ K1 : Heap, K1 = [cF f, .cells (cIt i)] := ⟨_, rfl⟩
  obtain ⟨K2, hK2⟩ : ∃ K2 : Heap, K2 = [cF f, .cells (cIt i), .cells zIt] := ⟨_, rfl⟩
  obtain ⟨K3, hK3⟩ : ∃ K3 : Heap, K3 = [cF f, .cells (cIt i), .cells zIt, .cells [.int .i64 0, .bool false]] := ⟨_, rfl⟩
  obtain ⟨K4, hK4⟩ : ∃ K4 : Heap, K4 = [cF f, .cells (cIt i), .cells zIt, .cells [.int .i64 0, .bool false], .cells [.int .i64 0, .bool false]] := ⟨_, rfl⟩
  obtain ⟨K5, hK5⟩ : ∃ K5 : Heap, K5 = [cF f, .cells (cIt i), .cells zIt, .cells [.int .i64 1, .bool false], .cells [.int .i64 0, .bool false]] := ⟨_, rfl⟩
  obtain ⟨K6, hK6⟩ : ∃ K6 : Heap, K6 = [cF f, .cells (cIt i), .cells zIt, .cells [.int .i64 1, .bool false], .cells [.int .i64 (-1), .bool true]] := ⟨_, rfl⟩
  have hb0 : evBox [] [.arr (f.map cN)] = some (.ptr 0 0, K0) := by rw [hK0]; exact qZd [] rfl
  have hb1 : evBox K0 (cIt i) = some (.ptr 1 0, K1) := by rw [hK0, hK1]; exact qZd _ rfl
  have l1 : K1.length = 2 := by rw [hK1]; rfl
  have e2 : K1 ++ [.cells zIt] = K2 := by rw [hK1, hK2]; rfl
  have l2 : K2.length = 3 := by rw [hK2]; rfl
  have e3 : K2 ++ [.cells [.int .i64 0, .bool false]] = K3 := by rw [hK2, hK3]; rfl
  have l3 : K3.length = 4 := by rw [hK3]; rfl
  have e4 : K3 ++ [.cells [.int .i64 0, .bool false]] = K4 := by rw [hK3, hK4]; rfl
  have s5 : evStoreV K4 2 (.ptr 3 0) (.agg [.int .i64 1, .bool false]) = some (V.non, K5) := by rw [hK4, hK5]; rfl
  have s6 : evStoreV K5 2 (.ptr 4 0) (.agg [.int .i64 (-1), .bool true]) = some (V.non, K6) := by rw [hK5, hK6]; rfl
  have c3 : cellsAt K6 (.ptr 3 0) = some [.int .i64 1, .bool false] := by rw [hK6]; rfl
  have c4 : cellsAt K6 (.ptr 4 0) = some [.int .i64 (-1), .bool true] := by rw [hK6]; rfl
  have ok2 : ∀ H (a b : V), okCells H (some 2) (some [a, b]) = some (.agg [a, b], H) := fun _ _ _ => rfl
  have cK : cellsAt K6 (.ptr 0 0) = some [.arr (f.map cN)] := by rw [hK6]; rfl
  have k1 : K6[1]? = some (.cells (cIt i)) := by rw [hK6]; rfl
  have c1 := qZv k1
  have k2 : K6[2]? = some (.cells zIt) := by rw [hK6]; rfl
  have lt2 := (List.getElem?_eq_some_iff.1 k2).1
  have hw := wZi K2
  have hR := reach_on f z i zt K6
  simp only [eF] at hR
  have c5 : cellsAt (K6.set 2 (.cells (cIt (nextI f i)))) (.ptr 2 0) = some (cIt (nextI f i)) := by simp [cellsAt, lt2]
  refine qZE (Nat.le_of_ble_eq_true rfl) (fun env he h0 => ?_)
  have g0 := h0 0 (by simp)
  change eget env 0 = .agg [.arr (f.map cN)] at g0
  have g1 := h0 1 (by simp)
  change eget env 1 = eIt i at g1
  clear h0
  simp [qZn.c] at he
  simp [qZn.c, qZn.r0, qZn.r1, qZn.r2, g0, g1, he, ccF, ccIt, hb0, hb1, l1, e2, l2, e3, l3, e4, hw, s5, s6, c3, c4, ok2, cK, c1, okIt, hR, evExt, storeIt _ k2, c5, ofIt]
 obtain ⟨h', hb⟩ := this
 exact zZQ (h := H) qZn.Φ rfl (args := [eF f, eIt i]) rfl hb rfl
theorem jZ2 (f : List Nd) (z : Sz f) (i : Itr) (zt : Fz i.flt) (H : Heap) : callW Φ qZo [eF f, eIt i] H = some (.tup [eIt (prevI f i), .int .i64 (prevN f i), .int .i64 (checkI f i)], H) := by
 have : ∃ hh, evBodyW (callW Φ) qZo.c [eF f, eIt i] [] = some (.tup [eIt (prevI f i), .int .i64 (prevN f i), .int .i64 (checkI f i)], hh) := by
  obtain ⟨K0, hK0⟩ : ∃ K0 : Heap, K0 = [cF f] := ⟨_, rfl⟩
  obtain ⟨K1, hK1⟩ : ∃ K1 : Heap, K1 = [cF f, .cells (cIt i)] := ⟨_, rfl⟩
  obtain ⟨K2, hK2⟩ : ∃ K2 : Heap, K2 = [cF f, .cells (cIt i), .cells zIt] := ⟨_, rfl⟩
  obtain ⟨K3, hK3⟩ : ∃ K3 : Heap, K3 = [cF f, .cells (cIt i), .cells zIt, .cells [.int .i64 0, .bool false]] := ⟨_, rfl⟩
  obtain ⟨K4, hK4⟩ : ∃ K4 : Heap, K4 = [cF f, .cells (cIt i), .cells zIt, .cells [.int .i64 0, .bool false], .cells [.int .i64 0, .bool false]] := ⟨_, rfl⟩
  obtain ⟨K5, hK5⟩ : ∃ K5 : Heap, K5 = [cF f, .cells (cIt i), .cells zIt, .cells [.int .i64 1, .bool false], .cells [.int .i64 0, .bool false]] := ⟨_, rfl⟩
  obtain ⟨K6, hK6⟩ : ∃ K6 : Heap, K6 = [cF f, .cells (cIt i), .cells zIt, .cells [.int .i64 1, .bool false], .cells [.int .i64 (-1), .bool true]] := ⟨_, rfl⟩
  have hb0 : evBox [] [.arr (f.map cN)] = some (.ptr 0 0, K0) := by rw [hK0]; exact qZd [] rfl
  have hb1 : evBox K0 (cIt i) = some (.ptr 1 0, K1) := by rw [hK0, hK1]; exact qZd _ rfl
  have l1 : K1.length = 2 := by rw [hK1]; rfl
  have e2 : K1 ++ [.cells zIt] = K2 := by rw [hK1, hK2]; rfl
  have l2 : K2.length = 3 := by rw [hK2]; rfl
  have e3 : K2 ++ [.cells [.int .i64 0, .bool false]] = K3 := by rw [hK2, hK3]; rfl
  have l3 : K3.length = 4 := by rw [hK3]; rfl
  have e4 : K3 ++ [.cells [.int .i64 0, .bool false]] = K4 := by rw [hK3, hK4]; rfl
  have s5 : evStoreV K4 2 (.ptr 3 0) (.agg [.int .i64 1, .bool false]) = some (V.non, K5) := by rw [hK4, hK5]; rfl
  have s6 : evStoreV K5 2 (.ptr 4 0) (.agg [.int .i64 (-1), .bool true]) = some (V.non, K6) := by rw [hK5, hK6]; rfl
  have c3 : cellsAt K6 (.ptr 3 0) = some [.int .i64 1, .bool false] := by rw [hK6]; rfl
  have c4 : cellsAt K6 (.ptr 4 0) = some [.int .i64 (-1), .bool true] := by rw [hK6]; rfl
  have ok2 : ∀ H (a b : V), okCells H (some 2) (some [a, b]) = some (.agg [a, b], H) := fun _ _ _ => rfl
  have cK : cellsAt K6 (.ptr 0 0) = some [.arr (f.map cN)] := by rw [hK6]; rfl
  have k1 : K6[1]? = some (.cells (cIt i)) := by rw [hK6]; rfl
  have c1 := qZv k1
  have k2 : K6[2]? = some (.cells zIt) := by rw [hK6]; rfl
  have lt2 := (List.getElem?_eq_some_iff.1 k2).1
  have hw := wZi K2
  have hR := reach_back f z i zt K6
  simp only [eF] at hR
  have c5 : cellsAt (K6.set 2 (.cells (cIt (prevI f i)))) (.ptr 2 0) = some (cIt (prevI f i)) := by simp [cellsAt, lt2]
  refine qZE (Nat.le_of_ble_eq_true rfl) (fun env he h0 => ?_)
  have g0 := h0 0 (by simp)
  change eget env 0 = .agg [.arr (f.map cN)] at g0
  have g1 := h0 1 (by simp)
  change eget env 1 = eIt i at g1
  clear h0
  simp [qZo.c] at he
  simp [qZo.c, qZo.r0, qZo.r1, qZo.r2, g0, g1, he, ccF, ccIt, hb0, hb1, l1, e2, l2, e3, l3, e4, hw, s5, s6, c3, c4, ok2, cK, c1, okIt, hR, evExt, storeIt _ k2, c5, ofIt]
 obtain ⟨h', hb⟩ := this
 exact zZQ (h := H) qZo.Φ rfl (args := [eF f, eIt i]) rfl hb rfl
theorem allF_ne (f : List Nd) (r : Nat) (h : Int) : allF f r h ≠ [] := by cases r <;> simp [allF]
theorem last_kid {f : List Nd} {r : Nat} {h k : Int} (hk : (kds f h).getLast? = some k) : (allF f (r + 1) h).getLast?.getD 0 = (allF f r k).getLast?.getD 0 := by
 obtain ⟨l, hl⟩ := List.getLast?_eq_some_iff.1 hk
 simp only [allF]
 rw [hl]
 obtain ⟨q, x, hq⟩ : ∃ q x, allF f r k = q ++ [x] := by
  have := allF_ne f r k
  exact ⟨_, _, (List.dropLast_concat_getLast this).symm⟩
 have : h :: (List.map (allF f r) (l ++ [k])).flatten = (h :: ((l.map (allF f r)).flatten ++ q)) ++ [x] := by simp [hq]
 rw [this, hq]
 rw [List.getLast?_concat, List.getLast?_concat]
theorem jZ3 (f : List Nd) (z : Sz f) (R : right f = true) (h : Int) (hi : is_ f h = true) (H : Heap) : callW Φ zZV [eF f, .int .i64 h] H = some (.int .i64 ((allW f h).getLast?.getD 0), H) := by
 have : ∃ hh, evBodyW (callW Φ) zZV.c [eF f, .int .i64 h] [] = some (.int .i64 ((allW f h).getLast?.getD 0), hh) := by
  obtain ⟨K0, hK0⟩ : ∃ K0 : Heap, K0 = [cF f] := ⟨_, rfl⟩
  have hb0 : evBox [] [.arr (f.map cN)] = some (.ptr 0 0, K0) := by rw [hK0]; exact qZd [] rfl
  have cK : cellsAt K0 (.ptr 0 0) = some [.arr (f.map cN)] := by rw [hK0]; rfl
  obtain ⟨d, hd1, hd⟩ := wZN R hi
  obtain ⟨T, hT⟩ : ∃ T, T = (allW f h).getLast?.getD 0 := ⟨_, rfl⟩
  rw [← hT]
  refine qZE (Nat.le_of_ble_eq_true rfl) (fun env he h0 => ?_)
  have g0 := h0 0 (by simp)
  change eget env 0 = .agg [.arr (f.map cN)] at g0
  have g1 := h0 1 (by simp)
  change eget env 1 = .int .i64 h at g1
  clear h0
  simp [zZV.c] at he
  simp [zZV.c, zZV.r0, zZV.r1, zZV.r6, g0, g1, he, ccF, hb0]
  refine kLoop (fun m s => ∃ x k : Int, s.env.length = 14 ∧ eget s.env 1 = .int .i64 x ∧ eget s.env 5 = .int .i64 k ∧ eget s.env 2 = .ptr 0 0 ∧ s.marks = [] ∧ s.heap = K0 ∧ ((k = 0 ∧ x = T) ∨ ∃ r d, m = r + 1 ∧ is_ f k = true ∧ Dep f k d ∧ f.length ≤ d + r ∧ (allF f r k).getLast?.getD 0 = T)) (f.length + 1)
   ⟨h, h, by simp [he], by simp [g1, he], by simp [g1, he], by simp [he], rfl, rfl, .inr ⟨f.length, d, rfl, hi, hd, by omega, hT.symm⟩⟩ ?_
  rintro m ⟨e, mk, hp⟩ ⟨x, k, he, k1, k5, k2, hm, hh, hat⟩
  simp only at he k1 k5 k2 hm hh
  obtain rfl := hm
  obtain rfl := hh
  rcases hat with ⟨rfl, rfl⟩ | ⟨r, d, rfl, hki, hkd, hr, hat⟩
  ·simp [zZV.b5, zZV.r2, zZV.r3, zZV.r4, zZV.r6, k1, k5, k2, he]
  ·have hk0 : (k != 0) = true := by rw [bne_iff_ne]; rintro rfl; rw [is0] at hki; cases hki
   have hE := tree_End_spec f z k true hp
   simp only [eF] at hE
   have hEe : endI f k true = (kds f k).getLast?.getD 0 := by simp [endI, List.getLastD_eq_getLast?]
   cases hg : (kds f k).getLast? with
   | none =>
    have hnil : kds f k = [] := List.getLast?_eq_none_iff.1 hg
    have hTk : k = T := by
     rw [← hat]
     cases r with
     | zero => rfl
     | succ r => simp [allF, hnil]
    rw [hEe, hnil] at hE
    simp only [List.getLast?_nil, Option.getD_none] at hE
    simp [zZV.b5, zZV.r2, zZV.r3, zZV.r4, k1, k5, k2, he, hk0, cK, hE]
    exact ⟨0, by omega, .inl hTk⟩
   | some k' =>
    have hm : k' ∈ kds f k := List.mem_of_getLast? hg
    have hrp : r ≠ 0 := by
     rintro rfl
     rw [kds_nil R hki hkd (by omega)] at hm
     cases hm
    obtain ⟨r, rfl⟩ : ∃ r', r = r' + 1 := ⟨r - 1, by omega⟩
    have hEk : endI f k true = k' := by rw [hEe]; simp [hg]
    rw [hEk] at hE
    rw [last_kid hg] at hat
    simp [zZV.b5, zZV.r2, zZV.r3, zZV.r4, k1, k5, k2, he, hk0, cK, hE]
    exact ⟨r + 1, by omega, .inr ⟨r, rfl, (vZh R hki hm).1, d + 1, vZQ R hki hkd hm, by omega, hat⟩⟩
 obtain ⟨h', hb⟩ := this
 exact zZQ (h := H) zZV.Φ rfl (args := [eF f, .int .i64 h]) rfl hb rfl
end Go.Proofs.It
