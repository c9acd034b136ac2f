/- Removing: both answers. Iterators held against each other; a small forest. Behind a text that is removed, its parent. No conditions. -/
import Derived.Test.YtohcoghaaifmgaaItZx
set_option maxHeartbeats 16000000
set_option maxRecDepth 100000
set_option linter.unusedVariables false
set_option linter.unusedSimpArgs false
set_option linter.unusedSectionVars false
namespace Go.Proofs.It
open Go Go.Ev
noncomputable def remWhy (f : List Nd) (i : Itr) (node : Int) : Int := if checkI f i = 0 then faultL f [node] else checkI f i
noncomputable def remT (f : List Nd) (i : Itr) (node : Int) : Itr := if remWhy f i node = 0 then remI f i node else noIt
theorem jZq (f : List Nd) (z : Sz f) (i : Itr) (zt : Fz i.flt) (node : Int) (H : Heap) : callW Φ zZC [eF f, eIt i, .int .i64 node] H = some (.tup [eIt (remT f i node), .int .i64 (remWhy f i node)], H) := by
 refine qZ8 zZC.Φ rfl (args := [eF f, eIt i, .int .i64 node]) rfl ?_
 obtain ⟨P, hP⟩ : ∃ P : V → Heap → Prop, P = fun r h2 => ∃ h3, fz fzDepth h2 r = some (.tup [eIt (remT f i node), .int .i64 (remWhy f i node)], h3) := ⟨_, rfl⟩
 suffices hgo : ∃ r h', evBodyW (callW Φ) zZC.c [eF f, eIt i, .int .i64 node] [] = some (r, h') ∧ P r h' by rw [hP] at hgo; exact hgo
 have hPz : ∀ r h2 h3, fz fzDepth h2 r = some (.tup [eIt (remT f i node), .int .i64 (remWhy f i node)], h3) → P r h2 := fun r h2 h3 hz => by rw [hP]; exact ⟨h3, hz⟩
 have hPn : ∀ r h2, flatN2 r = true → nz2 r = .tup [eIt (remT f i node), .int .i64 (remWhy f i node)] → P r h2 := fun r h2 h h1 => hPz r h2 h2 (by rw [← h1]; exact qZ0 h)
 clear hP
 obtain ⟨K0, hK0⟩ : ∃ K0 : Heap, K0 = [cF f] := ⟨_, rfl⟩
 obtain ⟨K1, hK1⟩ : ∃ K1 : Heap, K1 = [cF f, .cells (cIt i)] := ⟨_, rfl⟩
 obtain ⟨K2, hK2⟩ : ∃ K2 : Heap, K2 = [cF f, .cells (cIt i), .cells zIt] := ⟨_, rfl⟩
 have hb0 : evBox [] [.arr (f.map cN)] = some (.ptr 0 0, K0) := by rw [hK0]; exact qZd [] rfl
 have hb1 : evBox K0 (cIt i) = some (.ptr 1 0, K1) := by rw [hK0, hK1]; exact qZd _ rfl
 have l1 : K1.length = 2 := by rw [hK1]; rfl
 have e2 : K1 ++ [.cells zIt] = K2 := by rw [hK1, hK2]; rfl
 have cK : cellsAt K2 (.ptr 0 0) = some [.arr (f.map cN)] := by rw [hK2]; rfl
 have k1 : K2[1]? = some (.cells (cIt i)) := by rw [hK2]; rfl
 have c1 := qZv k1
 have k2 : K2[2]? = some (.cells zIt) := by rw [hK2]; rfl
 have hC := vZs f z i zt K2
 obtain ⟨K3, hK3⟩ : ∃ K3 : Heap, K3 = K2 ++ [.row 1 ([node].map cI) 0 true] := ⟨_, rfl⟩
 obtain ⟨K4, hK4⟩ : ∃ K4 : Heap, K4 = K2 ++ [.row 1 ([node].map cI) 0 false] := ⟨_, rfl⟩
 have hbs := row1 K2 node
 have hF := wZX f z [node] (by simp) K2
 rw [show ([node] : List Int).length = 1 from rfl] at hF
 rw [← hK3] at hbs hF
 rw [← hK4] at hF
 have cK4 : cellsAt K4 (.ptr 0 0) = some [.arr (f.map cN)] := by rw [hK4, hK2]; rfl
 have k14 : K4[1]? = some (.cells (cIt i)) := by rw [hK4, hK2]; rfl
 have c14 := qZv k14
 have k24 : K4[2]? = some (.cells zIt) := by rw [hK4, hK2]; rfl
 have d2 : ∀ (H : Heap) (cs : List V), H[2]? = some (.cells zIt) → cellsAt (H.set 2 (.cells cs)) (.ptr 2 0) = some cs := fun H cs h => by simp [cellsAt, (List.getElem?_eq_some_iff.1 h).1]
 simp only [eF] at hC hF
 refine vZv (Nat.le_of_ble_eq_true rfl) (fun env he h0 => ?_)
 have g0 := h0 0 (by simp)
 change eget env 0 = .agg [.arr (f.map cN)] at g0
 have g1 := h0 1 (by simp)
 change eget env 1 = eIt i at g1
 have g2 := h0 2 (by simp)
 change eget env 2 = .int .i64 node at g2
 clear h0
 simp [zZC.c] at he
 by_cases hf : checkI f i = 0
 case neg =>
  have hn1 : (checkI f i == 0) = false := by simpa using hf
  have hn2 : (checkI f i != 0) = true := by simpa using hf
  have hw : remWhy f i node = checkI f i := by simp [remWhy, hf]
  have hr : remT f i node = noIt := by simp [remT, hw, hf]
  have hfin : ∀ H, P (.tup [.agg zIt, .int .i64 (checkI f i)]) H := fun H => hPn _ _ rfl (by rw [hr, hw]; rfl)
  simp [zZC.c, zZC.r0, zZC.r1, zZC.r2, zZC.r3, zZC.r4, zZC.r5, zZC.r6, g0, g1, g2, he, ccF, ccIt, hb0, hb1, l1, e2, cK, c1, okIt, hC, hn1, hn2, buildNo, storeNo k2, d2 _ _ k2, of5, hfin]
 have hn1 : (checkI f i == 0) = true := by simpa using hf
 have hw : remWhy f i node = faultL f [node] := by simp [remWhy, hf]
 by_cases hg : faultL f [node] = 0
 case neg =>
  have hn2 : (faultL f [node] != 0) = true := by simpa using hg
  have hr : remT f i node = noIt := by simp [remT, hw, hg]
  have hfin : ∀ H, P (.tup [.agg zIt, .int .i64 (faultL f [node])]) H := fun H => hPn _ _ rfl (by rw [hr, hw]; rfl)
  simp [zZC.c, zZC.r0, zZC.r1, zZC.r2, zZC.r3, zZC.r4, zZC.r5, zZC.r6, g0, g1, g2, he, ccF, ccIt, hb0, hb1, l1, e2, cK, c1, okIt, hC, hn1, hn2, hbs, hF, buildNo, storeNo k24, d2 _ _ k24, of5, hfin]
 have hn2 : (faultL f [node] != 0) = false := by simpa using hg
 have hr : remT f i node = remI f i node := by simp [remT, hw, hg]
 have hi := inF1 (faultL0 hg).2
 have hR := jZr f z i hf node hi K4
 simp only [eF] at hR
 have hfin : ∀ H, P (.tup [eIt (remI f i node), .int .i64 0]) H := fun H => hPn _ _ rfl (by rw [hr, hw, hg]; rfl)
 simp [zZC.c, zZC.r0, zZC.r1, zZC.r2, zZC.r3, zZC.r4, zZC.r5, zZC.r6, g0, g1, g2, he, ccF, ccIt, hb0, hb1, l1, e2, cK, c1, okIt, hC, hn1, hn2, hbs, hF, cK4, c14, hR, storeIt _ k24, d2 _ _ k24, ofIt, hfin]
theorem vZP (f : List Nd) (z : Sz f) (i : Itr) (zt : Fz i.flt) (node : Int) (H : Heap) : callW Φ zZt [eF f, eIt i, .int .i64 node] H = some (.tup [eIt (remT f i node), .int .i64 (remWhy f i node)], H) := by
 refine qZ8 zZt.Φ rfl (args := [eF f, eIt i, .int .i64 node]) rfl ?_
 obtain ⟨P, hP⟩ : ∃ P : V → Heap → Prop, P = fun r h2 => ∃ h3, fz fzDepth h2 r = some (.tup [eIt (remT f i node), .int .i64 (remWhy f i node)], h3) := ⟨_, rfl⟩
 suffices hgo : ∃ r h', evBodyW (callW Φ) zZt.c [eF f, eIt i, .int .i64 node] [] = some (r, h') ∧ P r h' by rw [hP] at hgo; exact hgo
 have hPz : ∀ r h2 h3, fz fzDepth h2 r = some (.tup [eIt (remT f i node), .int .i64 (remWhy f i node)], h3) → P r h2 := fun r h2 h3 hz => by rw [hP]; exact ⟨h3, hz⟩
 have hPn : ∀ r h2, flatN2 r = true → nz2 r = .tup [eIt (remT f i node), .int .i64 (remWhy f i node)] → P r h2 := fun r h2 h h1 => hPz r h2 h2 (by rw [← h1]; exact qZ0 h)
 clear hP
 obtain ⟨K0, hK0⟩ : ∃ K0 : Heap, K0 = [cF f] := ⟨_, rfl⟩
 obtain ⟨K1, hK1⟩ : ∃ K1 : Heap, K1 = [cF f, .cells (cIt i)] := ⟨_, rfl⟩
 obtain ⟨K2, hK2⟩ : ∃ K2 : Heap, K2 = [cF f, .cells (cIt i), .cells zIt] := ⟨_, rfl⟩
 have hb0 : evBox [] [.arr (f.map cN)] = some (.ptr 0 0, K0) := by rw [hK0]; exact qZd [] rfl
 have hb1 : evBox K0 (cIt i) = some (.ptr 1 0, K1) := by rw [hK0, hK1]; exact qZd _ rfl
 have l1 : K1.length = 2 := by rw [hK1]; rfl
 have e2 : K1 ++ [.cells zIt] = K2 := by rw [hK1, hK2]; rfl
 have cK : cellsAt K2 (.ptr 0 0) = some [.arr (f.map cN)] := by rw [hK2]; rfl
 have k1 : K2[1]? = some (.cells (cIt i)) := by rw [hK2]; rfl
 have c1 := qZv k1
 have k2 : K2[2]? = some (.cells zIt) := by rw [hK2]; rfl
 have hC := qZ4 f z i zt K2
 obtain ⟨K3, hK3⟩ : ∃ K3 : Heap, K3 = K2 ++ [.row 1 ([node].map cI) 0 true] := ⟨_, rfl⟩
 obtain ⟨K4, hK4⟩ : ∃ K4 : Heap, K4 = K2 ++ [.row 1 ([node].map cI) 0 false] := ⟨_, rfl⟩
 have hbs := row1 K2 node
 have hF := jZb f z [node] (by simp) K2
 rw [show ([node] : List Int).length = 1 from rfl] at hF
 rw [← hK3] at hbs hF
 rw [← hK4] at hF
 have cK4 : cellsAt K4 (.ptr 0 0) = some [.arr (f.map cN)] := by rw [hK4, hK2]; rfl
 have k14 : K4[1]? = some (.cells (cIt i)) := by rw [hK4, hK2]; rfl
 have c14 := qZv k14
 have k24 : K4[2]? = some (.cells zIt) := by rw [hK4, hK2]; rfl
 have d2 : ∀ (H : Heap) (cs : List V), H[2]? = some (.cells zIt) → cellsAt (H.set 2 (.cells cs)) (.ptr 2 0) = some cs := fun H cs h => by simp [cellsAt, (List.getElem?_eq_some_iff.1 h).1]
 simp only [eF] at hC hF
 refine vZv (Nat.le_of_ble_eq_true rfl) (fun env he h0 => ?_)
 have g0 := h0 0 (by simp)
 change eget env 0 = .agg [.arr (f.map cN)] at g0
 have g1 := h0 1 (by simp)
 change eget env 1 = eIt i at g1
 have g2 := h0 2 (by simp)
 change eget env 2 = .int .i64 node at g2
 clear h0
 simp [zZt.c] at he
 by_cases hf : checkI f i = 0
 case neg =>
  have hn1 : (checkI f i == 0) = false := by simpa using hf
  have hn2 : (checkI f i != 0) = true := by simpa using hf
  have hw : remWhy f i node = checkI f i := by simp [remWhy, hf]
  have hr : remT f i node = noIt := by simp [remT, hw, hf]
  have hfin : ∀ H, P (.tup [.agg zIt, .int .i64 (checkI f i)]) H := fun H => hPn _ _ rfl (by rw [hr, hw]; rfl)
  simp [zZt.c, zZt.r0, zZt.r1, zZt.r2, zZt.r3, zZt.r4, zZt.r5, zZt.r6, g0, g1, g2, he, ccF, ccIt, hb0, hb1, l1, e2, cK, c1, okIt, hC, hn1, hn2, buildNo, storeNo k2, d2 _ _ k2, of5, hfin]
 have hn1 : (checkI f i == 0) = true := by simpa using hf
 have hw : remWhy f i node = faultL f [node] := by simp [remWhy, hf]
 by_cases hg : faultL f [node] = 0
 case neg =>
  have hn2 : (faultL f [node] != 0) = true := by simpa using hg
  have hr : remT f i node = noIt := by simp [remT, hw, hg]
  have hfin : ∀ H, P (.tup [.agg zIt, .int .i64 (faultL f [node])]) H := fun H => hPn _ _ rfl (by rw [hr, hw]; rfl)
  simp [zZt.c, zZt.r0, zZt.r1, zZt.r2, zZt.r3, zZt.r4, zZt.r5, zZt.r6, g0, g1, g2, he, ccF, ccIt, hb0, hb1, l1, e2, cK, c1, okIt, hC, hn1, hn2, hbs, hF, buildNo, storeNo k24, d2 _ _ k24, of5, hfin]
 have hn2 : (faultL f [node] != 0) = false := by simpa using hg
 have hr : remT f i node = remI f i node := by simp [remT, hw, hg]
 have hi := inF1 (faultL0 hg).2
 have hR := wZR f z i hf node hi K4
 simp only [eF] at hR
 have hfin : ∀ H, P (.tup [eIt (remI f i node), .int .i64 0]) H := fun H => hPn _ _ rfl (by rw [hr, hw, hg]; rfl)
 simp [zZt.c, zZt.r0, zZt.r1, zZt.r2, zZt.r3, zZt.r4, zZt.r5, zZt.r6, g0, g1, g2, he, ccF, ccIt, hb0, hb1, l1, e2, cK, c1, okIt, hC, hn1, hn2, hbs, hF, cK4, c14, hR, storeIt _ k24, d2 _ _ k24, ofIt, hfin]
open Go Go.Ev
theorem eqcR (H : Heap) (r : Ru) : evEqc H true (.cons 0 none (.leaf .i) (.cons 1 none (.leaf .s) (.cons 2 none (.leaf .i) .nil))) (.agg (cR r)) (.agg (cR r)) = some (.bool false, H) := by
 simp [evEqc, eqdV, ofCells, cellEq, okV, fV_eq, cR, wZ3]
theorem same_flt (t : Flt) (hl : t.rules.length < 2 ^ 50) (H : Heap) : callW Φ zZs [eFl t, eFl t] H = some (.bool true, H) := by
 have : ∃ hh, evBodyW (callW Φ) zZs.c [eFl t, eFl t] [] = some (.bool true, hh) := by
  obtain ⟨K0, hK0⟩ : ∃ K0 : Heap, K0 = [.cells (cFl t)] := ⟨_, rfl⟩
  obtain ⟨K1, hK1⟩ : ∃ K1 : Heap, K1 = [.cells (cFl t), .cells (cFl t)] := ⟨_, rfl⟩
  have hb0 : evBox [] (cFl t) = some (.ptr 0 0, K0) := by rw [hK0]; exact qZd [] rfl
  have hb1 : evBox K0 (cFl t) = some (.ptr 1 0, K1) := by rw [hK0, hK1]; exact qZd _ rfl
  have c0 := qZv (show K1[0]? = some (.cells (cFl t)) by rw [hK1]; rfl)
  have c1 := qZv (show K1[1]? = some (.cells (cFl t)) by rw [hK1]; rfl)
  refine qZE (Nat.le_of_ble_eq_true rfl) (fun env he h0 => ?_)
  have g0 := h0 0 (by simp)
  change eget env 0 = eFl t at g0
  have g1 := h0 1 (by simp)
  change eget env 1 = eFl t at g1
  clear h0
  simp [zZs.c] at he
  obtain ⟨l, hl0⟩ : ∃ l, l = t.rules := ⟨_, rfl⟩
  rw [← hl0] at hl
  have okF1 : ∀ H, okCells H none (some (cFl t).tail) = some (.arr (l.map cR), H) := fun H => by rw [hl0]; rfl
  simp [zZs.c, zZs.r0, zZs.r1, zZs.r2, zZs.r3, zZs.r9, g0, g1, he, ccFl, hb0, hb1, c0, c1, okF0, okF1, evPick]
  refine kLoop (fun m s => ∃ i : Nat, m = l.length - i ∧ i ≤ l.length ∧ s.env.length = 38 ∧ eget s.env 2 = .ptr 0 0 ∧ eget s.env 3 = .ptr 1 0 ∧ eget s.env 5 = .int .i64 i ∧ s.marks = [] ∧ s.heap = K1) l.length ⟨0, by simp [he]⟩ ?_
  rintro m ⟨e, mk, hp⟩ ⟨i, rfl, hi, he, k2, k3, k5, hm, hh⟩
  simp only at he k2 k3 k5 hm hh
  obtain rfl := hm
  obtain rfl := hh
  by_cases hlt : i < l.length
  ·obtain ⟨x, hx⟩ : ∃ x, l[i]? = some x := ⟨_, List.getElem?_eq_getElem hlt⟩
   have hw : IntKind.i64.wrap ((i : Int) + 1) = ((i + 1 : Nat) : Int) := by rw [Ev.wrap64] <;> omega
   have ha1 := qZj (h := hp) (k := .i64) cR_len hx
   simp [zZs.b8, zZs.r4, zZs.r6, zZs.r7, k2, k3, k5, he, c0, c1, okF1, hlt]
   refine kDraw1 zZs.r5.ord ?_
   simp [zZs.b8, zZs.r4, zZs.r6, zZs.r7, zZs.r5, List.filterMap_cons, k2, k3, k5, he, c0, c1, okF1, ha1, okR, eqcR]
   exact ⟨l.length - (i + 1), by omega, i + 1, rfl, by omega, by simpa using hw⟩
  ·have : i = l.length := by omega
   subst this
   simp [zZs.b8, zZs.r4, zZs.r6, zZs.r7, zZs.r9, k2, k3, k5, he, c0, okF1]
 obtain ⟨h', hb⟩ := this
 exact zZQ (h := H) zZs.Φ rfl (args := [eFl t, eFl t]) rfl hb rfl
theorem same_it (i : Itr) (hl : i.flt.rules.length < 2 ^ 50) (H : Heap) : callW Φ qZH [eIt i, eIt i] H = some (.bool true, H) := by
 have : ∃ hh, evBodyW (callW Φ) qZH.c [eIt i, eIt i] [] = some (.bool true, hh) := by
  obtain ⟨K0, hK0⟩ : ∃ K0 : Heap, K0 = [.cells (cIt i)] := ⟨_, rfl⟩
  obtain ⟨K1, hK1⟩ : ∃ K1 : Heap, K1 = [.cells (cIt i), .cells (cIt i)] := ⟨_, rfl⟩
  have hb0 : evBox [] (cIt i) = some (.ptr 0 0, K0) := by rw [hK0]; exact qZd [] rfl
  have hb1 : evBox K0 (cIt i) = some (.ptr 1 0, K1) := by rw [hK0, hK1]; exact qZd _ rfl
  have c0 := qZv (show K1[0]? = some (.cells (cIt i)) by rw [hK1]; rfl)
  have c1 := qZv (show K1[1]? = some (.cells (cIt i)) by rw [hK1]; rfl)
  have hF := same_flt i.flt hl K1
  refine qZE (Nat.le_of_ble_eq_true rfl) (fun env he h0 => ?_)
  have g0 := h0 0 (by simp)
  change eget env 0 = eIt i at g0
  have g1 := h0 1 (by simp)
  change eget env 1 = eIt i at g1
  clear h0
  simp [qZH.c] at he
  simp [qZH.c, qZH.r0, qZH.r1, g0, g1, he, ccIt, hb0, hb1, c0, c1, okIt0, okIt1, okIt2, okIt3, eqcB, hF, evPick]
 obtain ⟨h', hb⟩ := this
 exact zZQ (h := H) qZH.Φ rfl (args := [eIt i, eIt i]) rfl hb rfl
def b97 : Nm := ⟨⟨#[]⟩, ⟨#[]⟩, ⟨#[97]⟩⟩
def smallF : List Nd := [{ noNd with kind := 9, kids := [2], doc := 1 }, { noNd with kind := 1, name := b97, parent := 1, kids := [3, 4], doc := 1 }, { noNd with kind := 3, data := [65], parent := 2, doc := 1 }, { noNd with kind := 3, data := [66], parent := 2, doc := 1 }]
theorem kZo  (H : Heap) : callW Φ qZF [] H = some (eF smallF, H) := by
 refine qZ8 qZF.Φ rfl (args := []) rfl ?_
 obtain ⟨P, hP⟩ : ∃ P : V → Heap → Prop, P = fun r h2 => ∃ h3, fz fzDepth h2 r = some (eF smallF, h3) := ⟨_, rfl⟩
 suffices hgo : ∃ r h', evBodyW (callW Φ) qZF.c [] [] = some (r, h') ∧ P r h' by rw [hP] at hgo; exact hgo
 have hPz : ∀ r h2 h3, fz fzDepth h2 r = some (eF smallF, h3) → P r h2 := fun r h2 h3 hz => by rw [hP]; exact ⟨h3, hz⟩
 have hPn : ∀ r h2, flatN2 r = true → nz2 r = eF smallF → P r h2 := fun r h2 h h1 => hPz r h2 h2 (by rw [← h1]; exact qZ0 h)
 clear hP
 refine vZv (Nat.le_of_ble_eq_true rfl) (fun env he h0 => ?_)
 clear h0
 simp [qZF.c] at he
 simp [qZF.c, qZF.r0, qZF.r1, he, evBslice, evBuild, placeParts, setRange, chunks, V.cells, V.isCell, evStoreV, evStore, cellsAt, ofCells, List.replicate]
 exact hPz _ _ _ rfl
open Go Go.Ev
def flt0 : Flt := ⟨4294967295, []⟩
theorem jZu : right smallF = true := by decide +kernel
theorem kZL : Sz smallF := ⟨by decide, by decide, by decide⟩
theorem flt0_fz : Fz flt0 := ⟨by decide, by decide⟩
theorem small_is1 : is_ smallF 1 = true := by decide
theorem small_is3 : is_ smallF 3 = true := by decide
theorem wZC : faultT smallF flt0 [1] = 0 := by simp [faultT, faultL, jZu, inF, wrongT, flt0, rusOk, small_is1]
theorem small_new : newI smallF 1 flt0 = newIt 1 flt0 := by simp [newI, wZC]
theorem jZt : checkI smallF (newIt 1 flt0) = 0 := by rw [check_new]; exact wZC
theorem xZ5 : nextO smallF (newIt 1 flt0) = some 1 := by decide +kernel
theorem small_d1 : Dep smallF 1 1 := .up (by decide) (by show Dep smallF 0 0; exact .nil)
theorem small_d3 : Dep smallF 3 3 := .up (by decide) (by show Dep smallF 2 2; exact .up (by decide) (by show Dep smallF 1 1; exact small_d1))
def it3 : Itr := ⟨1, 3, false, flt0⟩
theorem small_h13 : holdsF smallF 1 3 = true := by rw [vZI small_d3]; decide
theorem small_h33 : holdsF smallF 3 3 = true := by rw [vZI small_d3]; decide
theorem small_h31 : holdsF smallF 3 1 = false := by rw [vZI small_d1]; decide
theorem small_check3 : checkI smallF it3 = 0 := by
 unfold checkI
 rw [show it3.flt = flt0 from rfl, show it3.root = 1 from rfl, show it3.ref = 3 from rfl, wZC, if_pos rfl, small_h13]
 rfl
theorem small_why : remWhy smallF it3 3 = 0 := by simp [remWhy, small_check3, faultL, jZu, inF, small_is3]
theorem small_ref : remRef smallF 3 = 2 := by decide +kernel
theorem small_rem : remT smallF it3 3 = { it3 with ref := 2, before := false } := by
 simp only [remT, small_why, if_true, remI]
 rw [show it3.ref = 3 from rfl, show it3.root = 1 from rfl, small_h33, small_h31, small_ref]
 rfl
theorem vZJ (H : Heap) : callW Φ zZZ [] H = some (.bool true, H) := by
 have : ∃ hh, evBodyW (callW Φ) zZZ.c [] [] = some (.bool true, hh) := by
  obtain ⟨F, hF⟩ : ∃ F, F = V.arr (smallF.map cN) := ⟨_, rfl⟩
  have eF0 : eF smallF = .agg [F] := by rw [hF]; rfl
  obtain ⟨j, hj⟩ : ∃ j : Itr, j = newIt 1 flt0 := ⟨_, rfl⟩
  have jr : j.ref = 1 := by rw [hj]; rfl
  have jb : j.before = true := by rw [hj]; rfl
  have jf : j.flt = flt0 := by rw [hj]; rfl
  have hS := kZo []
  rw [eF0] at hS
  have hR := fun H => vZS smallF kZL H
  rw [jZu, eF0] at hR
  have hN := fun H => wZF smallF kZL 1 flt0 flt0_fz H
  rw [small_new, wZC, eF0, ← hj] at hN
  have hX := fun H => wZh smallF kZL j (by rw [jf]; exact flt0_fz) H
  have x1 : nextI smallF j = { j with ref := 1, before := false } := by rw [hj]; simp only [nextI, jZt, if_true, xZ5, toldI]
  have x2 : nextN smallF j = 1 := by rw [hj]; simp only [nextN, jZt, if_true, xZ5, toldN]
  have x3 : checkI smallF j = 0 := by rw [hj]; exact jZt
  rw [x1, x2, x3, eF0] at hX
  obtain ⟨k, hk⟩ : ∃ k : Itr, k = { j with ref := 1, before := false } := ⟨_, rfl⟩
  have kb : k.before = false := by rw [hk]
  rw [← hk] at hX
  have hM := fun H => vZP smallF kZL it3 flt0_fz 3 H
  rw [small_why, small_rem, eF0] at hM
  obtain ⟨r, hr⟩ : ∃ r : Itr, r = { it3 with ref := 2, before := false } := ⟨_, rfl⟩
  have rr : r.ref = 2 := by rw [hr]
  have rb : r.before = false := by rw [hr]
  rw [← hr] at hM
  have bf : ∀ H, evBuild H [.int .u32 0, .nils] [(0, 1, .int .u32 4294967295)] = some (.agg [.int .u32 4294967295, .nils], H) := fun H => by simp [evBuild, placeParts, V.cells, V.isCell, setRange]
  have hN' : ∀ H, callW Φ zZ1 [.agg [F], .int .i64 1, .agg [.int .u32 4294967295, .nils]] H = some (.tup [eIt j, .int .i64 0], H) := fun H => by
   refine jZP (Φ := Φ) zZ1.Φ rfl (h0 := []) (h0' := []) («as» := [.agg [F], .int .i64 1, eFl flt0]) (by rw [hF]; rfl) ?_ (hN [])
   rw [hF]
   rfl
  have bi : ∀ H, evBuild H [.int .i64 0, .int .i64 0, .bool false, .int .u32 0, .nils] [(0, 1, .int .i64 1), (1, 1, .int .i64 3), (3, 2, eFl flt0)] = some (eIt it3, H) := fun H => by
   simp [evBuild, placeParts, eFl, cFl, V.cells, V.isCell, setRange, eIt, cIt, it3]
  obtain ⟨K0, hK0⟩ : ∃ K0 : Heap, K0 = [.cells [.nils]] := ⟨_, rfl⟩
  obtain ⟨K1, hK1⟩ : ∃ K1 : Heap, K1 = [.cells [F]] := ⟨_, rfl⟩
  obtain ⟨K2, hK2⟩ : ∃ K2 : Heap, K2 = [.cells [F], .cells zIt] := ⟨_, rfl⟩
  obtain ⟨K3, hK3⟩ : ∃ K3 : Heap, K3 = [.cells [F], .cells (cIt j)] := ⟨_, rfl⟩
  obtain ⟨K4, hK4⟩ : ∃ K4 : Heap, K4 = [.cells [F], .cells (cIt j), .cells zIt] := ⟨_, rfl⟩
  obtain ⟨K5, hK5⟩ : ∃ K5 : Heap, K5 = [.cells [F], .cells (cIt j), .cells (cIt k)] := ⟨_, rfl⟩
  obtain ⟨K6, hK6⟩ : ∃ K6 : Heap, K6 = [.cells [F], .cells (cIt j), .cells (cIt k), .cells zIt] := ⟨_, rfl⟩
  obtain ⟨K7, hK7⟩ : ∃ K7 : Heap, K7 = [.cells [F], .cells (cIt j), .cells (cIt k), .cells (cIt r)] := ⟨_, rfl⟩
  have a0 : ([] : Heap) ++ [.cells [.nils]] = K0 := by rw [hK0]; rfl
  have s1 : evStoreV K0 1 (.ptr 0 0) (.agg [F]) = some (V.non, K1) := by rw [hK0, hK1, hF]; rfl
  have c1 : cellsAt K1 (.ptr 0 0) = some [F] := by rw [hK1]; rfl
  have l1 : K1.length = 1 := by rw [hK1]; rfl
  have a2 : K1 ++ [.cells zIt] = K2 := by rw [hK1, hK2]; rfl
  have s3 : evStoreV K2 5 (.ptr 1 0) (eIt j) = some (V.non, K3) := by rw [hK2, hK3]; exact storeIt j rfl
  have c3 : cellsAt K3 (.ptr 0 0) = some [F] := by rw [hK3]; rfl
  have d3 := qZv (show K3[1]? = some (.cells (cIt j)) by rw [hK3]; rfl)
  have l3 : K3.length = 2 := by rw [hK3]; rfl
  have a4 : K3 ++ [.cells zIt] = K4 := by rw [hK3, hK4]; rfl
  have s5 : evStoreV K4 5 (.ptr 2 0) (eIt k) = some (V.non, K5) := by rw [hK4, hK5]; exact storeIt k rfl
  have c5 : cellsAt K5 (.ptr 0 0) = some [F] := by rw [hK5]; rfl
  have d5 := qZv (show K5[1]? = some (.cells (cIt j)) by rw [hK5]; rfl)
  have l5 : K5.length = 3 := by rw [hK5]; rfl
  have a6 : K5 ++ [.cells zIt] = K6 := by rw [hK5, hK6]; rfl
  have s7 : evStoreV K6 5 (.ptr 3 0) (eIt r) = some (V.non, K7) := by rw [hK6, hK7]; exact storeIt r rfl
  have d7 := qZv (show K7[1]? = some (.cells (cIt j)) by rw [hK7]; rfl)
  have e7 := qZv (show K7[2]? = some (.cells (cIt k)) by rw [hK7]; rfl)
  have f7 := qZv (show K7[3]? = some (.cells (cIt r)) by rw [hK7]; rfl)
  refine qZE (Nat.le_of_ble_eq_true rfl) (fun env he h0 => ?_)
  clear h0
  simp [zZZ.c] at he
  simp [zZZ.c, zZZ.r0, zZZ.r1, zZZ.r2, zZZ.r3, zZZ.r4, zZZ.r5, zZZ.r6, zZZ.r7, he, hS, a0, s1, c1, hR, bf, hN', evExt, l1, a2, s3, c3, d3, okIt, hX, l3, a4, s5, c5, d5, okIt3, jf, bi, hM, l5, a6, s7, d7, e7, f7, okIt1, okIt2, jr, jb, kb, rr, rb, evPick]
 obtain ⟨h', hb⟩ := this
 exact zZQ (h := H) zZZ.Φ rfl (args := []) rfl hb rfl
end Go.Proofs.It
