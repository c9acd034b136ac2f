/- Take, Backup, Pop. Backup, Pop. No conditions. -/
import Derived.Test.YtoakkanklhfpmaaGreatDoorRcN
set_option maxHeartbeats 16000000
set_option maxRecDepth 100000
set_option linter.unusedVariables false
set_option linter.unusedSimpArgs false
set_option linter.unusedSectionVars false
namespace Go.Proofs.Rc
open Go Go.Ev
theorem xZ4 (H : Heap) (o : Ob) : (H ++ [o])[H.length]? = some o := by simp
theorem Own.fzT {H : Heap} {lo : Nat} {v0 v1 v2 vl : V} {o0 o1 o2 ol : Option Nat} {os0 os1 : List (Option Nat)} {Q : List Qu} {T : List (List Int)} {B : List Int} {ex0 ex1 : List (List V)} {b : Bool} (h : Own H lo v0 v1 v2 o0 o1 o2 os0 os1 Q T B ex0 ex1) {xs : List Int} (hv : VS H 1 vl ol (xs.map cI))
  (hol : ∀ id, ol = some id → ¬ (Ow o0 os0 id ∨ Ow o1 os1 id ∨ o2 = some id)) {rest : List V} (hr : ∀ H : Heap, mapH (Go.Ev.fz 63) H rest = some (rest, H)) : ∃ H', Go.Ev.fz fzDepth H (.tup (.agg [v0, v1, v2, .bool b] :: vl :: rest)) = some (.tup (.agg (cS ⟨Q, T, B, b⟩) :: .arr (xs.map cI) :: rest), H') := by
 obtain ⟨H1, f1, l1, k1⟩ := h.fz (d := 59) (b := b)
 obtain ⟨H2, f2, l2, k2⟩ := (hv.mono (h' := H1) fun id e => k1 id (fun e2 => hol id e (.inl e2)) (fun e2 => hol id e (.inr (.inl e2))) (fun e2 => hol id e (.inr (.inr e2)))).fz (d := 61)
 refine ⟨H2, ?_⟩
 show (mapH (Go.Ev.fz 63) H (.agg [v0, v1, v2, .bool b] :: vl :: rest)).map (fun p => (V.tup p.1, p.2)) = _
 have f1' : Go.Ev.fz 63 H (.agg [v0, v1, v2, .bool b]) = some (.agg (cS ⟨Q, T, B, b⟩), H1) := f1
 have f2' : Go.Ev.fz 63 H1 vl = some (.arr (xs.map cI), H2) := f2
 simp only [mapH, f1', f2', hr H2, Option.map_some]
theorem Own.fzU {H : Heap} {lo : Nat} {v0 v1 v2 : V} {o0 o1 o2 : Option Nat} {os0 os1 : List (Option Nat)} {Q : List Qu} {T : List (List Int)} {B : List Int} {ex0 ex1 : List (List V)} {b : Bool} (h : Own H lo v0 v1 v2 o0 o1 o2 os0 os1 Q T B ex0 ex1)
  {rest : List V} (hr : ∀ H : Heap, mapH (Go.Ev.fz 63) H rest = some (rest, H)) : ∃ H', Go.Ev.fz fzDepth H (.tup (.agg [v0, v1, v2, .bool b] :: rest)) = some (.tup (.agg (cS ⟨Q, T, B, b⟩) :: rest), H') := by
 obtain ⟨H1, f1, l1, k1⟩ := h.fz (d := 59) (b := b)
 refine ⟨H1, ?_⟩
 show (mapH (Go.Ev.fz 63) H (.agg [v0, v1, v2, .bool b] :: rest)).map (fun p => (V.tup p.1, p.2)) = _
 have f1' : Go.Ev.fz 63 H (.agg [v0, v1, v2, .bool b]) = some (.agg (cS ⟨Q, T, B, b⟩), H1) := f1
 simp only [mapH, f1', hr H1, Option.map_some]
theorem rest3 (r : Rx) (b : Bool) (n : Int) (H : Heap) : mapH (Go.Ev.fz 63) H [.agg (cX r), .bool b, .int .i64 n] = some ([.agg (cX r), .bool b, .int .i64 n], H) := rfl
theorem right_sz {s : Rs} (h : rightB s = true) : okQs s.qs = true ∧ s.st.length ≤ 1024 := by
 simp only [rightB, Bool.and_eq_true, decide_eq_true_eq] at h
 exact ⟨h.1.1.1.1, h.1.2⟩
def noTake (n : Int) : V := .tup [.agg (cS {}), .arr [], .agg (cX {}), .bool false, .int .i64 n]
def takeR (s : Rs) (l : List Int) : V := if rightB s = false then noTake 15 else if 4096 < l.length then noTake 3 else .tup [.agg (cS (takeS s l).1), .arr ((takeS s l).2.1.map cI), .agg (cX (takeS s l).2.2.1), .bool (takeS s l).2.2.2, .int .i64 0]
theorem xZS (s : Rs) : ∀ (l : List Int), (takeS s l).1.st = s.st ∧ (takeS s l).1.bk = s.bk ∧ (takeS s l).1.busy = s.busy
 | [] => ⟨rfl, rfl, rfl⟩
 | h :: r => by
  unfold takeS
  cases hp : s.qs.findIdx? (fun q => q.el == h) with
  | none => exact xZS s r
  | some a =>
   cases hq : s.qs[a]? with
   | none => simp only [hq]; exact ⟨trivial, trivial, trivial⟩
   | some q =>
    simp only [hq]
    by_cases c : q.l.length = 1
    ·simp only [if_pos c]; exact ⟨trivial, trivial, trivial⟩
    ·simp only [if_neg c]; exact ⟨trivial, trivial, trivial⟩
theorem takeS_eta (s : Rs) (l : List Int) : (⟨(takeS s l).1.qs, s.st, s.bk, s.busy⟩ : Rs) = (takeS s l).1 := by
 obtain ⟨h1, h2, h3⟩ := xZS s l
 rw [← h1, ← h2, ← h3]
theorem xZg (s : Rs) (z : SzS s) (l : List Int) (zl : SzL l) (H : Heap) : callW Φ zZW [.agg (cS s), .arr (l.map cI)] H = some (takeR s l, H) := by
 refine jZ2 zZW.Φ rfl (args := [.agg (cS s), .arr (l.map cI)]) rfl ?_
 obtain ⟨P, hP⟩ : ∃ P : V → Heap → Prop, P = fun r h2 => ∃ h3, fz fzDepth h2 r = some (takeR s l, h3) := ⟨_, rfl⟩
 suffices hgo : ∃ r h', evBodyW (callW Φ) zZW.c [.agg (cS s), .arr (l.map cI)] [] = some (r, h') ∧ P r h' by rw [hP] at hgo; exact hgo
 have hPz : ∀ r h2 h3, fz fzDepth h2 r = some (takeR s l, h3) → P r h2 := fun r h2 h3 hz => by rw [hP]; exact ⟨h3, hz⟩
 have hPn : ∀ r h2, flatN2 r = true → nz2 r = takeR s l → P r h2 := fun r h2 h h1 => hPz r h2 h2 (by rw [← h1]; exact wZI h)
 clear hP
 refine xZx (Nat.le_of_ble_eq_true rfl) (fun env he h0 => ?_)
 have g0 := h0 0 (by simp)
 change eget env 0 = .agg (cS s) at g0
 have g1 := h0 1 (by simp)
 change eget env 1 = .arr (l.map cI) at g1
 clear h0
 simp [zZW.c] at he
 have b0 : evBox [] (cS s) = some (.ptr 0 0, [.cells (cS s)]) := wZs [] _ rfl
 have hcc : (V.agg (cS s)).cells = cS s := rfl
 have ok4 : ∀ H : Heap, okCells H (some 4) (some (cS s)) = some (.agg (cS s), H) := fun _ => rfl
 have okz : ∀ H : Heap, okCells H (some 12) (some zX) = some (.agg zX, H) := fun _ => rfl
 have hck := wZi s z
 have c0 : cellsAt [.cells (cS s), .cells z4, .cells zX] (.ptr 0 0) = some (cS s) := rfl
 have st4 : evStoreV [.cells (cS s), .cells z4, .cells zX] 4 (.ptr 1 0) (.agg z4) = some (V.non, [.cells (cS s), .cells z4, .cells zX]) := vZE (H := [.cells (cS s), .cells z4, .cells zX]) (id := 1) (B := z4) rfl rfl rfl rfl
 have st12 : evStoreV [.cells (cS s), .cells z4, .cells zX] 12 (.ptr 2 0) (.agg zX) = some (V.non, [.cells (cS s), .cells z4, .cells zX]) := vZE (H := [.cells (cS s), .cells z4, .cells zX]) (id := 2) (B := zX) rfl rfl rfl rfl
 have c1 : cellsAt [.cells (cS s), .cells z4, .cells zX] (.ptr 1 0) = some z4 := rfl
 have c2 : cellsAt [.cells (cS s), .cells z4, .cells zX] (.ptr 2 0) = some zX := rfl
 have bd4 : ∀ H : Heap, evBuild H z4 [] = some (.agg z4, H) := fun _ => rfl
 have bd12 : ∀ H : Heap, evBuild H zX [] = some (.agg zX, H) := fun _ => rfl
 have of4 : ∀ a b c : V, ∀ t : Bool, ofCells (some 4) [a, b, c, .bool t] = some (.agg [a, b, c, .bool t]) := fun _ _ _ _ => rfl
 have ofX : ∀ r : Rx, ofCells (some 12) (cX r) = some (.agg (cX r)) := fun _ => rfl
 have ofz : ofCells (some 12) zX = some (.agg zX) := rfl
 cases hr : rightB s
 ·rw [hr] at hck
  have ht : takeR s l = noTake 15 := by unfold takeR; rw [if_pos hr]
  rw [ht] at hPz
  have fin := hPz (.tup [.agg z4, .nils, .agg zX, .bool false, .int .i64 15]) [.cells (cS s), .cells z4, .cells zX] _ rfl
  simp at hck
  simp [zZW.c, zZW.r0, zZW.r1, zZW.r2, zZW.r3, zZW.r4, zZW.r5, zZW.r6, g0, g1, he, hcc, b0, c0, ok4, hck, bd4, bd12, st4, st12, c1, c2, of4, ofz, fin]
 rw [hr] at hck
 simp at hck
 by_cases cl : 4096 < l.length
 ·have cl' : (4096 : Int) < l.length := by omega
  have ht : takeR s l = noTake 3 := by unfold takeR; rw [if_neg (by rw [hr]; simp), if_pos cl]
  rw [ht] at hPz
  have fin := hPz (.tup [.agg z4, .nils, .agg zX, .bool false, .int .i64 3]) [.cells (cS s), .cells z4, .cells zX] _ rfl
  simp [zZW.c, zZW.r0, zZW.r1, zZW.r2, zZW.r3, zZW.r4, zZW.r5, zZW.r6, g0, g1, he, hcc, b0, c0, ok4, hck, vZa, cl', bd4, bd12, st4, st12, c1, c2, of4, ofz, fin]
 have cl' : ¬ (4096 : Int) < l.length := by omega
 have ht : takeR s l = .tup [.agg (cS (takeS s l).1), .arr ((takeS s l).2.1.map cI), .agg (cX (takeS s l).2.2.1), .bool (takeS s l).2.2.2, .int .i64 0] := by unfold takeR; rw [if_neg (by rw [hr]; simp), if_neg cl]
 rw [ht] at hPz
 obtain ⟨hok, hst⟩ := right_sz hr
 obtain ⟨r1, H1, ho, v0, v1, v2, o0, o1, o2, os0, os1, rfl, hk1, hl1, hw⟩ := wZV s z [.cells (cS s), .cells z4, .cells zX]
 simp only [List.length_cons, List.length_nil, Nat.zero_add, Nat.reduceAdd] at hk1 hl1 hw
 have hcell : ([v0, v1, v2, .bool s.busy] : List V).all V.isCell = true := by simp only [List.all_cons, List.all_nil, hw.q.cell.1, hw.t.cell.1, hw.b.cell.1]; rfl
 obtain ⟨H2, hH2⟩ : ∃ H2, H2 = H1 ++ [Ob.cells [v0, v1, v2, .bool s.busy]] := ⟨_, rfl⟩
 have st9 : evStoreV (H1 ++ [.cells z4]) 4 (.ptr H1.length 0) (.agg [v0, v1, v2, .bool s.busy]) = some (V.non, H2) := by rw [hH2]; exact wZO rfl rfl hcell
 have k2 : ∀ j, j < H1.length → H2[j]? = H1[j]? := fun j hj => by rw [hH2, List.getElem?_append_left hj]
 have p2 : H2[H1.length]? = some (.cells [v0, v1, v2, .bool s.busy]) := by rw [hH2]; simp
 have hw2 := hw.mono2 (H' := H2) fun id h => k2 id (hw.lt h)
 have hl2 : H2.length = H1.length + 1 := by rw [hH2]; simp
 obtain ⟨r3, H3, hc3, v0', vl, os0', ex0', ol, rfl, p3, hw3, hvl, hol, how, hl3, hk3⟩ := jZw s H1.length 3 v0 v1 v2 o0 o1 o2 os0 os1 [] (.arr (l.map cI)) none l H2 z.1 zl hok p2 hw2 (fun id h => hw.lt h) (.inl ⟨rfl, rfl⟩) (fun id h => by cases h)
 have hz1 : H3[1]? = some (.cells z4) := by
  rw [hk3 1 (by omega) (by omega) (fun e => by have := hw.l0 1 e; omega), k2 1 (by omega), hk1 1 (by omega)]; rfl
 have hz2 : H3[2]? = some (.cells zX) := by
  rw [hk3 2 (by omega) (by omega) (fun e => by have := hw.l0 2 e; omega), k2 2 (by omega), hk1 2 (by omega)]; rfl
 have hcell3 : ([v0', v1, v2, .bool s.busy] : List V).all V.isCell = true := by simp only [List.all_cons, List.all_nil, hw3.q.cell.1, hw.t.cell.1, hw.b.cell.1]; rfl
 obtain ⟨R, hR⟩ : ∃ R, R = (takeS s l).2.2.1 := ⟨_, rfl⟩
 obtain ⟨mo, hmo⟩ : ∃ mo, mo = (takeS s l).2.2.2 := ⟨_, rfl⟩
 rw [← hR, ← hmo] at hc3 hPz
 obtain ⟨H4, hH4⟩ : ∃ H4, H4 = H3 ++ [Ob.cells (cX R)] := ⟨_, rfl⟩
 have st11 : evStoreV (H3 ++ [.cells zX]) 12 (.ptr H3.length 0) (.agg (cX R)) = some (V.non, H4) := by rw [hH4]; exact wZO rfl rfl rfl
 have k4 : ∀ j, j < H3.length → H4[j]? = H3[j]? := fun j hj => by rw [hH4, List.getElem?_append_left hj]
 have c9 : cellsAt H4 (.ptr H1.length 0) = some [v0', v1, v2, .bool s.busy] := qZo (by rw [k4 _ (by omega)]; exact p3) 0
 have c11 : cellsAt H4 (.ptr H3.length 0) = some (cX R) := by rw [hH4]; exact wZt _ _ 0
 have okp : ∀ S : Heap, okCells S (some 4) (some [v0', v1, v2, .bool s.busy]) = some (.agg [v0', v1, v2, .bool s.busy], S) := fun _ => rfl
 have s5 := vZE (H := H4) (id := 1) (n := 4) (A := [v0', v1, v2, .bool s.busy]) (B := z4) (by rw [k4 _ (by omega)]; exact hz1) rfl rfl hcell3
 obtain ⟨H5, hH5⟩ : ∃ H5, H5 = H4.set 1 (.cells [v0', v1, v2, .bool s.busy]) := ⟨_, rfl⟩
 rw [← hH5] at s5
 have k5 : ∀ j, j ≠ 1 → H5[j]? = H4[j]? := fun j hj => by rw [hH5, List.getElem?_set_ne (Ne.symm hj)]
 have c11' : cellsAt H5 (.ptr H3.length 0) = some (cX R) := qZo (by rw [k5 _ (by omega), hH4]; exact xZ4 _ _) 0
 have hx2 : H5[2]? = some (.cells zX) := by rw [k5 _ (by omega), k4 _ (by omega)]; exact hz2
 have s6 := vZE (H := H5) (id := 2) (n := 12) (A := cX R) (B := zX) hx2 rfl rfl rfl
 obtain ⟨H6, hH6⟩ : ∃ H6, H6 = H5.set 2 (.cells (cX R)) := ⟨_, rfl⟩
 rw [← hH6] at s6
 have l4 : H4.length = H3.length + 1 := by rw [hH4]; simp
 have k6 : ∀ j, 3 ≤ j → j < H3.length → H6[j]? = H3[j]? := fun j h1 h2 => by rw [hH6, List.getElem?_set_ne (by omega), k5 j (by omega), k4 j h2]
 have cr4 : cellsAt H6 (.ptr 1 0) = some [v0', v1, v2, .bool s.busy] := qZo (by rw [hH6, List.getElem?_set_ne (by omega), hH5, List.getElem?_set_self (by omega)]) 0
 have cr6 : cellsAt H6 (.ptr 2 0) = some (cX R) := by rw [hH6]; exact qZo (wZd hx2 _) 0
 have hw6 := hw3.mono2 (H' := H6) fun id h => k6 id (h.elim (hw3.l0 id) (fun h => h.elim (hw3.l1 id) (hw3.l2 id))) (hw3.lt h)
 have hvl6 := hvl.mono (h' := H6) fun id h => k6 id (by have := hol id h; omega) (hvl.lt h)
 obtain ⟨H7, f7⟩ := hw6.fzT (b := s.busy) hvl6 (fun id h h2 => by
  have h3 : id < H2.length := hw2.lt (h2.imp (how id) (fun h => h))
  have := hol id h
  omega) (rest := [.agg (cX R), .bool mo, .int .i64 0]) (fun H => rest3 R mo 0 H)
 rw [takeS_eta] at f7
 have fin := hPz _ _ _ f7
 simp [zZW.c, zZW.r0, zZW.r1, zZW.r3, zZW.r5, zZW.r6, g0, g1, he, hcc, b0, c0, ok4, hck, vZa, cl', ho, st9, hc3, evExt, st11]
 refine kEnv fun env2 hE => ?_
 have j4 : eget env2 4 = .ptr 1 0 := by rw [hE]; simp [he]
 have j6 : eget env2 6 = .ptr 2 0 := by rw [hE]; simp [he]
 have j9 : eget env2 9 = .ptr H1.length 0 := by rw [hE]; simp [he]
 have j10 : eget env2 10 = vl := by rw [hE]; simp [he]
 have j11 : eget env2 11 = .ptr H3.length 0 := by rw [hE]; simp [he]
 have j12 : eget env2 12 = .bool mo := by rw [hE]; simp [he]
 have jl : env2.length = 37 := by rw [hE]; simp [he]
 clear hE
 refine kDrawW zZW.r7.ord ?_
 simp [zZW.r7, List.filterMap_cons, j4, j6, j9, j10, j11, j12, jl, c9, okp, c11, c11', okX1, s5, s6, cr4, cr6, of4, ofX, fin]
open Go Go.Ev
def backR (s : Rs) : V := if rightB s = false then .tup [.agg (cS {}), .agg (cX {}), .bool false, .int .i64 15] else
 .tup [.agg (cS ⟨(takeS s s.bk).1.qs, s.st, (takeS s s.bk).2.1, (takeS s s.bk).2.2.2 && s.busy⟩), .agg (cX (takeS s s.bk).2.2.1), .bool (takeS s s.bk).2.2.2, .int .i64 0]
theorem kZt (s : Rs) (z : SzS s) (H : Heap) : callW Φ zZz [.agg (cS s)] H = some (backR s, H) := by
 refine jZ2 zZz.Φ rfl (args := [.agg (cS s)]) rfl ?_
 obtain ⟨P, hP⟩ : ∃ P : V → Heap → Prop, P = fun r h2 => ∃ h3, fz fzDepth h2 r = some (backR s, h3) := ⟨_, rfl⟩
 suffices hgo : ∃ r h', evBodyW (callW Φ) zZz.c [.agg (cS s)] [] = some (r, h') ∧ P r h' by rw [hP] at hgo; exact hgo
 have hPz : ∀ r h2 h3, fz fzDepth h2 r = some (backR s, h3) → P r h2 := fun r h2 h3 hz => by rw [hP]; exact ⟨h3, hz⟩
 have hPn : ∀ r h2, flatN2 r = true → nz2 r = backR s → P r h2 := fun r h2 h h1 => hPz r h2 h2 (by rw [← h1]; exact wZI h)
 clear hP
 refine xZx (Nat.le_of_ble_eq_true rfl) (fun env he h0 => ?_)
 have g0 := h0 0 (by simp)
 change eget env 0 = .agg (cS s) at g0
 clear h0
 simp [zZz.c] at he
 have b0 : evBox [] (cS s) = some (.ptr 0 0, [.cells (cS s)]) := wZs [] _ rfl
 have hcc : (V.agg (cS s)).cells = cS s := rfl
 have ok4 : ∀ H : Heap, okCells H (some 4) (some (cS s)) = some (.agg (cS s), H) := fun _ => rfl
 have hck := wZi s z
 have c0 : cellsAt [.cells (cS s), .cells z4, .cells zX] (.ptr 0 0) = some (cS s) := rfl
 have st4 : evStoreV [.cells (cS s), .cells z4, .cells zX] 4 (.ptr 1 0) (.agg z4) = some (V.non, [.cells (cS s), .cells z4, .cells zX]) := vZE (H := [.cells (cS s), .cells z4, .cells zX]) (id := 1) (B := z4) rfl rfl rfl rfl
 have st12 : evStoreV [.cells (cS s), .cells z4, .cells zX] 12 (.ptr 2 0) (.agg zX) = some (V.non, [.cells (cS s), .cells z4, .cells zX]) := vZE (H := [.cells (cS s), .cells z4, .cells zX]) (id := 2) (B := zX) rfl rfl rfl rfl
 have c1 : cellsAt [.cells (cS s), .cells z4, .cells zX] (.ptr 1 0) = some z4 := rfl
 have c2 : cellsAt [.cells (cS s), .cells z4, .cells zX] (.ptr 2 0) = some zX := rfl
 have bd4 : ∀ H : Heap, evBuild H z4 [] = some (.agg z4, H) := fun _ => rfl
 have bd12 : ∀ H : Heap, evBuild H zX [] = some (.agg zX, H) := fun _ => rfl
 have of4 : ∀ a b c : V, ∀ t : Bool, ofCells (some 4) [a, b, c, .bool t] = some (.agg [a, b, c, .bool t]) := fun _ _ _ _ => rfl
 have ofX : ∀ r : Rx, ofCells (some 12) (cX r) = some (.agg (cX r)) := fun _ => rfl
 have ofz : ofCells (some 12) zX = some (.agg zX) := rfl
 cases hr : rightB s
 ·rw [hr] at hck
  have ht : backR s = .tup [.agg (cS {}), .agg (cX {}), .bool false, .int .i64 15] := by unfold backR; rw [if_pos hr]
  rw [ht] at hPz
  have fin := hPz (.tup [.agg z4, .agg zX, .bool false, .int .i64 15]) [.cells (cS s), .cells z4, .cells zX] _ rfl
  simp at hck
  simp [zZz.c, zZz.r0, zZz.r1, zZz.r2, zZz.r3, zZz.r4, zZz.r5, zZz.r6, zZz.r7, g0, he, hcc, b0, c0, ok4, hck, bd4, bd12, st4, st12, c1, c2, of4, ofz, fin]
 rw [hr] at hck
 simp at hck
 obtain ⟨T, hT⟩ : ∃ T, T = takeS s s.bk := ⟨_, rfl⟩
 have ht : backR s = .tup [.agg (cS ⟨T.1.qs, s.st, T.2.1, T.2.2.2 && s.busy⟩), .agg (cX T.2.2.1), .bool T.2.2.2, .int .i64 0] := by unfold backR; rw [if_neg (by rw [hr]; simp), hT]
 rw [ht] at hPz
 obtain ⟨hok, hst⟩ := right_sz hr
 obtain ⟨r1, H1, ho, v0, v1, v2, o0, o1, o2, os0, os1, rfl, hk1, hl1, hw⟩ := wZV s z [.cells (cS s), .cells z4, .cells zX]
 simp only [List.length_cons, List.length_nil, Nat.zero_add, Nat.reduceAdd] at hk1 hl1 hw
 have hcell : ([v0, v1, v2, .bool s.busy] : List V).all V.isCell = true := by simp only [List.all_cons, List.all_nil, hw.q.cell.1, hw.t.cell.1, hw.b.cell.1]; rfl
 obtain ⟨H2, hH2⟩ : ∃ H2, H2 = H1 ++ [Ob.cells [v0, v1, v2, .bool s.busy]] := ⟨_, rfl⟩
 have st9 : evStoreV (H1 ++ [.cells z4]) 4 (.ptr H1.length 0) (.agg [v0, v1, v2, .bool s.busy]) = some (V.non, H2) := by rw [hH2]; exact wZO rfl rfl hcell
 have k2 : ∀ j, j < H1.length → H2[j]? = H1[j]? := fun j hj => by rw [hH2, List.getElem?_append_left hj]
 have p2 : H2[H1.length]? = some (.cells [v0, v1, v2, .bool s.busy]) := by rw [hH2]; exact xZ4 _ _
 have hw2 := hw.mono2 (H' := H2) fun id h => k2 id (hw.lt h)
 have hl2 : H2.length = H1.length + 1 := by rw [hH2]; simp
 have cb : cellsAt H2 (.ptr H1.length 2) = some [v2, .bool s.busy] := qZo p2 2
 have okb : ∀ S : Heap, okCells S none (some [v2, .bool s.busy]) = some (v2, S) := fun S => by
  have := hw.b.cell.1
  simp [okCells, this]
 obtain ⟨r3, H3, hc3, v0', vl, os0', ex0', ol, rfl, p3, hw3, hvl, hol, how, hl3, hk3⟩ := jZw s H1.length 3 v0 v1 v2 o0 o1 o2 os0 os1 [] v2 o2 s.bk H2 z.1 z.2.2.1 hok p2 hw2 (fun id h => hw.lt h) (.inr hw2.b) (fun id h => h)
 rw [← hT] at hc3 hw3 hvl
 have hz1 : H3[1]? = some (.cells z4) := by
  rw [hk3 1 (by omega) (by omega) (fun e => by have := hw.l0 1 e; omega), k2 1 (by omega), hk1 1 (by omega)]; rfl
 have hz2 : H3[2]? = some (.cells zX) := by
  rw [hk3 2 (by omega) (by omega) (fun e => by have := hw.l0 2 e; omega), k2 2 (by omega), hk1 2 (by omega)]; rfl
 obtain ⟨R, hR⟩ : ∃ R, R = T.2.2.1 := ⟨_, rfl⟩
 obtain ⟨mo, hmo⟩ : ∃ mo, mo = T.2.2.2 := ⟨_, rfl⟩
 rw [← hR, ← hmo] at hc3 hPz
 have hwB : Own H3 3 v0' v1 vl o0 o1 ol os0' os1 T.1.qs s.st T.2.1 ex0' [] :=
  ⟨hw3.q, hw3.t, hvl, hw3.l0, hw3.l1, fun k h => by have := hol k h; omega, hw3.a01, fun k h h2 => by have := hol k h2; have := hw2.lt (.inl (how k h)); omega, fun k h h2 => by have := hol k h2; have := hw2.lt (.inr (.inl h)); omega⟩
 have hcell3 : ∀ b : Bool, ([v0', v1, vl, .bool b] : List V).all V.isCell = true := fun b => by simp only [List.all_cons, List.all_nil, hwB.q.cell.1, hwB.t.cell.1, hwB.b.cell.1]; rfl
 obtain ⟨H4, hH4⟩ : ∃ H4, H4 = H3 ++ [Ob.cells (cX R)] := ⟨_, rfl⟩
 have st11 : evStoreV (H3 ++ [.cells zX]) 12 (.ptr H3.length 0) (.agg (cX R)) = some (V.non, H4) := by rw [hH4]; exact wZO rfl rfl rfl
 have k4 : ∀ j, j < H3.length → H4[j]? = H3[j]? := fun j hj => by rw [hH4, List.getElem?_append_left hj]
 have l4 : H4.length = H3.length + 1 := by rw [hH4]; simp
 have p4 : H4[H1.length]? = some (.cells [v0', v1, v2, .bool s.busy]) := by rw [k4 _ (by omega)]; exact p3
 have s5 := wZF (off := 2) p4 (by simp) hvl.cell
 obtain ⟨H5, hH5⟩ : ∃ H5, H5 = H4.set H1.length (.cells [v0', v1, vl, .bool s.busy]) := ⟨_, rfl⟩
 have s5' : evStoreV H4 1 (.ptr H1.length 2) vl = some (V.non, H5) := by rw [hH5]; exact s5
 have k5 : ∀ j, j ≠ H1.length → H5[j]? = H4[j]? := fun j hj => by rw [hH5, List.getElem?_set_ne (Ne.symm hj)]
 have p5 : H5[H1.length]? = some (.cells [v0', v1, vl, .bool s.busy]) := by rw [hH5]; exact wZd p4 _
 have l5 : H5.length = H4.length := by rw [hH5]; simp
 have go : ∀ (b : Bool) (H6 : Heap) (env2 : List V), (∀ j, j ≠ H1.length → H6[j]? = H5[j]?) → H6.length = H5.length → H6[H1.length]? = some (.cells [v0', v1, vl, .bool b]) → b = (mo && s.busy) → eget env2 2 = .ptr 1 0 → eget env2 3 = .ptr 2 0 → eget env2 6 = .ptr H1.length 0 → eget env2 8 = .ptr H3.length 0 → eget env2 9 = .bool mo → env2.length = 32 →
   WK (callW Φ) none (FinX zZz.c.results P) [.c (.draw zZz.r8 [[], [], [], [0, 0], [1, 3, 0, 1, 3], [2, 4, 0, 1, 2, 3, 4], [5, 0, 1, 2, 3, 4, 5]] [2, 5, 6]), .c .ret] { env := env2, marks := [], heap := H6 } := by
  intro b H6 env2 k6 l6 p6 hb j2 j3 j6 j8 j9 jl
  have okp : ∀ S : Heap, okCells S (some 4) (some [v0', v1, vl, .bool b]) = some (.agg [v0', v1, vl, .bool b], S) := fun _ => rfl
  have c6 : cellsAt H6 (.ptr H1.length 0) = some [v0', v1, vl, .bool b] := qZo p6 0
  have q8 : H6[H3.length]? = some (.cells (cX R)) := by rw [k6 _ (by omega), k5 _ (by omega), hH4]; exact xZ4 _ _
  have c8 : cellsAt H6 (.ptr H3.length 0) = some (cX R) := qZo q8 0
  have x1 : H6[1]? = some (.cells z4) := by rw [k6 _ (by omega), k5 _ (by omega), k4 _ (by omega)]; exact hz1
  have s7 := vZE (H := H6) (id := 1) (n := 4) (A := [v0', v1, vl, .bool b]) (B := z4) x1 rfl rfl (hcell3 b)
  obtain ⟨H7, hH7⟩ : ∃ H7, H7 = H6.set 1 (.cells [v0', v1, vl, .bool b]) := ⟨_, rfl⟩
  rw [← hH7] at s7
  have k7 : ∀ j, j ≠ 1 → H7[j]? = H6[j]? := fun j hj => by rw [hH7, List.getElem?_set_ne (Ne.symm hj)]
  have c8' : cellsAt H7 (.ptr H3.length 0) = some (cX R) := qZo (by rw [k7 _ (by omega)]; exact q8) 0
  have x2 : H7[2]? = some (.cells zX) := by rw [k7 _ (by omega), k6 _ (by omega), k5 _ (by omega), k4 _ (by omega)]; exact hz2
  have s8 := vZE (H := H7) (id := 2) (n := 12) (A := cX R) (B := zX) x2 rfl rfl rfl
  obtain ⟨H8, hH8⟩ : ∃ H8, H8 = H7.set 2 (.cells (cX R)) := ⟨_, rfl⟩
  rw [← hH8] at s8
  have k8 : ∀ j, 3 ≤ j → j ≠ H1.length → j < H3.length → H8[j]? = H3[j]? := fun j h1 h2 h3 => by rw [hH8, List.getElem?_set_ne (by omega), k7 j (by omega), k6 j h2, k5 j h2, k4 j h3]
  have cr4 : cellsAt H8 (.ptr 1 0) = some [v0', v1, vl, .bool b] := qZo (by rw [hH8, List.getElem?_set_ne (by omega), hH7]; exact wZd x1 _) 0
  have cr6 : cellsAt H8 (.ptr 2 0) = some (cX R) := by rw [hH8]; exact qZo (wZd x2 _) 0
  have hw8 := hwB.mono2 (H' := H8) fun id h => k8 id (h.elim (hwB.l0 id) (fun h => h.elim (hwB.l1 id) (hwB.l2 id))) (fun e => by
   subst e
   rcases h with h | h | h
   ·have := hw.lt (.inl (how _ h)); omega
   ·have := hw.lt (.inr (.inl h)); omega
   ·have := hol _ h; omega) (hwB.lt h)
  obtain ⟨H9, f9⟩ := hw8.fzU (b := b) (rest := [.agg (cX R), .bool mo, .int .i64 0]) (fun H => rest3 R mo 0 H)
  rw [hb] at f9
  have fin := hPz _ _ _ f9
  rw [← hb] at fin
  refine kDrawW zZz.r8.ord ?_
  simp [zZz.c, zZz.r8, List.filterMap_cons, j2, j3, j6, j8, j9, jl, c6, okp, c8, c8', okX1, s7, s8, cr4, cr6, of4, ofX, fin]
 have j0 : FinX zZz.c.results P = FinX [.cell 2 (some 4), .cell 3 (some 12), .tmp 4, .tmp 5] P := rfl
 rw [j0] at go
 cases hm : mo
 ·have s6 := wZF (off := 3) (x := .bool false) p5 (by simp) ⟨rfl, rfl⟩
  obtain ⟨H6, hH6⟩ : ∃ H6, H6 = H5.set H1.length (.cells [v0', v1, vl, .bool false]) := ⟨_, rfl⟩
  have s6' : evStoreV H5 1 (.ptr H1.length 3) (.bool false) = some (V.non, H6) := by rw [hH6]; exact s6
  have g := go false H6
  simp [zZz.c, zZz.r0, zZz.r1, zZz.r3, zZz.r4, zZz.r5, zZz.r6, zZz.r7, g0, he, hcc, b0, c0, ok4, hck, ho, st9, cb, okb, hc3, evExt, st11, s5', hm, s6']
  exact g _ (fun j hj => by rw [hH6, List.getElem?_set_ne (Ne.symm hj)]) (by rw [hH6]; simp) (by rw [hH6]; exact wZd p5 _) (by rw [hm]; rfl) (by simp [he]) (by simp [he]) (by simp [he]) (by simp [he]) (by simp [he, hm]) (by simp [he])
 ·have g := go s.busy H5
  simp [zZz.c, zZz.r0, zZz.r1, zZz.r3, zZz.r4, zZz.r5, zZz.r6, g0, he, hcc, b0, c0, ok4, hck, ho, st9, cb, okb, hc3, evExt, st11, s5', hm]
  exact g _ (fun j hj => rfl) rfl p5 (by rw [hm]; rfl) (by simp [he]) (by simp [he]) (by simp [he]) (by simp [he]) (by simp [he, hm]) (by simp [he])
end Go.Proofs.Rc
