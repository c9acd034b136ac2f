/- Push by the program and by the book; Pop by the book. No conditions. -/
import Derived.Test.YtoakkanklhfpmaaGreatDoorRcSb
import Derived.Test.YtoakkanklhfpmaaGreatDoorRcS
set_option maxHeartbeats 16000000
set_option maxRecDepth 100000
set_option linter.unusedVariables false
set_option linter.unusedSimpArgs false
set_option linter.unusedSectionVars false
namespace Go.Proofs.Rc
open Go Go.Ev
def pushR (s : Rs) : V := if rightB s = false then .tup [.agg (cS {}), .int .i64 15] else if 1024 ≤ s.st.length then .tup [.agg (cS {}), .int .i64 3] else .tup [.agg (cS ⟨s.qs, s.st ++ [[]], s.bk, s.busy⟩), .int .i64 0]
theorem zYac (s : Rs) (z : SzS s) (H : Heap) : callW Φ qZT [.agg (cS s)] H = some (pushR s, H) := by
 refine jZ2 qZT.Φ rfl (args := [.agg (cS s)]) rfl ?_
 obtain ⟨P, hP⟩ : ∃ P : V → Heap → Prop, P = fun r h2 => ∃ h3, fz fzDepth h2 r = some (pushR s, h3) := ⟨_, rfl⟩
 suffices hgo : ∃ r h', evBodyW (callW Φ) qZT.c [.agg (cS s)] [] = some (r, h') ∧ P r h' by rw [hP] at hgo; exact hgo
 have hPz : ∀ r h2 h3, fz fzDepth h2 r = some (pushR s, h3) → P r h2 := fun r h2 h3 hz => by rw [hP]; exact ⟨h3, hz⟩
 have hPn : ∀ r h2, flatN2 r = true → nz2 r = pushR s → P r h2 := fun r h2 h h1 => hPz r h2 h2 (by rw [← h1]; exact wZI h)
 clear hP
 refine xZx (Nat.le_of_ble_eq_true rfl) (fun env he h0 => ?_)
 have g0 := h0 0 (by simp)
 change eget env 0 = .agg (cS s) at g0
 clear h0
 simp [qZT.c] at he
 have b0 : evBox [] (cS s) = some (.ptr 0 0, [.cells (cS s)]) := wZs [] _ rfl
 have hcc : (V.agg (cS s)).cells = cS s := rfl
 have ok4 : ∀ H : Heap, okCells H (some 4) (some (cS s)) = some (.agg (cS s), H) := fun _ => rfl
 have hck := wZi s z
 have c0 : cellsAt [.cells (cS s), .cells z4] (.ptr 0 0) = some (cS s) := rfl
 have cst : cellsAt [.cells (cS s), .cells z4] (.ptr 0 1) = some ((cS s).drop 1) := rfl
 have st4 : evStoreV [.cells (cS s), .cells z4] 4 (.ptr 1 0) (.agg z4) = some (V.non, [.cells (cS s), .cells z4]) := vZE (H := [.cells (cS s), .cells z4]) (id := 1) (B := z4) rfl rfl rfl rfl
 have c1 : cellsAt [.cells (cS s), .cells z4] (.ptr 1 0) = some z4 := rfl
 have bd4 : ∀ H : Heap, evBuild H z4 [] = some (.agg z4, H) := fun _ => rfl
 have of4 : ∀ a b c : V, ∀ t : Bool, ofCells (some 4) [a, b, c, .bool t] = some (.agg [a, b, c, .bool t]) := fun _ _ _ _ => rfl
 cases hr : rightB s
 ·rw [hr] at hck
  have ht : pushR s = .tup [.agg (cS {}), .int .i64 15] := by unfold pushR; rw [if_pos hr]
  rw [ht] at hPz
  have fin := hPz (.tup [.agg z4, .int .i64 15]) [.cells (cS s), .cells z4] _ rfl
  simp at hck
  simp [qZT.c, qZT.r0, qZT.r1, qZT.r2, qZT.r3, qZT.r4, qZT.r5, qZT.r6, qZT.r7, g0, he, hcc, b0, c0, ok4, hck, bd4, st4, c1, of4, fin]
 rw [hr] at hck
 simp at hck
 by_cases ce : 1024 ≤ s.st.length
 ·have ce' : (1024 : Int) ≤ s.st.length := by omega
  have ht : pushR s = .tup [.agg (cS {}), .int .i64 3] := by unfold pushR; rw [if_neg (by rw [hr]; simp), if_pos ce]
  rw [ht] at hPz
  have fin := hPz (.tup [.agg z4, .int .i64 3]) [.cells (cS s), .cells z4] _ rfl
  simp [qZT.c, qZT.r0, qZT.r1, qZT.r2, qZT.r3, qZT.r4, qZT.r5, qZT.r6, qZT.r7, g0, he, hcc, b0, c0, cst, vZa, ok4, hck, ce', bd4, st4, c1, of4, fin]
 have ce' : ¬ (1024 : Int) ≤ s.st.length := by omega
 have ht : pushR s = .tup [.agg (cS ⟨s.qs, s.st ++ [[]], s.bk, s.busy⟩), .int .i64 0] := by unfold pushR; rw [if_neg (by rw [hr]; simp), if_neg ce]
 rw [ht] at hPz
 obtain ⟨r1, H1, ho, v0, v1, v2, o0, o1, o2, os0, os1, rfl, hk1, hl1, hw⟩ := wZV s z [.cells (cS s), .cells z4]
 simp only [List.length_cons, List.length_nil, Nat.zero_add, Nat.reduceAdd] at hk1 hl1 hw
 have hcell : ([v0, v1, v2, .bool s.busy] : List V).all V.isCell = true := by simp only [List.all_cons, List.all_nil, hw.q.cell.1, hw.t.cell.1, hw.b.cell.1]; rfl
 obtain ⟨H2, hH2⟩ : ∃ H2, H2 = H1 ++ [Ob.cells [v0, v1, v2, .bool s.busy]] := ⟨_, rfl⟩
 have st9 : evStoreV (H1 ++ [.cells z4]) 4 (.ptr H1.length 0) (.agg [v0, v1, v2, .bool s.busy]) = some (V.non, H2) := by rw [hH2]; exact wZO rfl rfl hcell
 have k2 : ∀ j, j < H1.length → H2[j]? = H1[j]? := fun j hj => by rw [hH2, List.getElem?_append_left hj]
 have p2 : H2[H1.length]? = some (.cells [v0, v1, v2, .bool s.busy]) := by rw [hH2]; exact xZ4 _ _
 have hw2 := hw.mono2 (H' := H2) fun id h => k2 id (hw.lt h)
 have hl2 : H2.length = H1.length + 1 := by rw [hH2]; simp
 have hv1 := hw.t.cell.1
 have cv : cellsAt H2 (.ptr H1.length 1) = some [v1, v2, .bool s.busy] := qZo p2 1
 have okv : ∀ S : Heap, okCells S none (some [v1, v2, .bool s.busy]) = some (v1, S) := fun S => by simp [okCells, hv1]
 have bs := bsT H2 .nils ⟨rfl, rfl⟩
 have hlt1 : ∀ k, (Ow o0 os0 k ∨ Ow o1 os1 k ∨ o2 = some k) → k < H1.length := fun k h => hw.lt h
 obtain ⟨v1', o1', H3, e3, hw3, l3, _, k3⟩ := hw2.addT2 (H' := H2) (by omega) (fun _ _ => rfl) (Nat.le_refl _) (El.T (l := []) (.inl ⟨.inl rfl, rfl, rfl⟩)) (fun id hid => by cases hid) (by omega)
 have hno1 : ∀ j, H1.length ≤ j → o1 ≠ some j := fun j hj e => by have := hw.lt (.inr (.inl (.inl e))); omega
 have p3 : H3[H1.length]? = some (.cells [v0, v1, v2, .bool s.busy]) := by rw [k3 _ (by omega) (hno1 _ (Nat.le_refl _))]; exact p2
 have s5 := wZF (off := 1) p3 (by simp) hw3.t.cell
 obtain ⟨H4, hH4⟩ : ∃ H4, H4 = H3.set H1.length (.cells [v0, v1', v2, .bool s.busy]) := ⟨_, rfl⟩
 have s5' : evStoreV H3 1 (.ptr H1.length 1) v1' = some (V.non, H4) := by rw [hH4]; exact s5
 have p4 : H4[H1.length]? = some (.cells [v0, v1', v2, .bool s.busy]) := by rw [hH4]; exact wZd p3 _
 have c4 : cellsAt H4 (.ptr H1.length 0) = some [v0, v1', v2, .bool s.busy] := qZo p4 0
 have ok3 : ∀ S : Heap, okCells S (some 4) (some [v0, v1', v2, .bool s.busy]) = some (.agg [v0, v1', v2, .bool s.busy], S) := fun _ => rfl
 have hcell3 : ([v0, v1', v2, .bool s.busy] : List V).all V.isCell = true := by simp only [List.all_cons, List.all_nil, hw.q.cell.1, hw3.t.cell.1, hw.b.cell.1]; rfl
 have x1 : H4[1]? = some (.cells z4) := by
  rw [hH4, List.getElem?_set_ne (by omega), k3 1 (by omega) (fun e => by have := hw.l1 1 (.inl e); omega), k2 1 (by omega), hk1 1 (by omega)]; rfl
 have s6 := vZE (H := H4) (id := 1) (n := 4) (A := [v0, v1', v2, .bool s.busy]) (B := z4) x1 rfl rfl hcell3
 obtain ⟨H5, hH5⟩ : ∃ H5, H5 = H4.set 1 (.cells [v0, v1', v2, .bool s.busy]) := ⟨_, rfl⟩
 rw [← hH5] at s6
 have cr : cellsAt H5 (.ptr 1 0) = some [v0, v1', v2, .bool s.busy] := by rw [hH5]; exact qZo (wZd x1 _) 0
 have nP : ∀ k, (Ow o0 os0 k ∨ Ow o1' (os1 ++ [none]) k ∨ o2 = some k) → k ≠ H1.length := fun k h e => by
  subst e
  have hrow : ∀ z xs ep w, H3[H1.length]? ≠ some (.row z xs ep w) := fun z xs ep w h2 => by rw [p3] at h2; cases h2
  rcases h with h | h | h
  ·have := hw.lt (.inl h); omega
  ·rcases h with h | h
   ·rcases hw3.t with ⟨_, _, h3, _⟩ | ⟨id, ep, es, h3, _, h4, _, _⟩
    ·rw [h3] at h; cases h
    ·rw [h3] at h; cases h
     exact hrow _ _ _ _ h4
   ·simp only [List.mem_append, List.mem_singleton, reduceCtorEq, or_false] at h
    have := hw.lt (.inr (.inl (.inr h))); omega
  ·have := hw.lt (.inr (.inr h)); omega
 have hw5 := hw3.mono2 (H' := H5) fun k h => by
  have h2 : 2 ≤ k := h.elim (hw3.l0 k) (fun h => h.elim (hw3.l1 k) (hw3.l2 k))
  rw [hH5, List.getElem?_set_ne (by omega), hH4, List.getElem?_set_ne (Ne.symm (nP k h))]
 obtain ⟨H6, f6⟩ := hw5.fzU (b := s.busy) (rest := [.int .i64 0]) (fun H => rfl)
 have fin := hPz _ _ _ f6
 simp [qZT.c, qZT.r0, qZT.r1, qZT.r2, qZT.r3, qZT.r4, qZT.r5, qZT.r6, qZT.r7, g0, he, hcc, b0, c0, cst, vZa, ok4, hck, ce', ho, st9, cv, okv, bs, e3, s5', c4, ok3, s6, cr, of4, fin]
theorem zYae (s : Rs) (z : SzS s) (H : Heap) : callW Φ qZU [.agg (cS s)] H = some (pushR s, H) := by
 refine jZ2 qZU.Φ rfl (args := [.agg (cS s)]) rfl ?_
 obtain ⟨P, hP⟩ : ∃ P : V → Heap → Prop, P = fun r h2 => ∃ h3, fz fzDepth h2 r = some (pushR s, h3) := ⟨_, rfl⟩
 suffices hgo : ∃ r h', evBodyW (callW Φ) qZU.c [.agg (cS s)] [] = some (r, h') ∧ P r h' by rw [hP] at hgo; exact hgo
 have hPz : ∀ r h2 h3, fz fzDepth h2 r = some (pushR s, h3) → P r h2 := fun r h2 h3 hz => by rw [hP]; exact ⟨h3, hz⟩
 have hPn : ∀ r h2, flatN2 r = true → nz2 r = pushR s → P r h2 := fun r h2 h h1 => hPz r h2 h2 (by rw [← h1]; exact wZI h)
 clear hP
 refine xZx (Nat.le_of_ble_eq_true rfl) (fun env he h0 => ?_)
 have g0 := h0 0 (by simp)
 change eget env 0 = .agg (cS s) at g0
 clear h0
 simp [qZU.c] at he
 have b0 : evBox [] (cS s) = some (.ptr 0 0, [.cells (cS s)]) := wZs [] _ rfl
 have hcc : (V.agg (cS s)).cells = cS s := rfl
 have ok4 : ∀ H : Heap, okCells H (some 4) (some (cS s)) = some (.agg (cS s), H) := fun _ => rfl
 have hck := xZT s z
 have c0 : cellsAt [.cells (cS s), .cells z4] (.ptr 0 0) = some (cS s) := rfl
 have cst : cellsAt [.cells (cS s), .cells z4] (.ptr 0 1) = some ((cS s).drop 1) := rfl
 have st4 : evStoreV [.cells (cS s), .cells z4] 4 (.ptr 1 0) (.agg z4) = some (V.non, [.cells (cS s), .cells z4]) := vZE (H := [.cells (cS s), .cells z4]) (id := 1) (B := z4) rfl rfl rfl rfl
 have c1 : cellsAt [.cells (cS s), .cells z4] (.ptr 1 0) = some z4 := rfl
 have bd4 : ∀ H : Heap, evBuild H z4 [] = some (.agg z4, H) := fun _ => rfl
 have of4 : ∀ a b c : V, ∀ t : Bool, ofCells (some 4) [a, b, c, .bool t] = some (.agg [a, b, c, .bool t]) := fun _ _ _ _ => rfl
 cases hr : rightB s
 ·rw [hr] at hck
  have ht : pushR s = .tup [.agg (cS {}), .int .i64 15] := by unfold pushR; rw [if_pos hr]
  rw [ht] at hPz
  have fin := hPz (.tup [.agg z4, .int .i64 15]) [.cells (cS s), .cells z4] _ rfl
  simp [qZU.c, qZU.r0, qZU.r1, qZU.r2, qZU.r3, qZU.r4, qZU.r5, qZU.r6, qZU.r7, g0, he, hcc, b0, c0, ok4, hck, bd4, st4, c1, of4, fin]
 rw [hr] at hck
 by_cases ce : 1024 ≤ s.st.length
 ·have ce' : (1024 : Int) ≤ s.st.length := by omega
  have ht : pushR s = .tup [.agg (cS {}), .int .i64 3] := by unfold pushR; rw [if_neg (by rw [hr]; simp), if_pos ce]
  rw [ht] at hPz
  have fin := hPz (.tup [.agg z4, .int .i64 3]) [.cells (cS s), .cells z4] _ rfl
  simp [qZU.c, qZU.r0, qZU.r1, qZU.r2, qZU.r3, qZU.r4, qZU.r5, qZU.r6, qZU.r7, g0, he, hcc, b0, c0, cst, vZa, ok4, hck, ce', bd4, st4, c1, of4, fin]
 have ce' : ¬ (1024 : Int) ≤ s.st.length := by omega
 have ht : pushR s = .tup [.agg (cS ⟨s.qs, s.st ++ [[]], s.bk, s.busy⟩), .int .i64 0] := by unfold pushR; rw [if_neg (by rw [hr]; simp), if_neg ce]
 rw [ht] at hPz
 obtain ⟨r1, H1, ho, v0, v1, v2, o0, o1, o2, os0, os1, rfl, hk1, hl1, hw⟩ := xZU s z [.cells (cS s), .cells z4]
 simp only [List.length_cons, List.length_nil, Nat.zero_add, Nat.reduceAdd] at hk1 hl1 hw
 have hcell : ([v0, v1, v2, .bool s.busy] : List V).all V.isCell = true := by simp only [List.all_cons, List.all_nil, hw.q.cell.1, hw.t.cell.1, hw.b.cell.1]; rfl
 have p0 : H1[0]? = some (.cells (cS s)) := by rw [hk1 0 (by omega)]; rfl
 have s0 := vZE (H := H1) (id := 0) (n := 4) (A := [v0, v1, v2, .bool s.busy]) (B := cS s) p0 rfl rfl hcell
 obtain ⟨H2, hH2⟩ : ∃ H2, H2 = H1.set 0 (.cells [v0, v1, v2, .bool s.busy]) := ⟨_, rfl⟩
 rw [← hH2] at s0
 have k2 : ∀ j, j ≠ 0 → H2[j]? = H1[j]? := fun j hj => by rw [hH2, List.getElem?_set_ne (Ne.symm hj)]
 have p2 : H2[0]? = some (.cells [v0, v1, v2, .bool s.busy]) := by rw [hH2]; exact wZd p0 _
 have hge : ∀ k, (Ow o0 os0 k ∨ Ow o1 os1 k ∨ o2 = some k) → 2 ≤ k := fun k h => h.elim (hw.l0 k) (fun h => h.elim (hw.l1 k) (hw.l2 k))
 have hw2 := hw.mono2 (H' := H2) fun id h => k2 id (by have := hge id h; omega)
 have hl2 : H2.length = H1.length := by rw [hH2]; simp
 have hv1 := hw.t.cell.1
 have cv : cellsAt H2 (.ptr 0 1) = some [v1, v2, .bool s.busy] := qZo p2 1
 have okv : ∀ S : Heap, okCells S none (some [v1, v2, .bool s.busy]) = some (v1, S) := fun S => by simp [okCells, hv1]
 have bs := bsT H2 .nils ⟨rfl, rfl⟩
 obtain ⟨v1', o1', H3, e3, hw3, l3, k3, _⟩ := hw2.addT2 (H' := H2) (by omega) (fun _ _ => rfl) (Nat.le_refl _) (El.T (l := []) (.inl ⟨.inl rfl, rfl, rfl⟩)) (fun id hid => by cases hid) (by omega)
 have p3 : H3[0]? = some (.cells [v0, v1, v2, .bool s.busy]) := by rw [k3 0 (by omega)]; exact p2
 have s5 := wZF (off := 1) p3 (by simp) hw3.t.cell
 obtain ⟨H4, hH4⟩ : ∃ H4, H4 = H3.set 0 (.cells [v0, v1', v2, .bool s.busy]) := ⟨_, rfl⟩
 have s5' : evStoreV H3 1 (.ptr 0 1) v1' = some (V.non, H4) := by rw [hH4]; exact s5
 have c4 : cellsAt H4 (.ptr 0 0) = some [v0, v1', v2, .bool s.busy] := by rw [hH4]; exact qZo (wZd p3 _) 0
 have ok3 : ∀ S : Heap, okCells S (some 4) (some [v0, v1', v2, .bool s.busy]) = some (.agg [v0, v1', v2, .bool s.busy], S) := fun _ => rfl
 have hcell3 : ([v0, v1', v2, .bool s.busy] : List V).all V.isCell = true := by simp only [List.all_cons, List.all_nil, hw.q.cell.1, hw3.t.cell.1, hw.b.cell.1]; rfl
 have x1 : H4[1]? = some (.cells z4) := by
  rw [hH4, List.getElem?_set_ne (by omega), k3 1 (by omega), k2 1 (by omega), hk1 1 (by omega)]; rfl
 have s6 := vZE (H := H4) (id := 1) (n := 4) (A := [v0, v1', v2, .bool s.busy]) (B := z4) x1 rfl rfl hcell3
 obtain ⟨H5, hH5⟩ : ∃ H5, H5 = H4.set 1 (.cells [v0, v1', v2, .bool s.busy]) := ⟨_, rfl⟩
 rw [← hH5] at s6
 have cr : cellsAt H5 (.ptr 1 0) = some [v0, v1', v2, .bool s.busy] := by rw [hH5]; exact qZo (wZd x1 _) 0
 have hw5 := hw3.mono2 (H' := H5) fun k h => by
  have h2 : 2 ≤ k := h.elim (hw3.l0 k) (fun h => h.elim (hw3.l1 k) (hw3.l2 k))
  rw [hH5, List.getElem?_set_ne (by omega), hH4, List.getElem?_set_ne (by omega)]
 obtain ⟨H6, f6⟩ := hw5.fzU (b := s.busy) (rest := [.int .i64 0]) (fun H => rfl)
 have fin := hPz _ _ _ f6
 simp [qZU.c, qZU.r0, qZU.r1, qZU.r2, qZU.r3, qZU.r4, qZU.r5, qZU.r6, qZU.r7, g0, he, hcc, b0, c0, cst, vZa, ok4, hck, ce', ho, s0, cv, okv, bs, e3, s5', c4, ok3, s6, cr, of4, fin]
theorem zYag (s : Rs) (z : SzS s) (H : Heap) : callW Φ qZW [.agg (cS s)] H = some (popR s, H) := by
 refine jZ2 qZW.Φ rfl (args := [.agg (cS s)]) rfl ?_
 obtain ⟨P, hP⟩ : ∃ P : V → Heap → Prop, P = fun r h2 => ∃ h3, fz fzDepth h2 r = some (popR s, h3) := ⟨_, rfl⟩
 suffices hgo : ∃ r h', evBodyW (callW Φ) qZW.c [.agg (cS s)] [] = some (r, h') ∧ P r h' by rw [hP] at hgo; exact hgo
 have hPz : ∀ r h2 h3, fz fzDepth h2 r = some (popR s, h3) → P r h2 := fun r h2 h3 hz => by rw [hP]; exact ⟨h3, hz⟩
 have hPn : ∀ r h2, flatN2 r = true → nz2 r = popR s → P r h2 := fun r h2 h h1 => hPz r h2 h2 (by rw [← h1]; exact wZI h)
 clear hP
 refine xZx (Nat.le_of_ble_eq_true rfl) (fun env he h0 => ?_)
 have g0 := h0 0 (by simp)
 change eget env 0 = .agg (cS s) at g0
 clear h0
 simp [qZW.c] at he
 have b0 : evBox [] (cS s) = some (.ptr 0 0, [.cells (cS s)]) := wZs [] _ rfl
 have hcc : (V.agg (cS s)).cells = cS s := rfl
 have ok4 : ∀ H : Heap, okCells H (some 4) (some (cS s)) = some (.agg (cS s), H) := fun _ => rfl
 have hck := xZT s z
 have c0 : cellsAt [.cells (cS s), .cells z4] (.ptr 0 0) = some (cS s) := rfl
 have cst : cellsAt [.cells (cS s), .cells z4] (.ptr 0 1) = some ((cS s).drop 1) := rfl
 have st4 : evStoreV [.cells (cS s), .cells z4] 4 (.ptr 1 0) (.agg z4) = some (V.non, [.cells (cS s), .cells z4]) := vZE (H := [.cells (cS s), .cells z4]) (id := 1) (B := z4) rfl rfl rfl rfl
 have c1 : cellsAt [.cells (cS s), .cells z4] (.ptr 1 0) = some z4 := rfl
 have bd4 : ∀ H : Heap, evBuild H z4 [] = some (.agg z4, H) := fun _ => rfl
 have of4 : ∀ a b c : V, ∀ t : Bool, ofCells (some 4) [a, b, c, .bool t] = some (.agg [a, b, c, .bool t]) := fun _ _ _ _ => rfl
 cases hr : rightB s
 ·rw [hr] at hck
  have ht : popR s = .tup [.agg (cS {}), .arr [], .int .i64 15] := by unfold popR; rw [if_pos hr]
  rw [ht] at hPz
  have fin := hPz (.tup [.agg z4, .nils, .int .i64 15]) [.cells (cS s), .cells z4] _ rfl
  simp [qZW.c, qZW.r0, qZW.r1, qZW.r2, qZW.r3, qZW.r4, qZW.r5, qZW.r6, qZW.r7, qZW.r8, qZW.r9, g0, he, hcc, b0, c0, ok4, hck, bd4, st4, c1, of4, fin]
 rw [hr] at hck
 by_cases ce : s.st = []
 ·have ht : popR s = .tup [.agg (cS {}), .arr [], .int .i64 11] := by unfold popR; rw [if_neg (by rw [hr]; simp), if_pos ce]
  rw [ht] at hPz
  have fin := hPz (.tup [.agg z4, .nils, .int .i64 11]) [.cells (cS s), .cells z4] _ rfl
  simp [qZW.c, qZW.r0, qZW.r1, qZW.r2, qZW.r3, qZW.r4, qZW.r5, qZW.r6, qZW.r7, qZW.r8, qZW.r9, g0, he, hcc, b0, c0, cst, vZa, ok4, hck, ce, bd4, st4, c1, of4, fin]
 have ht : popR s = .tup [.agg (cS ⟨s.qs, s.st.dropLast, s.bk, s.busy⟩), .arr ((s.st.getLastD []).map cI), .int .i64 0] := by unfold popR; rw [if_neg (by rw [hr]; simp), if_neg ce]
 rw [ht] at hPz
 obtain ⟨D, x, hDx⟩ : ∃ D x, s.st = D ++ [x] := ⟨s.st.dropLast, s.st.getLast ce, (List.dropLast_concat_getLast ce).symm⟩
 have hdl : s.st.dropLast = D := by rw [hDx]; simp
 have hgl : s.st.getLastD [] = x := by rw [hDx]; simp
 rw [hdl, hgl] at hPz
 have hlen : s.st.length = D.length + 1 := by rw [hDx]; simp
 obtain ⟨r1, H1, ho, v0, v1, v2, o0, o1, o2, os0, os1, rfl, hk1, hl1, hw⟩ := xZU s z [.cells (cS s), .cells z4]
 simp only [List.length_cons, List.length_nil, Nat.zero_add, Nat.reduceAdd] at hk1 hl1 hw
 have hcell : ([v0, v1, v2, .bool s.busy] : List V).all V.isCell = true := by simp only [List.all_cons, List.all_nil, hw.q.cell.1, hw.t.cell.1, hw.b.cell.1]; rfl
 have p0 : H1[0]? = some (.cells (cS s)) := by rw [hk1 0 (by omega)]; rfl
 have s0 := vZE (H := H1) (id := 0) (n := 4) (A := [v0, v1, v2, .bool s.busy]) (B := cS s) p0 rfl rfl hcell
 obtain ⟨H2, hH2⟩ : ∃ H2, H2 = H1.set 0 (.cells [v0, v1, v2, .bool s.busy]) := ⟨_, rfl⟩
 rw [← hH2] at s0
 have k2 : ∀ j, j ≠ 0 → H2[j]? = H1[j]? := fun j hj => by rw [hH2, List.getElem?_set_ne (Ne.symm hj)]
 have p2 : H2[0]? = some (.cells [v0, v1, v2, .bool s.busy]) := by rw [hH2]; exact wZd p0 _
 have hge : ∀ k, (Ow o0 os0 k ∨ Ow o1 os1 k ∨ o2 = some k) → 2 ≤ k := fun k h => h.elim (hw.l0 k) (fun h => h.elim (hw.l1 k) (hw.l2 k))
 have hw2 := hw.mono2 (H' := H2) fun id h => k2 id (by have := hge id h; omega)
 have ht2 := hw2.t
 rw [hDx, List.map_append] at ht2
 have hv1 := hw.t.cell.1
 have cv : cellsAt H2 (.ptr 0 1) = some [v1, v2, .bool s.busy] := qZo p2 1
 have okv : ∀ S : Heap, okCells S none (some [v1, v2, .bool s.busy]) = some (v1, S) := fun S => by simp [okCells, hv1]
 have hll : ∀ X : Heap, evLen X .l v1 = some (.int .i64 ((D.length : Int) + 1), X) := fun X => by rw [hw.t.len, List.length_map, hlen]; simp
 obtain ⟨v1', os1', ex1', oe, sl, hq', hsub, hoe, hap⟩ := ht2.pop
 obtain ⟨id, ep, e, oe', _, ia, ca, hE, hoe'⟩ := ht2.at (i := D.length) (p := cL x) (by simp)
 obtain ⟨w, rfl, hwv⟩ := hE.toT
 have hoo : oe' = oe := by
  rw [List.length_map] at hoe
  rw [hoe] at hoe'; exact (Option.some.inj hoe').symm
 rw [hoo] at hwv
 have ca0 : cellsAt H2 (.eptr id ep D.length 0) = some [w] := ca 0
 have okw : ∀ S : Heap, okCells S none (some [w]) = some (w, S) := fun S => by simp [okCells, hwv.cell.1]
 have s5 := wZF (off := 1) p2 (by simp) hq'.cell
 obtain ⟨H3, hH3⟩ : ∃ H3, H3 = H2.set 0 (.cells [v0, v1', v2, .bool s.busy]) := ⟨_, rfl⟩
 have s5' : evStoreV H2 1 (.ptr 0 1) v1' = some (V.non, H3) := by rw [hH3]; exact s5
 have c3 : cellsAt H3 (.ptr 0 0) = some [v0, v1', v2, .bool s.busy] := by rw [hH3]; exact qZo (wZd p2 _) 0
 have ok3 : ∀ S : Heap, okCells S (some 4) (some [v0, v1', v2, .bool s.busy]) = some (.agg [v0, v1', v2, .bool s.busy], S) := fun _ => rfl
 have hcell3 : ([v0, v1', v2, .bool s.busy] : List V).all V.isCell = true := by simp only [List.all_cons, List.all_nil, hw.q.cell.1, hq'.cell.1, hw.b.cell.1]; rfl
 have x1 : H3[1]? = some (.cells z4) := by rw [hH3, List.getElem?_set_ne (by omega), k2 1 (by omega), hk1 1 (by omega)]; rfl
 have s6 := vZE (H := H3) (id := 1) (n := 4) (A := [v0, v1', v2, .bool s.busy]) (B := z4) x1 rfl rfl hcell3
 obtain ⟨H4, hH4⟩ : ∃ H4, H4 = H3.set 1 (.cells [v0, v1', v2, .bool s.busy]) := ⟨_, rfl⟩
 rw [← hH4] at s6
 have cr : cellsAt H4 (.ptr 1 0) = some [v0, v1', v2, .bool s.busy] := by rw [hH4]; exact qZo (wZd x1 _) 0
 have k4 : ∀ j, 2 ≤ j → H4[j]? = H2[j]? := fun j h1 => by rw [hH4, List.getElem?_set_ne (by omega), hH3, List.getElem?_set_ne (by omega)]
 have hub : ∀ k, Ow o1 os1' k → Ow o1 os1 k := fun k h => h.imp (fun h => h) fun h => hsub k h
 have hwN : Own H2 2 v0 v1' v2 o0 o1 o2 os0 os1' s.qs D s.bk [] ex1' := ⟨hw2.q, hq', hw2.b, hw2.l0, fun k h => hw2.l1 k (hub k h), hw2.l2, fun k h h2 => hw2.a01 k h (hub k h2), hw2.a02, fun k h => hw2.a12 k (hub k h)⟩
 have hw4 := hwN.mono2 (H' := H4) fun k h => k4 k (h.elim (hwN.l0 k) (fun h => h.elim (hwN.l1 k) (hwN.l2 k)))
 have hoe1 : ∀ k, oe = some k → Ow o1 os1 k := fun k h => .inr (hap k h).1
 have hwv4 := hwv.mono (h' := H4) fun k h => k4 k (hw.l1 k (hoe1 k h))
 obtain ⟨H5, f5⟩ := hw4.fzT (b := s.busy) hwv4 (fun k h h2 => by
  rcases h2 with h2 | h2 | h2
  ·exact hw.a01 k h2 (hoe1 k h)
  ·rcases h2 with h2 | h2
   ·exact (hap k h).2.1 h2
   ·exact (hap k h).2.2 h2
  ·exact hw.a12 k (hoe1 k h) h2) (rest := [.int .i64 0]) (fun H => rfl)
 have fin := hPz _ _ _ f5
 have ne : (((D.length : Int) + 1) == 0) = false := by rw [beq_eq_false_iff_ne]; omega
 have ws := wrap64 (n := (D.length : Int) + 1 - 1) (by have := z.2.1; omega) (by have := z.2.1; omega)
 rw [show (D.length : Int) + 1 - 1 = D.length by omega] at ws
 rw [List.length_map] at sl
 simp [qZW.c, qZW.r0, qZW.r1, qZW.r2, qZW.r3, qZW.r4, qZW.r5, qZW.r6, qZW.r7, qZW.r8, qZW.r9, g0, he, hcc, b0, c0, cst, vZa, ok4, hck, hlen, ne, ho, s0, cv, okv, hll, ws, ia, ca0, okw, sl, s5', c3, ok3, s6, cr, of4, fin]
end Go.Proofs.Rc
