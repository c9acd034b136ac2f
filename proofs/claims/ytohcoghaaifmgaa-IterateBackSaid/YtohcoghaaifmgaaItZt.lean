/- Which iterators are right; new ones. No conditions. -/
import Derived.Test.YtohcoghaaifmgaaItZr
set_option maxHeartbeats 16000000
set_option maxRecDepth 100000
set_option linter.unusedVariables false
set_option linter.unusedSimpArgs false
set_option linter.unusedSectionVars false
namespace Go.Proofs.It
open Go Go.Ev
noncomputable def checkI (f : List Nd) (i : Itr) : Int := if faultT f i.flt [i.root] = 0 then (if is_ f i.ref && holdsF f i.root i.ref then 0 else 2) else faultT f i.flt [i.root]
theorem checkI0 {f : List Nd} {i : Itr} (h : checkI f i = 0) : right f = true ∧ is_ f i.root = true ∧ is_ f i.ref = true ∧ holdsF f i.root i.ref = true ∧ i.flt.rules.length ≤ 64 ∧ wrongT i.flt = 0 := by
 unfold checkI at h
 split at h
 ·rename_i hf
  obtain ⟨h1, h2, h3⟩ := faultT0 hf
  split at h
  ·rename_i hq
   simp only [Bool.and_eq_true] at hq
   refine ⟨h1, inF1 h2, hq.1, hq.2, h3, ?_⟩
   unfold faultT at hf
   split at hf
   ·exact hf
   ·rename_i hn; exact absurd hf hn
  ·cases h
 ·rename_i hn; exact absurd h hn
theorem qZ4 (f : List Nd) (z : Sz f) (i : Itr) (zt : Fz i.flt) (H : Heap) : callW Φ zZy [eF f, eIt i] H = some (.int .i64 (checkI f i), H) := by
 have : ∃ hh, evBodyW (callW Φ) zZy.c [eF f, eIt i] [] = some (.int .i64 (checkI f i), hh) := by
  obtain ⟨K0, hK0⟩ : ∃ K0 : Heap, K0 = [cF f] := ⟨_, rfl⟩
  obtain ⟨K1, hK1⟩ : ∃ K1 : Heap, K1 = [cF f, .cells (cIt i)] := ⟨_, rfl⟩
  have hb0 : evBox [] [.arr (f.map cN)] = some (.ptr 0 0, K0) := by rw [hK0]; simp [evBox, V.isCell, qZB]
  have hb1 : evBox K0 (cIt i) = some (.ptr 1 0, K1) := by rw [hK0, hK1]; exact qZd _ rfl
  have cK : cellsAt K1 (.ptr 0 0) = some [.arr (f.map cN)] := by rw [hK1]; rfl
  have k1 : K1[1]? = some (.cells (cIt i)) := by rw [hK1]; rfl
  have c1 := qZv k1
  have hA := vZU f z i.flt zt i.root K1
  simp only [eF] at hA
  refine qZE (Nat.le_of_ble_eq_true rfl) (fun env he h0 => ?_)
  have g0 := h0 0 (by simp)
  change eget env 0 = .agg [.arr (f.map cN)] at g0
  have g1 := h0 1 (by simp)
  change eget env 1 = eIt i at g1
  clear h0
  simp [zZy.c] at he
  by_cases hf : faultT f i.flt [i.root] = 0
  case neg =>
   have hc : checkI f i = faultT f i.flt [i.root] := by simp [checkI, hf]
   have hb2 : (faultT f i.flt [i.root] != 0) = true := by simpa using hf
   rw [hc]
   simp [zZy.c, zZy.r0, zZy.r1, zZy.r2, zZy.r3, zZy.r4, zZy.r5, zZy.r6, g0, g1, he, ccF, ccIt, hb0, hb1, cK, c1, okIt3, okIt0, hA, hb2, evExt]
  have hb2 : (faultT f i.flt [i.root] != 0) = false := by simpa using hf
  obtain ⟨R, hq, _⟩ := faultT0 hf
  have hi := inF1 hq
  obtain ⟨K2, hK2⟩ : ∃ K2 : Heap, K2 = K1 ++ [.row 1 ([i.ref].map cI) 0 true] := ⟨_, rfl⟩
  obtain ⟨K3, hK3⟩ : ∃ K3 : Heap, K3 = K1 ++ [.row 1 ([i.ref].map cI) 0 false] := ⟨_, rfl⟩
  have hbs := row1 K1 i.ref
  have hF := jZb f z [i.ref] (by simp) K1
  rw [show ([i.ref] : List Int).length = 1 from rfl] at hF
  rw [← hK2] at hbs hF
  rw [← hK3] at hF
  have cK3 : cellsAt K3 (.ptr 0 0) = some [.arr (f.map cN)] := by rw [hK3, hK1]; rfl
  have k13 : K3[1]? = some (.cells (cIt i)) := by rw [hK3, hK1]; rfl
  have c13 := qZv k13
  simp only [eF] at hF
  cases hr : is_ f i.ref with
  | false =>
   have hc : checkI f i = 2 := by simp [checkI, hf, hr]
   have hw : faultL f [i.ref] = 2 := by simp [faultL, R, inF, hr]
   rw [hw] at hF
   rw [hc]
   simp [zZy.c, zZy.r0, zZy.r1, zZy.r2, zZy.r3, zZy.r4, zZy.r5, zZy.r6, g0, g1, he, ccF, ccIt, hb0, hb1, cK, c1, okIt3, okIt0, okIt1, hA, hb2, hbs, hF, evPick, evExt]
  | true =>
   have hc : checkI f i = if holdsF f i.root i.ref then 0 else 2 := by simp [checkI, hf, hr]
   have hw : faultL f [i.ref] = 0 := by simp [faultL, R, inF, hr]
   have hH := vZT z R i.root hr K3
   simp only [eF] at hH
   rw [hw] at hF
   rw [hc]
   cases hh : holdsF f i.root i.ref with
   | false =>
    rw [hh] at hH
    simp [zZy.c, zZy.r0, zZy.r1, zZy.r2, zZy.r3, zZy.r4, zZy.r5, zZy.r6, g0, g1, he, ccF, ccIt, hb0, hb1, cK, c1, okIt3, okIt0, okIt1, hA, hb2, hbs, hF, cK3, c13, hH, evPick, evExt]
   | true =>
    rw [hh] at hH
    simp [zZy.c, zZy.r0, zZy.r1, zZy.r2, zZy.r3, zZy.r4, zZy.r5, zZy.r6, g0, g1, he, ccF, ccIt, hb0, hb1, cK, c1, okIt3, okIt0, okIt1, hA, hb2, hbs, hF, cK3, c13, hH, evPick, evExt]
 obtain ⟨h', hb⟩ := this
 exact zZQ (h := H) zZy.Φ rfl (args := [eF f, eIt i]) rfl hb rfl
theorem vZs (f : List Nd) (z : Sz f) (i : Itr) (zt : Fz i.flt) (H : Heap) : callW Φ zZE [eF f, eIt i] H = some (.int .i64 (checkI f i), H) := by
 have : ∃ hh, evBodyW (callW Φ) zZE.c [eF f, eIt i] [] = some (.int .i64 (checkI f i), hh) := by
  obtain ⟨K0, hK0⟩ : ∃ K0 : Heap, K0 = [cF f] := ⟨_, rfl⟩
  obtain ⟨K1, hK1⟩ : ∃ K1 : Heap, K1 = [cF f, .cells (cIt i)] := ⟨_, rfl⟩
  have hb0 : evBox [] [.arr (f.map cN)] = some (.ptr 0 0, K0) := by rw [hK0]; simp [evBox, V.isCell, qZB]
  have hb1 : evBox K0 (cIt i) = some (.ptr 1 0, K1) := by rw [hK0, hK1]; exact qZd _ rfl
  have cK : cellsAt K1 (.ptr 0 0) = some [.arr (f.map cN)] := by rw [hK1]; rfl
  have k1 : K1[1]? = some (.cells (cIt i)) := by rw [hK1]; rfl
  have c1 := qZv k1
  have hA := wZp f z i.flt zt i.root K1
  simp only [eF] at hA
  refine qZE (Nat.le_of_ble_eq_true rfl) (fun env he h0 => ?_)
  have g0 := h0 0 (by simp)
  change eget env 0 = .agg [.arr (f.map cN)] at g0
  have g1 := h0 1 (by simp)
  change eget env 1 = eIt i at g1
  clear h0
  simp [zZE.c] at he
  by_cases hf : faultT f i.flt [i.root] = 0
  case neg =>
   have hc : checkI f i = faultT f i.flt [i.root] := by simp [checkI, hf]
   have hb2 : (faultT f i.flt [i.root] != 0) = true := by simpa using hf
   rw [hc]
   simp [zZE.c, zZE.r0, zZE.r1, zZE.r2, zZE.r3, zZE.r4, zZE.r5, zZE.r6, zZE.r7, g0, g1, he, ccF, ccIt, hb0, hb1, cK, c1, okIt3, okIt0, hA, hb2, evExt]
  have hb2 : (faultT f i.flt [i.root] != 0) = false := by simpa using hf
  obtain ⟨R, hq, _⟩ := faultT0 hf
  have hi := inF1 hq
  obtain ⟨K2, hK2⟩ : ∃ K2 : Heap, K2 = K1 ++ [.row 1 ([i.ref].map cI) 0 true] := ⟨_, rfl⟩
  obtain ⟨K3, hK3⟩ : ∃ K3 : Heap, K3 = K1 ++ [.row 1 ([i.ref].map cI) 0 false] := ⟨_, rfl⟩
  have hbs := row1 K1 i.ref
  have hF := wZX f z [i.ref] (by simp) K1
  rw [show ([i.ref] : List Int).length = 1 from rfl] at hF
  rw [← hK2] at hbs hF
  rw [← hK3] at hF
  have cK3 : cellsAt K3 (.ptr 0 0) = some [.arr (f.map cN)] := by rw [hK3, hK1]; rfl
  have k13 : K3[1]? = some (.cells (cIt i)) := by rw [hK3, hK1]; rfl
  have c13 := qZv k13
  simp only [eF] at hF
  cases hr : is_ f i.ref with
  | false =>
   have hc : checkI f i = 2 := by simp [checkI, hf, hr]
   have hw : faultL f [i.ref] = 2 := by simp [faultL, R, inF, hr]
   rw [hw] at hF
   rw [hc]
   simp [zZE.c, zZE.r0, zZE.r1, zZE.r2, zZE.r3, zZE.r4, zZE.r5, zZE.r6, zZE.r7, g0, g1, he, ccF, ccIt, hb0, hb1, cK, c1, okIt3, okIt0, okIt1, hA, hb2, hbs, hF, evPick, evExt]
  | true =>
   have hc : checkI f i = if holdsF f i.root i.ref then 0 else 2 := by simp [checkI, hf, hr]
   have hw : faultL f [i.ref] = 0 := by simp [faultL, R, inF, hr]
   have hH := vZm z R i.root hr K3
   simp only [eF] at hH
   rw [hw] at hF
   rw [hc]
   cases hh : holdsF f i.root i.ref with
   | false =>
    rw [hh] at hH
    simp [zZE.c, zZE.r0, zZE.r1, zZE.r2, zZE.r3, zZE.r4, zZE.r5, zZE.r6, zZE.r7, g0, g1, he, ccF, ccIt, hb0, hb1, cK, c1, okIt3, okIt0, okIt1, hA, hb2, hbs, hF, cK3, c13, hH, evPick, evExt]
   | true =>
    rw [hh] at hH
    simp [zZE.c, zZE.r0, zZE.r1, zZE.r2, zZE.r3, zZE.r4, zZE.r5, zZE.r6, zZE.r7, g0, g1, he, ccF, ccIt, hb0, hb1, cK, c1, okIt3, okIt0, okIt1, hA, hb2, hbs, hF, cK3, c13, hH, evPick, evExt]
 obtain ⟨h', hb⟩ := this
 exact zZQ (h := H) zZE.Φ rfl (args := [eF f, eIt i]) rfl hb rfl
theorem holdsF_self {f : List Nd} (R : right f = true) {h : Int} (hi : is_ f h = true) : holdsF f h h = true := by
 obtain ⟨d, _, hd⟩ := wZN R hi
 rw [vZI hd, ups_cons hd hi]
 simp
def newIt (root : Int) (t : Flt) : Itr := ⟨root, root, true, t⟩
theorem check_new (f : List Nd) (root : Int) (t : Flt) : checkI f (newIt root t) = faultT f t [root] := by
 by_cases hf : faultT f t [root] = 0
 ·obtain ⟨R, hq, _⟩ := faultT0 hf
  have hi := inF1 hq
  simp [checkI, newIt, hf, hi, holdsF_self R hi]
 ·simp [checkI, newIt, hf]
def newI (f : List Nd) (root : Int) (t : Flt) : Itr := if faultT f t [root] = 0 then newIt root t else noIt
theorem buildNew (H : Heap) (root : Int) (t : Flt) : evBuild H [.int .i64 0, .int .i64 0, .bool false, .int .u32 0, .nils] [(0, 1, .int .i64 root), (1, 1, .int .i64 root), (2, 1, .bool true), (3, 2, eFl t)] = some (eIt (newIt root t), H) := by
 simp [evBuild, placeParts, eFl, cFl, V.cells, V.isCell, setRange, eIt, cIt, newIt]
theorem buildNo (H : Heap) : evBuild H [.int .i64 0, .int .i64 0, .bool false, .int .u32 0, .nils] [] = some (.agg [.int .i64 0, .int .i64 0, .bool false, .int .u32 0, .nils], H) := by
 simp [evBuild, placeParts]
theorem storeNo {H : Heap} {id : Nat} {a b c d e : V} (h : H[id]? = some (.cells [a, b, c, d, e])) : evStoreV H 5 (.ptr id 0) (.agg [.int .i64 0, .int .i64 0, .bool false, .int .u32 0, .nils]) = some (V.non, H.set id (.cells [.int .i64 0, .int .i64 0, .bool false, .int .u32 0, .nils])) := jZv (cs := [.int .i64 0, .int .i64 0, .bool false, .int .u32 0, .nils]) h rfl rfl
abbrev zIt : List V := [.int .i64 0, .int .i64 0, .bool false, .int .u32 0, .nils]
theorem of5 (a b c d e : V) : ofCells (some 5) [a, b, c, d, e] = some (.agg [a, b, c, d, e]) := rfl
theorem xZH (f : List Nd) (z : Sz f) (root : Int) (t : Flt) (zt : Fz t) (H : Heap) : callW Φ qZu [eF f, .int .i64 root, eFl t] H = some (.tup [eIt (newI f root t), .int .i64 (faultT f t [root])], H) := by
 refine qZ8 qZu.Φ rfl (args := [eF f, .int .i64 root, eFl t]) rfl ?_
 obtain ⟨P, hP⟩ : ∃ P : V → Heap → Prop, P = fun r h2 => ∃ h3, fz fzDepth h2 r = some (.tup [eIt (newI f root t), .int .i64 (faultT f t [root])], h3) := ⟨_, rfl⟩
 suffices hgo : ∃ r h', evBodyW (callW Φ) qZu.c [eF f, .int .i64 root, eFl t] [] = some (r, h') ∧ P r h' by rw [hP] at hgo; exact hgo
 have hPz : ∀ r h2 h3, fz fzDepth h2 r = some (.tup [eIt (newI f root t), .int .i64 (faultT f t [root])], h3) → P r h2 := fun r h2 h3 hz => by rw [hP]; exact ⟨h3, hz⟩
 have hPn : ∀ r h2, flatN2 r = true → nz2 r = .tup [eIt (newI f root t), .int .i64 (faultT f t [root])] → P r h2 := fun r h2 h h1 => hPz r h2 h2 (by rw [← h1]; exact qZ0 h)
 clear hP
 obtain ⟨K0, hK0⟩ : ∃ K0 : Heap, K0 = [cF f] := ⟨_, rfl⟩
 obtain ⟨K1, hK1⟩ : ∃ K1 : Heap, K1 = [cF f, .cells (cFl t)] := ⟨_, rfl⟩
 obtain ⟨K2, hK2⟩ : ∃ K2 : Heap, K2 = [cF f, .cells (cFl t), .cells zIt] := ⟨_, rfl⟩
 have hb0 : evBox [] [.arr (f.map cN)] = some (.ptr 0 0, K0) := by rw [hK0]; simp [evBox, V.isCell, qZB]
 have hb1 : evBox K0 (cFl t) = some (.ptr 1 0, K1) := by rw [hK0, hK1]; exact qZd _ rfl
 have l1 : K1.length = 2 := by rw [hK1]; rfl
 have e2 : K1 ++ [.cells zIt] = K2 := by rw [hK1, hK2]; rfl
 have cK : cellsAt K2 (.ptr 0 0) = some [.arr (f.map cN)] := by rw [hK2]; rfl
 have k1 : K2[1]? = some (.cells (cFl t)) := by rw [hK2]; rfl
 have c1 := qZv k1
 have k2 : K2[2]? = some (.cells zIt) := by rw [hK2]; rfl
 have lt2 := (List.getElem?_eq_some_iff.1 k2).1
 have hA := wZp f z t zt root K2
 have okF : ∀ H, okCells H (some 2) (some (cFl t)) = some (eFl t, H) := fun _ => rfl
 simp only [eF] at hA
 refine vZv (Nat.le_of_ble_eq_true rfl) (fun env he h0 => ?_)
 have g0 := h0 0 (by simp)
 change eget env 0 = .agg [.arr (f.map cN)] at g0
 have g1 := h0 1 (by simp)
 change eget env 1 = .int .i64 root at g1
 have g2 := h0 2 (by simp)
 change eget env 2 = eFl t at g2
 clear h0
 simp [qZu.c] at he
 by_cases hf : faultT f t [root] = 0
 case neg =>
  have hb2 : (faultT f t [root] != 0) = true := by simpa using hf
  have hn : newI f root t = noIt := by simp [newI, hf]
  have c3 : cellsAt (K2.set 2 (.cells zIt)) (.ptr 2 0) = some zIt := by simp [cellsAt, lt2]
  have hfin : ∀ H, P (.tup [.agg zIt, .int .i64 (faultT f t [root])]) H := fun H => hPn _ _ rfl (by rw [hn]; rfl)
  simp [qZu.c, qZu.r0, qZu.r1, qZu.r2, qZu.r3, qZu.r4, g0, g1, g2, he, ccF, ccFl, hb0, hb1, l1, e2, cK, c1, okF, hA, hb2, buildNo, storeNo k2, c3, of5, hfin, evExt]
 have hb2 : (faultT f t [root] != 0) = false := by simpa using hf
 have hn : newI f root t = newIt root t := by simp [newI, hf]
 have c3 : cellsAt (K2.set 2 (.cells (cIt (newIt root t)))) (.ptr 2 0) = some (cIt (newIt root t)) := by simp [cellsAt, lt2]
 have hfin : ∀ H, P (.tup [eIt (newIt root t), .int .i64 0]) H := fun H => hPn _ _ rfl (by rw [hn, hf]; rfl)
 simp [qZu.c, qZu.r0, qZu.r1, qZu.r2, qZu.r3, qZu.r4, g0, g1, g2, he, ccF, ccFl, hb0, hb1, l1, e2, cK, c1, okF, hA, hb2, buildNew, storeIt _ k2, c3, ofIt, hfin, evExt]
theorem wZF (f : List Nd) (z : Sz f) (root : Int) (t : Flt) (zt : Fz t) (H : Heap) : callW Φ zZ1 [eF f, .int .i64 root, eFl t] H = some (.tup [eIt (newI f root t), .int .i64 (faultT f t [root])], H) := by
 refine qZ8 zZ1.Φ rfl (args := [eF f, .int .i64 root, eFl t]) rfl ?_
 obtain ⟨P, hP⟩ : ∃ P : V → Heap → Prop, P = fun r h2 => ∃ h3, fz fzDepth h2 r = some (.tup [eIt (newI f root t), .int .i64 (faultT f t [root])], h3) := ⟨_, rfl⟩
 suffices hgo : ∃ r h', evBodyW (callW Φ) zZ1.c [eF f, .int .i64 root, eFl t] [] = some (r, h') ∧ P r h' by rw [hP] at hgo; exact hgo
 have hPz : ∀ r h2 h3, fz fzDepth h2 r = some (.tup [eIt (newI f root t), .int .i64 (faultT f t [root])], h3) → P r h2 := fun r h2 h3 hz => by rw [hP]; exact ⟨h3, hz⟩
 have hPn : ∀ r h2, flatN2 r = true → nz2 r = .tup [eIt (newI f root t), .int .i64 (faultT f t [root])] → P r h2 := fun r h2 h h1 => hPz r h2 h2 (by rw [← h1]; exact qZ0 h)
 clear hP
 obtain ⟨K0, hK0⟩ : ∃ K0 : Heap, K0 = [cF f] := ⟨_, rfl⟩
 obtain ⟨K1, hK1⟩ : ∃ K1 : Heap, K1 = [cF f, .cells (cFl t)] := ⟨_, rfl⟩
 obtain ⟨K2, hK2⟩ : ∃ K2 : Heap, K2 = [cF f, .cells (cFl t), .cells zIt] := ⟨_, rfl⟩
 obtain ⟨K3, hK3⟩ : ∃ K3 : Heap, K3 = [cF f, .cells (cFl t), .cells zIt, .cells zIt] := ⟨_, rfl⟩
 obtain ⟨K4, hK4⟩ : ∃ K4 : Heap, K4 = [cF f, .cells (cFl t), .cells zIt, .cells (cIt (newIt root t))] := ⟨_, rfl⟩
 have hb0 : evBox [] [.arr (f.map cN)] = some (.ptr 0 0, K0) := by rw [hK0]; simp [evBox, V.isCell, qZB]
 have hb1 : evBox K0 (cFl t) = some (.ptr 1 0, K1) := by rw [hK0, hK1]; exact qZd _ rfl
 have l1 : K1.length = 2 := by rw [hK1]; rfl
 have e2 : K1 ++ [.cells zIt] = K2 := by rw [hK1, hK2]; rfl
 have l2 : K2.length = 3 := by rw [hK2]; rfl
 have e3 : K2 ++ [.cells zIt] = K3 := by rw [hK2, hK3]; rfl
 have k1 : K2[1]? = some (.cells (cFl t)) := by rw [hK2]; rfl
 have c1 := qZv k1
 have k3 : K3[3]? = some (.cells zIt) := by rw [hK3]; rfl
 have e4 : K3.set 3 (.cells (cIt (newIt root t))) = K4 := by rw [hK3, hK4]; rfl
 have st3 := storeIt (newIt root t) k3
 rw [e4] at st3
 have cK : cellsAt K4 (.ptr 0 0) = some [.arr (f.map cN)] := by rw [hK4]; rfl
 have k43 : K4[3]? = some (.cells (cIt (newIt root t))) := by rw [hK4]; rfl
 have c4 := qZv k43
 have k2 : K4[2]? = some (.cells zIt) := by rw [hK4]; rfl
 have lt2 := (List.getElem?_eq_some_iff.1 k2).1
 have hA := qZ4 f z (newIt root t) zt K4
 rw [check_new] at hA
 have okF : ∀ H, okCells H (some 2) (some (cFl t)) = some (eFl t, H) := fun _ => rfl
 simp only [eF] at hA
 refine vZv (Nat.le_of_ble_eq_true rfl) (fun env he h0 => ?_)
 have g0 := h0 0 (by simp)
 change eget env 0 = .agg [.arr (f.map cN)] at g0
 have g1 := h0 1 (by simp)
 change eget env 1 = .int .i64 root at g1
 have g2 := h0 2 (by simp)
 change eget env 2 = eFl t at g2
 clear h0
 simp [zZ1.c] at he
 by_cases hf : faultT f t [root] = 0
 case neg =>
  have hb2 : (faultT f t [root] != 0) = true := by simpa using hf
  have hn : newI f root t = noIt := by simp [newI, hf]
  have c5 : cellsAt (K4.set 2 (.cells zIt)) (.ptr 2 0) = some zIt := by simp [cellsAt, lt2]
  have hfin : ∀ H, P (.tup [.agg zIt, .int .i64 (faultT f t [root])]) H := fun H => hPn _ _ rfl (by rw [hn]; rfl)
  simp [zZ1.c, zZ1.r0, zZ1.r1, zZ1.r2, zZ1.r3, zZ1.r4, zZ1.r5, g0, g1, g2, he, ccF, ccFl, hb0, hb1, l1, e2, l2, e3, cK, c1, okF, buildNew, st3, c4, okIt, hA, hb2, buildNo, storeNo k2, c5, of5, hfin]
 have hb2 : (faultT f t [root] != 0) = false := by simpa using hf
 have hn : newI f root t = newIt root t := by simp [newI, hf]
 have hO := vZq (newIt root t) (by have := (faultT0 hf).2.2; show t.rules.length < _; omega) K4
 have c5 : cellsAt (K4.set 2 (.cells (cIt (newIt root t)))) (.ptr 2 0) = some (cIt (newIt root t)) := by simp [cellsAt, lt2]
 have hfin : ∀ H, P (.tup [eIt (newIt root t), .int .i64 0]) H := fun H => hPn _ _ rfl (by rw [hn, hf]; rfl)
 simp [zZ1.c, zZ1.r0, zZ1.r1, zZ1.r2, zZ1.r3, zZ1.r4, zZ1.r5, g0, g1, g2, he, ccF, ccFl, hb0, hb1, l1, e2, l2, e3, cK, c1, okF, buildNew, st3, c4, okIt, hA, hb2, hO, storeIt _ k2, c5, ofIt, hfin]
end Go.Proofs.It
