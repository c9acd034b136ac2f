/- The program's forest: its small functions. The program's forest: names, keys, traits. The program's forest: how a node is named. No conditions. -/
import Derived.Test.YtohcoghaaifmgaaItM
set_option maxHeartbeats 16000000
set_option maxRecDepth 100000
set_option linter.unusedVariables false
set_option linter.unusedSimpArgs false
set_option linter.unusedSectionVars false
namespace Go.Proofs.It
open Go Go.Ev
theorem forest_at_run (f : List Nd) (h : Int) (hl : f.length < 2 ^ 50) (h1 : 1 ≤ h) (h2 : h ≤ f.length) :
  ∃ hh, evBodyW (callW Φ) qZm.c [eF f, .int .i64 h] [] = some (.tup [eN (at_ f h), .bool true], hh) := by
 refine qZE (Nat.le_of_ble_eq_true rfl) (fun env he h0 => ?_)
 have g0 := h0 0 (by simp)
 have g1 := h0 1 (by simp)
 change eget env 0 = eF f at g0
 change eget env 1 = .int .i64 h at g1
 have hl' : env.length = 22 := he
 clear h0 he
 have e1 : ¬ h < 1 := by omega
 have e2 : ¬ h > (f.length : Int) := by omega
 have hw : IntKind.i64.wrap (h - 1) = h - 1 := by rw [Ev.wrap64] <;> omega
 simp [qZm.c, qZm.r0, qZm.r1, qZm.r2, qZm.r3, kSeq, kRegion, kOps, kOp, kGuard, kCond, kRet, kSkip, g0, g1, hl', eF, evBox, V.cells, V.isCell, cellsAt, e1, e2, evPick, hw, vZj vZO (show 0 ≤ h - 1 by omega) (at_in h1 h2), okN, storeN, evStore, setRange, vZO, FinV, ofCells, eN, takeN]
theorem forest_at_out (f : List Nd) (h : Int) (hh : h < 1 ∨ f.length < h) :
  ∃ hh, evBodyW (callW Φ) qZm.c [eF f, .int .i64 h] [] = some (.tup [.agg zN, .bool false], hh) := by
 refine qZE (Nat.le_of_ble_eq_true rfl) (fun env he h0 => ?_)
 have g0 := h0 0 (by simp)
 have g1 := h0 1 (by simp)
 change eget env 0 = eF f at g0
 change eget env 1 = .int .i64 h at g1
 have hl' : env.length = 22 := he
 clear h0 he
 by_cases e1 : h < 1
 ·simp [qZm.c, qZm.r0, qZm.r1, qZm.r2, qZm.r3, kSeq, kRegion, kOps, kOp, kGuard, kCond, kRet, kSkip, g0, g1, hl', eF, evBox, V.cells, V.isCell, cellsAt, e1, evPick, evBuild, placeParts, evStoreV, evStore, setRange, FinV, ofCells, zN]
 ·have e2 : h > (f.length : Int) := by omega
  simp [qZm.c, qZm.r0, qZm.r1, qZm.r2, qZm.r3, kSeq, kRegion, kOps, kOp, kGuard, kCond, kRet, kSkip, g0, g1, hl', eF, evBox, V.cells, V.isCell, cellsAt, e1, e2, evPick, evBuild, placeParts, evStoreV, evStore, setRange, FinV, ofCells, zN]
theorem vZn (f : List Nd) (h : Int) (hl : f.length < 2 ^ 50) (H : Heap) : callW Φ qZm [eF f, .int .i64 h] H = some (.tup [eN (at_ f h), .bool (is_ f h)], H) := by
 by_cases hh : h < 1 ∨ f.length < h
 ·obtain ⟨h', hb⟩ := forest_at_out f h hh
  have := zZQ (h := H) qZm.Φ rfl (args := [eF f, .int .i64 h]) rfl hb rfl
  have hi : is_ f h = false := by simp [is_]; omega
  rw [this, at_out hh, hi]
  rfl
 ·obtain ⟨h', hb⟩ := forest_at_run f h hl (by omega) (by omega)
  have hi : is_ f h = true := by simp [is_]; omega
  rw [hi]
  exact zZQ (h := H) qZm.Φ rfl (args := [eF f, .int .i64 h]) rfl hb rfl
theorem wZE (f : List Nd) (h : Int) (hl : f.length < 2 ^ 50) (H : Heap) : callW Φ qZz [eF f, .int .i64 h] H = some (.int .u8 (kindOf f h), H) := by
 have : ∃ hh, evBodyW (callW Φ) qZz.c [eF f, .int .i64 h] [] = some (.int .u8 (kindOf f h), hh) := by
  refine qZE (Nat.le_of_ble_eq_true rfl) (fun env he h0 => ?_)
  have g0 := h0 0 (by simp)
  have g1 := h0 1 (by simp)
  change eget env 0 = eF f at g0
  change eget env 1 = .int .i64 h at g1
  clear h0
  simp [qZz.c] at he
  have hN := fun H => vZn f h hl H
  simp only [eF, eN] at hN g0
  simp [qZz.c, qZz.r0, qZz.r1, qZz.r2, g0, g1, he, hN, evBox, evExt, V.cells, V.isCell, cellsAt, storeN, evStore, setRange, vZO, kindOf]
 obtain ⟨h', hb⟩ := this
 exact zZQ (h := H) qZz.Φ rfl (args := [eF f, .int .i64 h]) rfl hb rfl
theorem jZX (n : Nd) (H : Heap) : callW Φ qZe [eN n] H = some (.int .i64 (above n), H) := by
 have : ∃ hh, evBodyW (callW Φ) qZe.c [eN n] [] = some (.int .i64 (above n), hh) := by
  refine qZE (Nat.le_of_ble_eq_true rfl) (fun env he h0 => ?_)
  have g0 := h0 0 (by simp)
  change eget env 0 = .agg (cN n) at g0
  clear h0
  simp [qZe.c] at he
  cases hk : (n.kind == 12) <;> simp [qZe.c, qZe.r0, qZe.r1, qZe.r2, qZe.r3, g0, he, V.cells, cellsN, cellsAt, hk, above]
 obtain ⟨h', hb⟩ := this
 exact zZQ (h := H) qZe.Φ rfl (args := [eN n]) rfl hb rfl
theorem kZn (l : List Int) (h : Int) (hlen : l.length < 2 ^ 50) (H : Heap) : callW Φ zZS [eI l, .int .i64 h] H = some (.bool (cnt l h == 1), H) := by
 have : ∃ hh, evBodyW (callW Φ) zZS.c [eI l, .int .i64 h] [] = some (.bool (cnt l h == 1), hh) := by
  refine qZE (Nat.le_of_ble_eq_true rfl) (fun env he h0 => ?_)
  have g0 := h0 0 (by simp)
  have g1 := h0 1 (by simp)
  change eget env 0 = eI l at g0
  change eget env 1 = .int .i64 h at g1
  clear h0
  simp [zZS.c] at he
  simp [zZS.c, zZS.r0, zZS.r1, zZS.r2, g0, he, eI]
  refine kLoop (fun m s => ∃ i c : Nat, m = l.length - i ∧ i ≤ l.length ∧ c ≤ i ∧ s.env.length = 22 ∧ eget s.env 8 = eI l ∧ eget s.env 1 = .int .i64 h ∧ eget s.env 9 = .int .i64 l.length ∧ eget s.env 10 = .int .i64 i ∧ eget s.env 5 = .int .i64 c ∧ s.marks = [] ∧ s.heap = [] ∧ cnt l h = c + cnt (l.drop i) h) l.length ⟨0, 0, by simp [g0, g1, he, eI]⟩ ?_
  rintro m ⟨e, mk, hp⟩ ⟨i, c, rfl, hi, hc, he, k8, k1, k9, k10, k5, hm, hh, hpl⟩
  simp only at he k8 k1 k9 k10 k5 hm hh
  subst hm hh
  by_cases hlt : i < l.length
  ·obtain ⟨x, hx⟩ : ∃ x, l[i]? = some x := ⟨l[i], by simp [hlt]⟩
   have hw : IntKind.i64.wrap ((i : Int) + 1) = ((i + 1 : Nat) : Int) := by rw [Ev.wrap64] <;> omega
   have hw2 : IntKind.i64.wrap ((c : Int) + 1) = ((c + 1 : Nat) : Int) := by rw [Ev.wrap64] <;> omega
   rw [vZe hx] at hpl
   by_cases e : x = h
   ·simp [zZS.b8, zZS.r3, zZS.r4, zZS.r5, zZS.r6, zZS.r7, k8, k1, k9, k10, k5, he, eI, hlt, qZj qZY hx, e, cellI]
    exact ⟨l.length - (i + 1), by omega, i + 1, rfl, by omega, c + 1, by omega, by simpa using hw, by simpa using hw2, by simp [cnt, e] at hpl; omega⟩
   ·have eb : (x == h) = false := by simpa using e
    simp [zZS.b8, zZS.r3, zZS.r4, zZS.r5, zZS.r6, zZS.r7, k8, k1, k9, k10, k5, he, eI, hlt, qZj qZY hx, eb, cellI]
    exact ⟨l.length - (i + 1), by omega, i + 1, rfl, by omega, c, by omega, by simpa using hw, rfl, by simp [cnt, e] at hpl; omega⟩
  ·have : i = l.length := by omega
   subst this
   have hc' : cnt l h = c := by simpa [cnt] using hpl
   have hb1 : (((c : Nat) : Int) == 1) = (c == 1) := by rw [Bool.eq_iff_iff]; simp; omega
   rw [hc']
   simp [zZS.b8, zZS.r3, zZS.r9, k8, k1, k9, k10, k5, he, eI, hb1]
 obtain ⟨h', hb⟩ := this
 exact zZQ (h := H) zZS.Φ rfl (args := [eI l, .int .i64 h]) rfl hb rfl
def cSt (s : ByteArray) : List V := [.str s]
theorem cSt_len (s : ByteArray) : (cSt s).length = 1 := rfl
def shortB (l : List ByteArray) : Bool := l.all fun s => decide (s.size ≤ 1024)
theorem cellSt (H : Heap) (s : ByteArray) : okCells H none (some (cSt s)) = some (.str s, H) := rfl
theorem jZ1 (l : List ByteArray) (hlen : l.length < 2 ^ 50) (H : Heap) : callW Φ zZP [.arr (l.map cSt)] H = some (.bool (shortB l), H) := by
 have : ∃ hh, evBodyW (callW Φ) zZP.c [.arr (l.map cSt)] [] = some (.bool (shortB l), hh) := by
  refine qZE (Nat.le_of_ble_eq_true rfl) (fun env he h0 => ?_)
  have g0 := h0 0 (by simp)
  change eget env 0 = .arr (l.map cSt) at g0
  clear h0
  simp [zZP.c] at he
  simp [zZP.c, zZP.r0, zZP.r1, g0, he]
  refine kLoop (fun m s => ∃ i : Nat, m = l.length - i ∧ i ≤ l.length ∧ s.env.length = 15 ∧ eget s.env 5 = .arr (l.map cSt) ∧ eget s.env 6 = .int .i64 l.length ∧ eget s.env 7 = .int .i64 i ∧ s.marks = [] ∧ shortB l = shortB (l.drop i)) l.length ⟨0, by simp [he]⟩ ?_
  rintro m ⟨e, mk, hp⟩ ⟨i, rfl, hi, he, k5, k6, k7, hm, hpl⟩
  simp only at he k5 k6 k7 hm
  subst hm
  by_cases hlt : i < l.length
  ·obtain ⟨x, hx⟩ : ∃ x, l[i]? = some x := ⟨l[i], by simp [hlt]⟩
   have hw : IntKind.i64.wrap ((i : Int) + 1) = ((i + 1 : Nat) : Int) := by rw [Ev.wrap64] <;> omega
   have hdx : l.drop i = x :: l.drop (i + 1) := by
    obtain ⟨hi', rfl⟩ := List.getElem?_eq_some_iff.1 hx
    exact List.drop_eq_getElem_cons hi'
   rw [hdx] at hpl
   simp only [shortB, List.all_cons] at hpl
   have ha := qZj (h := hp) (k := .i64) cSt_len hx
   by_cases hs : x.size ≤ 1024
   ·have hs' : ¬ (1024 : Int) < (x.size : Int) := by omega
    simp only [hs, decide_true, Bool.true_and] at hpl
    simp [zZP.b7, zZP.r2, zZP.r3, zZP.r4, zZP.r6, k5, k6, k7, he, hlt, ha, cellSt, hs']
    exact ⟨l.length - (i + 1), by omega, i + 1, rfl, by omega, by simpa using hw, hpl⟩
   ·have hs' : (1024 : Int) < (x.size : Int) := by omega
    simp only [hs, decide_false, Bool.false_and] at hpl
    have hz : shortB l = false := hpl
    rw [hz]
    simp [zZP.b7, zZP.r2, zZP.r3, zZP.r4, zZP.r5, k5, k6, k7, he, hlt, ha, cellSt, hs']
  ·have : i = l.length := by omega
   subst this
   have hz : shortB l = true := by rw [hpl, List.drop_length]; rfl
   rw [hz]
   simp [zZP.b7, zZP.r2, zZP.r8, k6, k7, he]
 obtain ⟨h', hb⟩ := this
 exact zZQ (h := H) zZP.Φ rfl (args := [.arr (l.map cSt)]) rfl hb rfl
theorem vZR (l : List ByteArray) (hlen : l.length < 2 ^ 50) (H : Heap) : callW Φ zZP [.sl H.length 0 0 l.length] (H ++ [Ob.row 1 (l.map cSt) 0 true]) = some (.bool (shortB l), H ++ [Ob.row 1 (l.map cSt) 0 false]) := by
 have hr : (H ++ [Ob.row 1 (l.map cSt) 0 true])[H.length]? = some (.row 1 (l.map cSt) 0 true) := by simp
 have hz := fz_sl (d := 62) (off := 0) (len := l.length) hr (by simp) (fun e he => by
  obtain ⟨s, _, rfl⟩ := List.mem_map.1 he
  rfl)
 have e1 : ((l.map cSt).drop 0).take l.length = l.map cSt := by rw [List.drop_zero]; exact List.take_of_length_le (by simp)
 have e2 : (H ++ [Ob.row 1 (l.map cSt) 0 true]).set H.length (Ob.row 1 (l.map cSt) 0 false) = H ++ [Ob.row 1 (l.map cSt) 0 false] := by simp [List.set_append]
 rw [e1, e2] at hz
 have hm : mapH (fz fzDepth) (H ++ [Ob.row 1 (l.map cSt) 0 true]) [.sl H.length 0 0 l.length] = some ([.arr (l.map cSt)], H ++ [Ob.row 1 (l.map cSt) 0 false]) := by
  have hz' : fz fzDepth (H ++ [Ob.row 1 (l.map cSt) 0 true]) (.sl H.length 0 0 l.length) = some (.arr (l.map cSt), H ++ [Ob.row 1 (l.map cSt) 0 false]) := hz
  simp only [mapH, hz']
 exact jZP (Φ := Φ) zZP.Φ rfl (by simp [flat2, flat, scal]) hm (jZ1 l hlen [])
open Go Go.Ev
theorem vZH (n : Nm) (H : Heap) : callW Φ qZa [eNm n] H = some (.bool (named n), H) := by
 have : ∃ hh, evBodyW (callW Φ) qZa.c [eNm n] [] = some (.bool (named n), hh) := by
  obtain ⟨K, hK⟩ : ∃ K : Heap, K = [Ob.cells [.str n.sp, .str n.pr, .str n.lo]] := ⟨_, rfl⟩
  have hb : evBox [] [.str n.sp, .str n.pr, .str n.lo] = some (.ptr 0 0, K) := by rw [hK]; simp [evBox, V.isCell]
  have c : ∀ off, cellsAt K (.ptr 0 off) = some ([V.str n.sp, .str n.pr, .str n.lo].drop off) := fun off => by rw [hK]; rfl
  have c0 := c 0
  have c1 := c 1
  have c2 := c 2
  obtain ⟨K1, hK1⟩ : ∃ K1 : Heap, K1 = K ++ [Ob.row 1 ([n.sp, n.pr, n.lo].map cSt) 0 true] := ⟨_, rfl⟩
  obtain ⟨K2, hK2⟩ : ∃ K2 : Heap, K2 = K ++ [Ob.row 1 ([n.sp, n.pr, n.lo].map cSt) 0 false] := ⟨_, rfl⟩
  have hbs : evBslice K [.str ⟨#[]⟩] 3 1 [(0, .str n.sp), (1, .str n.pr), (2, .str n.lo)] = some (.sl K.length 0 0 3, K1) := by
   rw [hK1]
   simp [evBslice, placeParts, V.cells, V.isCell, setRange, chunks, cSt]
  have hs := vZR [n.sp, n.pr, n.lo] (by simp) K
  rw [← hK1, ← hK2] at hs
  have d : ∀ off, cellsAt K2 (.ptr 0 off) = some ([V.str n.sp, .str n.pr, .str n.lo].drop off) := fun off => by rw [hK2, hK]; rfl
  have d0 := d 0
  have d1 := d 1
  simp only [List.drop_zero, List.drop_succ_cons, List.length_cons, List.length_nil, Nat.zero_add, Nat.reduceAdd] at c0 c1 c2 d0 d1 hs
  have hnm : named n = (!(beqS n.lo ⟨#[]⟩) && shortB [n.sp, n.pr, n.lo] && (beqS n.pr ⟨#[]⟩ || !(beqS n.sp ⟨#[]⟩))) := by
   simp [named, shortB, Bool.and_assoc]
  refine qZE (Nat.le_of_ble_eq_true rfl) (fun env he h0 => ?_)
  have g0 := h0 0 (by simp)
  change eget env 0 = eNm n at g0
  clear h0
  simp only [eNm] at g0
  simp [qZa.c] at he
  rw [hnm]
  cases h1 : beqS n.lo ⟨#[]⟩ with
  | true => simp [qZa.c, qZa.r0, qZa.r1, g0, he, V.cells, hb, faddrP, c2, h1, evPick, ofCells]
  | false =>
   cases h2 : shortB [n.sp, n.pr, n.lo] with
   | false =>
    rw [h2] at hs
    simp [qZa.c, qZa.r0, qZa.r1, g0, he, V.cells, hb, faddrP, c0, c1, c2, h1, hbs, hs, evPick, ofCells]
   | true =>
    rw [h2] at hs
    cases h3 : beqS n.pr ⟨#[]⟩ with
    | true => simp [qZa.c, qZa.r0, qZa.r1, g0, he, V.cells, hb, faddrP, c0, c1, c2, d0, d1, h1, hbs, hs, h3, evPick, ofCells]
    | false => cases h4 : beqS n.sp ⟨#[]⟩ <;> simp [qZa.c, qZa.r0, qZa.r1, g0, he, V.cells, hb, faddrP, c0, c1, c2, d0, d1, h1, hbs, hs, h3, h4, evPick, ofCells]
 obtain ⟨h', hb⟩ := this
 exact zZQ (h := H) qZa.Φ rfl (args := [eNm n]) rfl hb rfl
def cK (n : Nm) : List V := [.str n.sp, .str n.lo]
theorem jZY (n : Nm) (H : Heap) : callW Φ qZy [eNm n] H = some (.agg (cK n), H) := by
 have : ∃ hh, evBodyW (callW Φ) qZy.c [eNm n] [] = some (.agg (cK n), hh) := by
  refine qZE (Nat.le_of_ble_eq_true rfl) (fun env he h0 => ?_)
  have g0 := h0 0 (by simp)
  change eget env 0 = eNm n at g0
  clear h0
  simp [qZy.c] at he
  simp [qZy.c, qZy.r0, qZy.r1, g0, he, eNm, V.cells, evBox, V.isCell, faddrP, cellsAt, evBuild, placeParts, setRange, evStoreV, evStore, cK, ofCells]
 obtain ⟨h', hb⟩ := this
 exact zZQ (h := H) qZy.Φ rfl (args := [eNm n]) rfl hb rfl
structure Tr where
 known : Bool
 data : Bool
 kids : Bool
 hung : Bool
 full : Bool
 loc : Bool
def cTr (t : Tr) : List V := [.bool t.known, .bool t.data, .bool t.kids, .bool t.hung, .bool t.full, .bool t.loc]
def traits (k : Int) : Tr :=
 if k == 1 then ⟨true, false, true, true, true, false⟩
 else if k == 3 || k == 4 || k == 8 then ⟨true, true, false, true, false, false⟩
 else if k == 7 then ⟨true, true, false, true, false, true⟩
 else if k == 10 then ⟨true, false, false, true, false, true⟩
 else if k == 9 || k == 11 || k == 12 then ⟨true, false, true, false, false, false⟩
 else ⟨false, false, false, false, false, false⟩
theorem jZH (k : Int) (H : Heap) : callW Φ zZe [.int .u8 k] H = some (.agg (cTr (traits k)), H) := by
 have : ∃ hh, evBodyW (callW Φ) zZe.c [.int .u8 k] [] = some (.agg (cTr (traits k)), hh) := by
  refine qZE (Nat.le_of_ble_eq_true rfl) (fun env he h0 => ?_)
  have g0 := h0 0 (by simp)
  change eget env 0 = .int .u8 k at g0
  clear h0
  simp [zZe.c] at he
  cases e1 : (k == 1)
  case true => simp [zZe.c, zZe.r0, zZe.r1, zZe.r2, zZe.r3, g0, he, e1, traits, cTr, evBuild, placeParts, setRange, V.cells, V.isCell, evStoreV, evStore, cellsAt, ofCells]
  cases e3 : (k == 3)
  case true => simp [zZe.c, zZe.r0, zZe.r1, zZe.r2, zZe.r4, zZe.r7, g0, he, e1, e3, traits, cTr, evBuild, placeParts, setRange, V.cells, V.isCell, evStoreV, evStore, cellsAt, ofCells]
  cases e4 : (k == 4)
  case true => simp [zZe.c, zZe.r0, zZe.r1, zZe.r2, zZe.r4, zZe.r5, zZe.r7, g0, he, e1, e3, e4, traits, cTr, evBuild, placeParts, setRange, V.cells, V.isCell, evStoreV, evStore, cellsAt, ofCells]
  cases e8 : (k == 8)
  case true => simp [zZe.c, zZe.r0, zZe.r1, zZe.r2, zZe.r4, zZe.r5, zZe.r6, zZe.r7, g0, he, e1, e3, e4, e8, traits, cTr, evBuild, placeParts, setRange, V.cells, V.isCell, evStoreV, evStore, cellsAt, ofCells]
  cases e7 : (k == 7)
  case true => simp [zZe.c, zZe.r0, zZe.r1, zZe.r2, zZe.r4, zZe.r5, zZe.r6, zZe.r8, zZe.r9, g0, he, e1, e3, e4, e8, e7, traits, cTr, evBuild, placeParts, setRange, V.cells, V.isCell, evStoreV, evStore, cellsAt, ofCells]
  cases e10 : (k == 10)
  case true => simp [zZe.c, zZe.r0, zZe.r1, zZe.r2, zZe.r4, zZe.r5, zZe.r6, zZe.r8, zZe.r10, zZe.r11, g0, he, e1, e3, e4, e8, e7, e10, traits, cTr, evBuild, placeParts, setRange, V.cells, V.isCell, evStoreV, evStore, cellsAt, ofCells]
  cases e9 : (k == 9)
  case true => simp [zZe.c, zZe.r0, zZe.r1, zZe.r2, zZe.r4, zZe.r5, zZe.r6, zZe.r8, zZe.r10, zZe.r12, zZe.r15, g0, he, e1, e3, e4, e8, e7, e10, e9, traits, cTr, evBuild, placeParts, setRange, V.cells, V.isCell, evStoreV, evStore, cellsAt, ofCells]
  cases e11 : (k == 11)
  case true => simp [zZe.c, zZe.r0, zZe.r1, zZe.r2, zZe.r4, zZe.r5, zZe.r6, zZe.r8, zZe.r10, zZe.r12, zZe.r13, zZe.r15, g0, he, e1, e3, e4, e8, e7, e10, e9, e11, traits, cTr, evBuild, placeParts, setRange, V.cells, V.isCell, evStoreV, evStore, cellsAt, ofCells]
  cases e12 : (k == 12)
  case true => simp [zZe.c, zZe.r0, zZe.r1, zZe.r2, zZe.r4, zZe.r5, zZe.r6, zZe.r8, zZe.r10, zZe.r12, zZe.r13, zZe.r14, zZe.r15, g0, he, e1, e3, e4, e8, e7, e10, e9, e11, e12, traits, cTr, evBuild, placeParts, setRange, V.cells, V.isCell, evStoreV, evStore, cellsAt, ofCells]
  simp [zZe.c, zZe.r0, zZe.r1, zZe.r2, zZe.r4, zZe.r5, zZe.r6, zZe.r8, zZe.r10, zZe.r12, zZe.r13, zZe.r14, zZe.r16, g0, he, e1, e3, e4, e8, e7, e10, e9, e11, e12, traits, cTr, evBuild, placeParts, setRange, V.cells, V.isCell, evStoreV, evStore, cellsAt, ofCells]
 obtain ⟨h', hb⟩ := this
 exact zZQ (h := H) zZe.Φ rfl (args := [.int .u8 k]) rfl hb rfl
open Go Go.Ev
def namingB (n : Nd) (t : Tr) : Bool :=
 if t.full then named n.name
 else if t.loc then !(beqS n.name.lo ⟨#[]⟩) && decide (n.name.lo.size ≤ 1024) && (beqS n.name.sp ⟨#[]⟩ && beqS n.name.pr ⟨#[]⟩)
 else beqS n.name.sp ⟨#[]⟩ && beqS n.name.pr ⟨#[]⟩ && beqS n.name.lo ⟨#[]⟩
theorem eqc_nmF (H : Heap) (a b : Nm) : evEqc H false (.cons 0 none (.leaf .s) (.cons 1 none (.leaf .s) (.cons 2 none (.leaf .s) .nil))) (eNm a) (eNm b) = some (.bool (beqS a.sp b.sp && beqS a.pr b.pr && beqS a.lo b.lo), H) := by
 cases h1 : beqS a.sp b.sp <;> cases h2 : beqS a.pr b.pr <;> cases h3 : beqS a.lo b.lo <;> simp [evEqc, eqdV, ofCells, cellEq, okV, fV_eq, eNm, h1, h2, h3]
theorem jZG (n : Nd) (t : Tr) (H : Heap) : callW Φ zZH [eN n, .agg (cTr t)] H = some (.bool (namingB n t), H) := by
 have : ∃ hh, evBodyW (callW Φ) zZH.c [eN n, .agg (cTr t)] [] = some (.bool (namingB n t), hh) := by
  obtain ⟨K, hK⟩ : ∃ K : Heap, K = [Ob.cells (cN n), Ob.cells (cTr t)] := ⟨_, rfl⟩
  have hb : evBox [] (cN n) = some (.ptr 0 0, [Ob.cells (cN n)]) := cellsN [] n
  have hb2 : evBox [Ob.cells (cN n)] (cTr t) = some (.ptr 1 0, K) := by rw [hK]; simp [evBox, cTr, V.isCell]
  have c1 : cellsAt K (.ptr 0 1) = some ((cN n).drop 1) := by rw [hK]; rfl
  have c3 : cellsAt K (.ptr 0 3) = some ((cN n).drop 3) := by rw [hK]; rfl
  have t4 : cellsAt K (.ptr 1 4) = some [.bool t.full, .bool t.loc] := by rw [hK]; rfl
  have t5 : cellsAt K (.ptr 1 5) = some [.bool t.loc] := by rw [hK]; rfl
  have hN3 : ∀ H, okCells H (some 3) (some (cN n).tail) = some (eNm n.name, H) := fun H => rfl
  have hnm := fun H => vZH n.name H
  have hcc : (V.agg (cN n)).cells = cN n := rfl
  have hct : (V.agg (cTr t)).cells = cTr t := rfl
  refine qZE (Nat.le_of_ble_eq_true rfl) (fun env he h0 => ?_)
  have g0 := h0 0 (by simp)
  have g1 := h0 1 (by simp)
  change eget env 0 = .agg (cN n) at g0
  change eget env 1 = .agg (cTr t) at g1
  clear h0
  simp [zZH.c] at he
  cases hf : t.full with
  | true =>
   have hB : namingB n t = named n.name := by simp [namingB, hf]
   rw [hB]
   rw [hf] at t4
   simp [zZH.c, zZH.r0, zZH.r1, zZH.r2, g0, g1, he, hcc, hct, hb, hb2, faddrP, t4, c1, hN3, hnm, ofCells]
  | false =>
   rw [hf] at t4
   cases hl : t.loc with
   | false =>
    have hB : namingB n t = (beqS n.name.sp ⟨#[]⟩ && beqS n.name.pr ⟨#[]⟩ && beqS n.name.lo ⟨#[]⟩) := by simp [namingB, hf, hl]
    rw [hB]
    rw [hl] at t4 t5
    have hq := eqc_nmF K n.name noNm
    have hbd : evBuild K [.str ⟨#[]⟩, .str ⟨#[]⟩, .str ⟨#[]⟩] [] = some (eNm noNm, K) := rfl
    simp only [noNm] at hq hbd
    simp [zZH.c, zZH.r0, zZH.r1, zZH.r3, zZH.r5, g0, g1, he, hcc, hct, hb, hb2, faddrP, t4, t5, c1, hN3, hbd, hq, ofCells]
   | true =>
    have hB : namingB n t = (!(beqS n.name.lo ⟨#[]⟩) && decide (n.name.lo.size ≤ 1024) && (beqS n.name.sp ⟨#[]⟩ && beqS n.name.pr ⟨#[]⟩)) := by simp [namingB, hf, hl]
    rw [hB]
    rw [hl] at t4 t5
    cases h1 : beqS n.name.lo ⟨#[]⟩ with
    | true => simp [zZH.c, zZH.r0, zZH.r1, zZH.r3, zZH.r4, g0, g1, he, hcc, hct, hb, hb2, faddrP, t4, t5, c1, c3, h1, evPick, ofCells]
    | false =>
     obtain ⟨K1, hK1⟩ : ∃ K1 : Heap, K1 = K ++ [Ob.row 1 ([n.name.lo].map cSt) 0 true] := ⟨_, rfl⟩
     obtain ⟨K2, hK2⟩ : ∃ K2 : Heap, K2 = K ++ [Ob.row 1 ([n.name.lo].map cSt) 0 false] := ⟨_, rfl⟩
     have hbs : evBslice K [.str ⟨#[]⟩] 1 1 [(0, .str n.name.lo)] = some (.sl K.length 0 0 1, K1) := by
      rw [hK1]
      simp [evBslice, placeParts, V.cells, V.isCell, setRange, chunks, cSt]
     have hs := vZR [n.name.lo] (by simp) K
     rw [← hK1, ← hK2] at hs
     have d1 : cellsAt K2 (.ptr 0 1) = some ((cN n).drop 1) := by rw [hK2, hK]; rfl
     have d3 : cellsAt K2 (.ptr 0 3) = some ((cN n).drop 3) := by rw [hK2, hK]; rfl
     have hsh : shortB [n.name.lo] = decide (n.name.lo.size ≤ 1024) := by simp [shortB]
     rw [hsh] at hs
     simp only [List.length_cons, List.length_nil, Nat.zero_add] at hs
     have hq := eqc_nmF K2 n.name ⟨⟨#[]⟩, ⟨#[]⟩, n.name.lo⟩
     rw [wZ3, Bool.and_true] at hq
     have hbd : evBuild K2 [.str ⟨#[]⟩, .str ⟨#[]⟩, .str ⟨#[]⟩] [(2, 1, .str n.name.lo)] = some (eNm ⟨⟨#[]⟩, ⟨#[]⟩, n.name.lo⟩, K2) := rfl
     cases h2 : decide (n.name.lo.size ≤ 1024) with
     | false =>
      rw [h2] at hs
      simp [zZH.c, zZH.r0, zZH.r1, zZH.r3, zZH.r4, g0, g1, he, hcc, hct, hb, hb2, faddrP, t4, t5, c1, c3, h1, hbs, hs, evPick, ofCells]
     | true =>
      rw [h2] at hs
      simp [zZH.c, zZH.r0, zZH.r1, zZH.r3, zZH.r4, g0, g1, he, hcc, hct, hb, hb2, faddrP, t4, t5, c1, c3, d1, d3, h1, hbs, hs, evPick, hN3, hbd, hq, ofCells]
 obtain ⟨h', hb⟩ := this
 exact zZQ (h := H) zZH.Φ rfl (args := [eN n, .agg (cTr t)]) rfl hb rfl
end Go.Proofs.It
