/- The program's forest: names, keys, traits. The program's forest: how a node is named. No conditions. -/
import Derived.Test.YtaeklgflchhmfaaGreatDoorItPa
set_option maxHeartbeats 16000000
set_option maxRecDepth 100000
set_option linter.unusedVariables false
set_option linter.unusedSimpArgs false
set_option linter.unusedSectionVars false
namespace Go.Proofs.It
open Go Go.Ev
theorem vZP (n : Nm) (H : Heap) : callW Φ zZ7 [eNm n] H = some (.bool (named n), H) := by
 have : ∃ hh, evBodyW (callW Φ) zZ7.c [eNm n] [] = some (.bool (named n), hh) := by
  obtain ⟨K, hK⟩ : ∃ K : Heap, K = [Ob.cells [.str n.sp, .str n.pr, .str n.lo]] := ⟨_, rfl⟩
  have hb : evBox [] [.str n.sp, .str n.pr, .str n.lo] = some (.ptr 0 0, K) := by rw [hK]; simp [evBox, V.isCell]
  have c : ∀ off, cellsAt K (.ptr 0 off) = some ([V.str n.sp, .str n.pr, .str n.lo].drop off) := fun off => by rw [hK]; rfl
  have c0 := c 0
  have c1 := c 1
  have c2 := c 2
  obtain ⟨K1, hK1⟩ : ∃ K1 : Heap, K1 = K ++ [Ob.row 1 ([n.sp, n.pr, n.lo].map cSt) 0 true] := ⟨_, rfl⟩
  obtain ⟨K2, hK2⟩ : ∃ K2 : Heap, K2 = K ++ [Ob.row 1 ([n.sp, n.pr, n.lo].map cSt) 0 false] := ⟨_, rfl⟩
  have hbs : evBslice K [.str ⟨#[]⟩] 3 1 [(0, .str n.sp), (1, .str n.pr), (2, .str n.lo)] = some (.sl K.length 0 0 3, K1) := by
   rw [hK1]
   simp [evBslice, placeParts, V.cells, V.isCell, setRange, chunks, cSt]
  have hs := vZX [n.sp, n.pr, n.lo] (by simp) K
  rw [← hK1, ← hK2] at hs
  have d : ∀ off, cellsAt K2 (.ptr 0 off) = some ([V.str n.sp, .str n.pr, .str n.lo].drop off) := fun off => by rw [hK2, hK]; rfl
  have d0 := d 0
  have d1 := d 1
  simp only [List.drop_zero, List.drop_succ_cons, List.length_cons, List.length_nil, Nat.zero_add, Nat.reduceAdd] at c0 c1 c2 d0 d1 hs
  have hnm : named n = (!(beqS n.lo ⟨#[]⟩) && shortB [n.sp, n.pr, n.lo] && (beqS n.pr ⟨#[]⟩ || !(beqS n.sp ⟨#[]⟩))) := by
   simp [named, shortB, Bool.and_assoc]
  refine qZ3 (Nat.le_of_ble_eq_true rfl) (fun env he h0 => ?_)
  have g0 := h0 0 (by simp)
  change eget env 0 = eNm n at g0
  clear h0
  simp only [eNm] at g0
  simp [zZ7.c] at he
  rw [hnm]
  cases h1 : beqS n.lo ⟨#[]⟩ with
  | true => simp [zZ7.c, zZ7.r0, zZ7.r1, g0, he, V.cells, hb, faddrP, c2, h1, evPick, ofCells]
  | false =>
   cases h2 : shortB [n.sp, n.pr, n.lo] with
   | false =>
    rw [h2] at hs
    simp [zZ7.c, zZ7.r0, zZ7.r1, g0, he, V.cells, hb, faddrP, c0, c1, c2, h1, hbs, hs, evPick, ofCells]
   | true =>
    rw [h2] at hs
    cases h3 : beqS n.pr ⟨#[]⟩ with
    | true => simp [zZ7.c, zZ7.r0, zZ7.r1, g0, he, V.cells, hb, faddrP, c0, c1, c2, d0, d1, h1, hbs, hs, h3, evPick, ofCells]
    | false => cases h4 : beqS n.sp ⟨#[]⟩ <;> simp [zZ7.c, zZ7.r0, zZ7.r1, g0, he, V.cells, hb, faddrP, c0, c1, c2, d0, d1, h1, hbs, hs, h3, h4, evPick, ofCells]
 obtain ⟨h', hb⟩ := this
 exact zZ4 (h := H) zZ7.Φ rfl (args := [eNm n]) rfl hb rfl
def cK (n : Nm) : List V := [.str n.sp, .str n.lo]
theorem jZ6 (n : Nm) (H : Heap) : callW Φ qZC [eNm n] H = some (.agg (cK n), H) := by
 have : ∃ hh, evBodyW (callW Φ) qZC.c [eNm n] [] = some (.agg (cK n), hh) := by
  refine qZ3 (Nat.le_of_ble_eq_true rfl) (fun env he h0 => ?_)
  have g0 := h0 0 (by simp)
  change eget env 0 = eNm n at g0
  clear h0
  simp [qZC.c] at he
  simp [qZC.c, qZC.r0, qZC.r1, g0, he, eNm, V.cells, evBox, V.isCell, faddrP, cellsAt, evBuild, placeParts, setRange, evStoreV, evStore, cK, ofCells]
 obtain ⟨h', hb⟩ := this
 exact zZ4 (h := H) qZC.Φ rfl (args := [eNm n]) rfl hb rfl
structure Tr where
 known : Bool
 data : Bool
 kids : Bool
 hung : Bool
 full : Bool
 loc : Bool
def cTr (t : Tr) : List V := [.bool t.known, .bool t.data, .bool t.kids, .bool t.hung, .bool t.full, .bool t.loc]
def traits (k : Int) : Tr :=
 if k == 1 then ⟨true, false, true, true, true, false⟩
 else if k == 3 || k == 4 || k == 8 then ⟨true, true, false, true, false, false⟩
 else if k == 7 then ⟨true, true, false, true, false, true⟩
 else if k == 10 then ⟨true, false, false, true, false, true⟩
 else if k == 9 || k == 11 || k == 12 then ⟨true, false, true, false, false, false⟩
 else ⟨false, false, false, false, false, false⟩
theorem jZG (k : Int) (H : Heap) : callW Φ zZd [.int .u8 k] H = some (.agg (cTr (traits k)), H) := by
 have : ∃ hh, evBodyW (callW Φ) zZd.c [.int .u8 k] [] = some (.agg (cTr (traits k)), hh) := by
  refine qZ3 (Nat.le_of_ble_eq_true rfl) (fun env he h0 => ?_)
  have g0 := h0 0 (by simp)
  change eget env 0 = .int .u8 k at g0
  clear h0
  simp [zZd.c] at he
  cases e1 : (k == 1)
  case true => simp [zZd.c, zZd.r0, zZd.r1, zZd.r2, zZd.r3, g0, he, e1, traits, cTr, evBuild, placeParts, setRange, V.cells, V.isCell, evStoreV, evStore, cellsAt, ofCells]
  cases e3 : (k == 3)
  case true => simp [zZd.c, zZd.r0, zZd.r1, zZd.r2, zZd.r4, zZd.r7, g0, he, e1, e3, traits, cTr, evBuild, placeParts, setRange, V.cells, V.isCell, evStoreV, evStore, cellsAt, ofCells]
  cases e4 : (k == 4)
  case true => simp [zZd.c, zZd.r0, zZd.r1, zZd.r2, zZd.r4, zZd.r5, zZd.r7, g0, he, e1, e3, e4, traits, cTr, evBuild, placeParts, setRange, V.cells, V.isCell, evStoreV, evStore, cellsAt, ofCells]
  cases e8 : (k == 8)
  case true => simp [zZd.c, zZd.r0, zZd.r1, zZd.r2, zZd.r4, zZd.r5, zZd.r6, zZd.r7, g0, he, e1, e3, e4, e8, traits, cTr, evBuild, placeParts, setRange, V.cells, V.isCell, evStoreV, evStore, cellsAt, ofCells]
  cases e7 : (k == 7)
  case true => simp [zZd.c, zZd.r0, zZd.r1, zZd.r2, zZd.r4, zZd.r5, zZd.r6, zZd.r8, zZd.r9, g0, he, e1, e3, e4, e8, e7, traits, cTr, evBuild, placeParts, setRange, V.cells, V.isCell, evStoreV, evStore, cellsAt, ofCells]
  cases e10 : (k == 10)
  case true => simp [zZd.c, zZd.r0, zZd.r1, zZd.r2, zZd.r4, zZd.r5, zZd.r6, zZd.r8, zZd.r10, zZd.r11, g0, he, e1, e3, e4, e8, e7, e10, traits, cTr, evBuild, placeParts, setRange, V.cells, V.isCell, evStoreV, evStore, cellsAt, ofCells]
  cases e9 : (k == 9)
  case true => simp [zZd.c, zZd.r0, zZd.r1, zZd.r2, zZd.r4, zZd.r5, zZd.r6, zZd.r8, zZd.r10, zZd.r12, zZd.r15, g0, he, e1, e3, e4, e8, e7, e10, e9, traits, cTr, evBuild, placeParts, setRange, V.cells, V.isCell, evStoreV, evStore, cellsAt, ofCells]
  cases e11 : (k == 11)
  case true => simp [zZd.c, zZd.r0, zZd.r1, zZd.r2, zZd.r4, zZd.r5, zZd.r6, zZd.r8, zZd.r10, zZd.r12, zZd.r13, zZd.r15, g0, he, e1, e3, e4, e8, e7, e10, e9, e11, traits, cTr, evBuild, placeParts, setRange, V.cells, V.isCell, evStoreV, evStore, cellsAt, ofCells]
  cases e12 : (k == 12)
  case true => simp [zZd.c, zZd.r0, zZd.r1, zZd.r2, zZd.r4, zZd.r5, zZd.r6, zZd.r8, zZd.r10, zZd.r12, zZd.r13, zZd.r14, zZd.r15, g0, he, e1, e3, e4, e8, e7, e10, e9, e11, e12, traits, cTr, evBuild, placeParts, setRange, V.cells, V.isCell, evStoreV, evStore, cellsAt, ofCells]
  simp [zZd.c, zZd.r0, zZd.r1, zZd.r2, zZd.r4, zZd.r5, zZd.r6, zZd.r8, zZd.r10, zZd.r12, zZd.r13, zZd.r14, zZd.r16, g0, he, e1, e3, e4, e8, e7, e10, e9, e11, e12, traits, cTr, evBuild, placeParts, setRange, V.cells, V.isCell, evStoreV, evStore, cellsAt, ofCells]
 obtain ⟨h', hb⟩ := this
 exact zZ4 (h := H) zZd.Φ rfl (args := [.int .u8 k]) rfl hb rfl
open Go Go.Ev
def namingB (n : Nd) (t : Tr) : Bool :=
 if t.full then named n.name
 else if t.loc then !(beqS n.name.lo ⟨#[]⟩) && decide (n.name.lo.size ≤ 1024) && (beqS n.name.sp ⟨#[]⟩ && beqS n.name.pr ⟨#[]⟩)
 else beqS n.name.sp ⟨#[]⟩ && beqS n.name.pr ⟨#[]⟩ && beqS n.name.lo ⟨#[]⟩
theorem eqc_nmF (H : Heap) (a b : Nm) : evEqc H false (.cons 0 none (.leaf .s) (.cons 1 none (.leaf .s) (.cons 2 none (.leaf .s) .nil))) (eNm a) (eNm b) = some (.bool (beqS a.sp b.sp && beqS a.pr b.pr && beqS a.lo b.lo), H) := by
 cases h1 : beqS a.sp b.sp <;> cases h2 : beqS a.pr b.pr <;> cases h3 : beqS a.lo b.lo <;> simp [evEqc, eqdV, ofCells, cellEq, okV, fV_eq, eNm, h1, h2, h3]
theorem jZF (n : Nd) (t : Tr) (H : Heap) : callW Φ zZB [eN n, .agg (cTr t)] H = some (.bool (namingB n t), H) := by
 have : ∃ hh, evBodyW (callW Φ) zZB.c [eN n, .agg (cTr t)] [] = some (.bool (namingB n t), hh) := by
  obtain ⟨K, hK⟩ : ∃ K : Heap, K = [Ob.cells (cN n), Ob.cells (cTr t)] := ⟨_, rfl⟩
  have hb : evBox [] (cN n) = some (.ptr 0 0, [Ob.cells (cN n)]) := cellsN [] n
  have hb2 : evBox [Ob.cells (cN n)] (cTr t) = some (.ptr 1 0, K) := by rw [hK]; simp [evBox, cTr, V.isCell]
  have c1 : cellsAt K (.ptr 0 1) = some ((cN n).drop 1) := by rw [hK]; rfl
  have c3 : cellsAt K (.ptr 0 3) = some ((cN n).drop 3) := by rw [hK]; rfl
  have t4 : cellsAt K (.ptr 1 4) = some [.bool t.full, .bool t.loc] := by rw [hK]; rfl
  have t5 : cellsAt K (.ptr 1 5) = some [.bool t.loc] := by rw [hK]; rfl
  have hN3 : ∀ H, okCells H (some 3) (some (cN n).tail) = some (eNm n.name, H) := fun H => rfl
  have hnm := fun H => vZP n.name H
  have hcc : (V.agg (cN n)).cells = cN n := rfl
  have hct : (V.agg (cTr t)).cells = cTr t := rfl
  refine qZ3 (Nat.le_of_ble_eq_true rfl) (fun env he h0 => ?_)
  have g0 := h0 0 (by simp)
  have g1 := h0 1 (by simp)
  change eget env 0 = .agg (cN n) at g0
  change eget env 1 = .agg (cTr t) at g1
  clear h0
  simp [zZB.c] at he
  cases hf : t.full with
  | true =>
   have hB : namingB n t = named n.name := by simp [namingB, hf]
   rw [hB]
   rw [hf] at t4
   simp [zZB.c, zZB.r0, zZB.r1, zZB.r2, g0, g1, he, hcc, hct, hb, hb2, faddrP, t4, c1, hN3, hnm, ofCells]
  | false =>
   rw [hf] at t4
   cases hl : t.loc with
   | false =>
    have hB : namingB n t = (beqS n.name.sp ⟨#[]⟩ && beqS n.name.pr ⟨#[]⟩ && beqS n.name.lo ⟨#[]⟩) := by simp [namingB, hf, hl]
    rw [hB]
    rw [hl] at t4 t5
    have hq := eqc_nmF K n.name noNm
    have hbd : evBuild K [.str ⟨#[]⟩, .str ⟨#[]⟩, .str ⟨#[]⟩] [] = some (eNm noNm, K) := rfl
    simp only [noNm] at hq hbd
    simp [zZB.c, zZB.r0, zZB.r1, zZB.r3, zZB.r5, g0, g1, he, hcc, hct, hb, hb2, faddrP, t4, t5, c1, hN3, hbd, hq, ofCells]
   | true =>
    have hB : namingB n t = (!(beqS n.name.lo ⟨#[]⟩) && decide (n.name.lo.size ≤ 1024) && (beqS n.name.sp ⟨#[]⟩ && beqS n.name.pr ⟨#[]⟩)) := by simp [namingB, hf, hl]
    rw [hB]
    rw [hl] at t4 t5
    cases h1 : beqS n.name.lo ⟨#[]⟩ with
    | true => simp [zZB.c, zZB.r0, zZB.r1, zZB.r3, zZB.r4, g0, g1, he, hcc, hct, hb, hb2, faddrP, t4, t5, c1, c3, h1, evPick, ofCells]
    | false =>
     obtain ⟨K1, hK1⟩ : ∃ K1 : Heap, K1 = K ++ [Ob.row 1 ([n.name.lo].map cSt) 0 true] := ⟨_, rfl⟩
     obtain ⟨K2, hK2⟩ : ∃ K2 : Heap, K2 = K ++ [Ob.row 1 ([n.name.lo].map cSt) 0 false] := ⟨_, rfl⟩
     have hbs : evBslice K [.str ⟨#[]⟩] 1 1 [(0, .str n.name.lo)] = some (.sl K.length 0 0 1, K1) := by
      rw [hK1]
      simp [evBslice, placeParts, V.cells, V.isCell, setRange, chunks, cSt]
     have hs := vZX [n.name.lo] (by simp) K
     rw [← hK1, ← hK2] at hs
     have d1 : cellsAt K2 (.ptr 0 1) = some ((cN n).drop 1) := by rw [hK2, hK]; rfl
     have d3 : cellsAt K2 (.ptr 0 3) = some ((cN n).drop 3) := by rw [hK2, hK]; rfl
     have hsh : shortB [n.name.lo] = decide (n.name.lo.size ≤ 1024) := by simp [shortB]
     rw [hsh] at hs
     simp only [List.length_cons, List.length_nil, Nat.zero_add] at hs
     have hq := eqc_nmF K2 n.name ⟨⟨#[]⟩, ⟨#[]⟩, n.name.lo⟩
     rw [jZv, Bool.and_true] at hq
     have hbd : evBuild K2 [.str ⟨#[]⟩, .str ⟨#[]⟩, .str ⟨#[]⟩] [(2, 1, .str n.name.lo)] = some (eNm ⟨⟨#[]⟩, ⟨#[]⟩, n.name.lo⟩, K2) := rfl
     cases h2 : decide (n.name.lo.size ≤ 1024) with
     | false =>
      rw [h2] at hs
      simp [zZB.c, zZB.r0, zZB.r1, zZB.r3, zZB.r4, g0, g1, he, hcc, hct, hb, hb2, faddrP, t4, t5, c1, c3, h1, hbs, hs, evPick, ofCells]
     | true =>
      rw [h2] at hs
      simp [zZB.c, zZB.r0, zZB.r1, zZB.r3, zZB.r4, g0, g1, he, hcc, hct, hb, hb2, faddrP, t4, t5, c1, c3, d1, d3, h1, hbs, hs, evPick, hN3, hbd, hq, ofCells]
 obtain ⟨h', hb⟩ := this
 exact zZ4 (h := H) zZB.Φ rfl (args := [eN n, .agg (cTr t)]) rfl hb rfl
end Go.Proofs.It
