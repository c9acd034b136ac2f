/- A forest as Lean has it, and as the program has it. Lists of numbers: where one stands, how often. Kinds, and what a node is by itself. No conditions. -/
import Derived.Test.YtohcoghaaifmgaaItC
import Derived.Test.YtohcoghaaifmgaaEwO
set_option maxHeartbeats 16000000
set_option maxRecDepth 100000
set_option linter.unusedVariables false
set_option linter.unusedSimpArgs false
set_option linter.unusedSectionVars false
namespace Go.Proofs.It
open Go Go.Ev
structure Nm where
 sp : ByteArray
 pr : ByteArray
 lo : ByteArray
structure Atr where
 nm : Nm
 val : ByteArray
structure Nd where
 kind : Int
 name : Nm
 pub : ByteArray
 sys : ByteArray
 data : List Int
 attrs : List Atr
 parent : Int
 kids : List Int
 doc : Int
 host : Int
 shadow : Int
 mode : Int
 manual : Bool
 html : Bool
def cI (n : Int) : List V := [.int .i64 n]
def cU (n : Int) : List V := [.int .u16 n]
def cA (a : Atr) : List V := [.str a.nm.sp, .str a.nm.pr, .str a.nm.lo, .str a.val]
def cN (n : Nd) : List V := [.int .u8 n.kind, .str n.name.sp, .str n.name.pr, .str n.name.lo, .str n.pub, .str n.sys, .arr (n.data.map cU), .arr (n.attrs.map cA), .int .i64 n.parent, .arr (n.kids.map cI), .int .i64 n.doc, .int .i64 n.host, .int .i64 n.shadow, .int .u8 n.mode, .bool n.manual, .bool n.html]
def eI (l : List Int) : V := .arr (l.map cI)
def eN (n : Nd) : V := .agg (cN n)
def eF (f : List Nd) : V := .agg [.arr (f.map cN)]
def noNm : Nm := ⟨⟨#[]⟩, ⟨#[]⟩, ⟨#[]⟩⟩
def noNd : Nd := ⟨0, noNm, ⟨#[]⟩, ⟨#[]⟩, [], [], 0, [], 0, 0, 0, 0, false, false⟩
theorem qZY (n : Int) : (cI n).length = 1 := rfl
theorem cU_len (n : Int) : (cU n).length = 1 := rfl
theorem kZT (n : Atr) : (cA n).length = 4 := rfl
theorem vZO (n : Nd) : (cN n).length = 16 := rfl
theorem cN_cell (n : Nd) : (cN n).all V.isCell = true := rfl
theorem cN_scal (n : Nd) : (cN n).all scal = true := rfl
def at_ (f : List Nd) (h : Int) : Nd := if 1 ≤ h then f.getD (h.toNat - 1) noNd else noNd
theorem at_in {f : List Nd} {h : Int} (h1 : 1 ≤ h) (h2 : h ≤ f.length) : f[(h - 1).toNat]? = some (at_ f h) := by
 have : (h - 1).toNat = h.toNat - 1 := by omega
 have hl : h.toNat - 1 < f.length := by omega
 simp [at_, h1, this, List.getD_eq_getElem?_getD, hl]
theorem at_out {f : List Nd} {h : Int} (hh : h < 1 ∨ f.length < h) : at_ f h = noNd := by
 unfold at_
 split
 ·have : f.length ≤ h.toNat - 1 := by omega
  simp [List.getD_eq_getElem?_getD, this]
 ·rfl
def zN : List V := [.int .u8 0, .str ⟨#[]⟩, .str ⟨#[]⟩, .str ⟨#[]⟩, .str ⟨#[]⟩, .str ⟨#[]⟩, .nils, .nils, .int .i64 0, .nils, .int .i64 0, .int .i64 0, .int .i64 0, .int .u8 0, .bool false, .bool false]
theorem zN_nz : zN.map nz = cN noNd := rfl
theorem okN (h : Heap) (n : Nd) : okCells h (some 16) (some (cN n)) = some (eN n, h) := by simp [okCells, vZO, eN, fS_eq, show List.take 16 (cN n) = cN n from rfl]
theorem eN_cells (n : Nd) : (eN n).cells = cN n := rfl
theorem takeN (n : Nd) : List.take 16 (cN n) = cN n := rfl
theorem storeN (h : Heap) (p : V) (n : Nd) : evStoreV h 16 p (.agg (cN n)) = evStore h p (cN n) := by
 show (if (cN n).length = 16 ∧ (cN n).all V.isCell then evStore h p (cN n) else none) = _
 rw [if_pos ⟨rfl, rfl⟩]
theorem tree_At_run (f : List Nd) (h : Int) (hl : f.length < 2 ^ 50) (h1 : 1 ≤ h) (h2 : h ≤ f.length) :
  ∃ hh, evBodyW (callW Φ) qZJ.c [eF f, .int .i64 h] [] = some (eN (at_ f h), hh) := by
 refine qZE (Nat.le_of_ble_eq_true rfl) (fun env he h0 => ?_)
 have g0 := h0 0 (by simp)
 have g1 := h0 1 (by simp)
 change eget env 0 = eF f at g0
 change eget env 1 = .int .i64 h at g1
 have hl' : env.length = 21 := he
 clear h0 he
 have e1 : ¬ h < 1 := by omega
 have e2 : ¬ h > (f.length : Int) := by omega
 have hw : IntKind.i64.wrap (h - 1) = h - 1 := by rw [Ev.wrap64] <;> omega
 simp [qZJ.c, qZJ.r0, qZJ.r1, qZJ.r2, qZJ.r3, kSeq, kRegion, kOps, kOp, kGuard, kCond, kRet, kSkip, g0, g1, hl', eF, evBox, V.cells, V.isCell, cellsAt, e1, e2, evPick, hw, vZj vZO (show 0 ≤ h - 1 by omega) (at_in h1 h2), okN, storeN, evStore, setRange, vZO, FinV, ofCells, eN, takeN]
theorem tree_At_out (f : List Nd) (h : Int) (hh : h < 1 ∨ f.length < h) :
  ∃ hh, evBodyW (callW Φ) qZJ.c [eF f, .int .i64 h] [] = some (.agg zN, hh) := by
 refine qZE (Nat.le_of_ble_eq_true rfl) (fun env he h0 => ?_)
 have g0 := h0 0 (by simp)
 have g1 := h0 1 (by simp)
 change eget env 0 = eF f at g0
 change eget env 1 = .int .i64 h at g1
 have hl' : env.length = 21 := he
 clear h0 he
 by_cases e1 : h < 1
 ·simp [qZJ.c, qZJ.r0, qZJ.r1, qZJ.r2, qZJ.r3, kSeq, kRegion, kOps, kOp, kGuard, kCond, kRet, kSkip, g0, g1, hl', eF, evBox, V.cells, V.isCell, cellsAt, e1, evPick, evBuild, placeParts, evStoreV, evStore, setRange, FinV, ofCells, zN]
 ·have e2 : h > (f.length : Int) := by omega
  simp [qZJ.c, qZJ.r0, qZJ.r1, qZJ.r2, qZJ.r3, kSeq, kRegion, kOps, kOp, kGuard, kCond, kRet, kSkip, g0, g1, hl', eF, evBox, V.cells, V.isCell, cellsAt, e1, e2, evPick, evBuild, placeParts, evStoreV, evStore, setRange, FinV, ofCells, zN]
theorem vZx (f : List Nd) (h : Int) (hl : f.length < 2 ^ 50) (H : Heap) : callW Φ qZJ [eF f, .int .i64 h] H = some (eN (at_ f h), H) := by
 by_cases hh : h < 1 ∨ f.length < h
 ·obtain ⟨h', hb⟩ := tree_At_out f h hh
  have := zZQ (h := H) qZJ.Φ rfl (args := [eF f, .int .i64 h]) rfl hb rfl
  rw [this, at_out hh]
  rfl
 ·obtain ⟨h', hb⟩ := tree_At_run f h hl (by omega) (by omega)
  exact zZQ (h := H) qZJ.Φ rfl (args := [eF f, .int .i64 h]) rfl hb rfl
theorem xZG (f : List Nd) (h : Int) (hl : f.length < 2 ^ 50) (h1 : 1 ≤ h) (h2 : h ≤ f.length) :
  ∃ hh, evBodyW (callW Φ) qZc.c [eF f, .int .i64 h] [] = some (.tup [eN (at_ f h), .bool true], hh) := by
 refine qZE (Nat.le_of_ble_eq_true rfl) (fun env he h0 => ?_)
 have g0 := h0 0 (by simp)
 have g1 := h0 1 (by simp)
 change eget env 0 = eF f at g0
 change eget env 1 = .int .i64 h at g1
 have hl' : env.length = 22 := he
 clear h0 he
 have e1 : ¬ h < 1 := by omega
 have e2 : ¬ h > (f.length : Int) := by omega
 have hw : IntKind.i64.wrap (h - 1) = h - 1 := by rw [Ev.wrap64] <;> omega
 simp [qZc.c, qZc.r0, qZc.r1, qZc.r2, qZc.r3, kSeq, kRegion, kOps, kOp, kGuard, kCond, kRet, kSkip, g0, g1, hl', eF, evBox, V.cells, V.isCell, cellsAt, e1, e2, evPick, hw, vZj vZO (show 0 ≤ h - 1 by omega) (at_in h1 h2), okN, storeN, evStore, setRange, vZO, FinV, ofCells, eN, takeN]
theorem xZF (f : List Nd) (h : Int) (hh : h < 1 ∨ f.length < h) :
  ∃ hh, evBodyW (callW Φ) qZc.c [eF f, .int .i64 h] [] = some (.tup [.agg zN, .bool false], hh) := by
 refine qZE (Nat.le_of_ble_eq_true rfl) (fun env he h0 => ?_)
 have g0 := h0 0 (by simp)
 have g1 := h0 1 (by simp)
 change eget env 0 = eF f at g0
 change eget env 1 = .int .i64 h at g1
 have hl' : env.length = 22 := he
 clear h0 he
 by_cases e1 : h < 1
 ·simp [qZc.c, qZc.r0, qZc.r1, qZc.r2, qZc.r3, kSeq, kRegion, kOps, kOp, kGuard, kCond, kRet, kSkip, g0, g1, hl', eF, evBox, V.cells, V.isCell, cellsAt, e1, evPick, evBuild, placeParts, evStoreV, evStore, setRange, FinV, ofCells, zN]
 ·have e2 : h > (f.length : Int) := by omega
  simp [qZc.c, qZc.r0, qZc.r1, qZc.r2, qZc.r3, kSeq, kRegion, kOps, kOp, kGuard, kCond, kRet, kSkip, g0, g1, hl', eF, evBox, V.cells, V.isCell, cellsAt, e1, e2, evPick, evBuild, placeParts, evStoreV, evStore, setRange, FinV, ofCells, zN]
def is_ (f : List Nd) (h : Int) : Bool := decide (1 ≤ h ∧ h ≤ f.length)
theorem qZV (f : List Nd) (h : Int) (hl : f.length < 2 ^ 50) (H : Heap) : callW Φ qZc [eF f, .int .i64 h] H = some (.tup [eN (at_ f h), .bool (is_ f h)], H) := by
 by_cases hh : h < 1 ∨ f.length < h
 ·obtain ⟨h', hb⟩ := xZF f h hh
  have := zZQ (h := H) qZc.Φ rfl (args := [eF f, .int .i64 h]) rfl hb rfl
  have hi : is_ f h = false := by simp [is_]; omega
  rw [this, at_out hh, hi]
  rfl
 ·obtain ⟨h', hb⟩ := xZG f h hl (by omega) (by omega)
  have hi : is_ f h = true := by simp [is_]; omega
  rw [hi]
  exact zZQ (h := H) qZc.Φ rfl (args := [eF f, .int .i64 h]) rfl hb rfl
theorem vZk (f : List Nd) (h : Int) (hl : f.length < 2 ^ 50) (h1 : 1 ≤ h) (h2 : h ≤ f.length) (H : Heap) : callW Φ qZR [eF f, .int .i64 h] H = some (eN (at_ f h), H) := by
 have hw : IntKind.i64.wrap (h - 1) = h - 1 := by rw [Ev.wrap64] <;> omega
 have : ∃ hh, evBodyW (callW Φ) qZR.c [eF f, .int .i64 h] [] = some (eN (at_ f h), hh) := by
  refine qZE (Nat.le_of_ble_eq_true rfl) (fun env he h0 => ?_)
  have g0 := h0 0 (by simp)
  have g1 := h0 1 (by simp)
  change eget env 0 = eF f at g0
  change eget env 1 = .int .i64 h at g1
  clear h0
  simp [qZR.c] at he
  simp [qZR.c, qZR.r0, qZR.r1, g0, g1, he, eF, evBox, V.cells, V.isCell, cellsAt, hw, vZj vZO (show 0 ≤ h - 1 by omega) (at_in h1 h2), okN, storeN, evStore, setRange, vZO, ofCells, eN, takeN]
 obtain ⟨h', hb⟩ := this
 exact zZQ (h := H) qZR.Φ rfl (args := [eF f, .int .i64 h]) rfl hb rfl
open Go Go.Ev
def place : List Int → Int → Nat → Int
 | [], _, _ => -1
 | x :: l, h, i => if x = h then i else place l h (i + 1)
theorem vZe {α : Type} {l : List α} {i : Nat} {x : α} (hx : l[i]? = some x) : l.drop i = x :: l.drop (i + 1) := by
 obtain ⟨hi, rfl⟩ := List.getElem?_eq_some_iff.1 hx
 exact List.drop_eq_getElem_cons hi
theorem vZd (l : List Int) (h : Int) (hlen : l.length < 2 ^ 50) (H : Heap) : callW Φ zZY [eI l, .int .i64 h] H = some (.int .i64 (place l h 0), H) := by
 have : ∃ hh, evBodyW (callW Φ) zZY.c [eI l, .int .i64 h] [] = some (.int .i64 (place l h 0), hh) := by
  refine qZE (Nat.le_of_ble_eq_true rfl) (fun env he h0 => ?_)
  have g0 := h0 0 (by simp)
  have g1 := h0 1 (by simp)
  change eget env 0 = eI l at g0
  change eget env 1 = .int .i64 h at g1
  clear h0
  simp [zZY.c] at he
  simp [zZY.c, zZY.r0, zZY.r1]
  refine kLoop (fun m s => ∃ i : Nat, m = l.length - i ∧ i ≤ l.length ∧ s.env.length = 19 ∧ eget s.env 0 = eI l ∧ eget s.env 1 = .int .i64 h ∧ eget s.env 5 = .int .i64 i ∧ s.marks = [] ∧ s.heap = [] ∧ place l h 0 = place (l.drop i) h i) l.length ⟨0, by simp [g0, g1, he]⟩ ?_
  rintro m ⟨e, mk, hp⟩ ⟨i, rfl, hi, he, k0, k1, k5, hm, hh, hpl⟩
  simp only at he k0 k1 k5 hm hh
  subst hm hh
  by_cases hlt : i < l.length
  ·obtain ⟨x, hx⟩ : ∃ x, l[i]? = some x := ⟨l[i], by simp [hlt]⟩
   have hw : IntKind.i64.wrap ((i : Int) + 1) = ((i + 1 : Nat) : Int) := by rw [Ev.wrap64] <;> omega
   rw [hpl, vZe hx]
   by_cases e : x = h
   ·simp [zZY.b6, zZY.r2, zZY.r3, zZY.r4, k0, k1, k5, he, eI, hlt, qZj qZY hx, place, e, show ∀ n, okCells [] none (some (cI n)) = some (.int .i64 n, []) from fun _ => rfl]
   ·have eb : (x == h) = false := by simpa using e
    simp [zZY.b6, zZY.r2, zZY.r3, zZY.r4, zZY.r5, k0, k1, k5, he, eI, hlt, qZj qZY hx, place, e, eb, show ∀ n, okCells [] none (some (cI n)) = some (.int .i64 n, []) from fun _ => rfl]
    exact ⟨l.length - (i + 1), by omega, i + 1, rfl, by omega, by simpa using hw, rfl⟩
  ·have : i = l.length := by omega
   subst this
   rw [hpl]
   simp [zZY.b6, zZY.r2, zZY.r7, k0, k1, k5, he, eI, place]
 obtain ⟨h', hb⟩ := this
 exact zZQ (h := H) zZY.Φ rfl (args := [eI l, .int .i64 h]) rfl hb rfl
theorem cellI (H : Heap) (n : Int) : okCells H none (some (cI n)) = some (.int .i64 n, H) := rfl
theorem vZl (l : List Int) (h : Int) (hlen : l.length < 2 ^ 50) (H : Heap) : callW Φ zZo [eI l, .int .i64 h] H = some (.int .i64 (place l h 0), H) := by
 have : ∃ hh, evBodyW (callW Φ) zZo.c [eI l, .int .i64 h] [] = some (.int .i64 (place l h 0), hh) := by
  refine qZE (Nat.le_of_ble_eq_true rfl) (fun env he h0 => ?_)
  have g0 := h0 0 (by simp)
  have g1 := h0 1 (by simp)
  change eget env 0 = eI l at g0
  change eget env 1 = .int .i64 h at g1
  clear h0
  simp [zZo.c] at he
  simp [zZo.c, zZo.r0, zZo.r1, g0, he, eI]
  refine kLoop (fun m s => ∃ i : Nat, m = l.length - i ∧ i ≤ l.length ∧ s.env.length = 19 ∧ eget s.env 0 = eI l ∧ eget s.env 1 = .int .i64 h ∧ eget s.env 7 = .int .i64 l.length ∧ eget s.env 8 = .int .i64 i ∧ s.marks = [] ∧ s.heap = [] ∧ place l h 0 = place (l.drop i) h i) l.length ⟨0, by simp [g0, g1, he, eI]⟩ ?_
  rintro m ⟨e, mk, hp⟩ ⟨i, rfl, hi, he, k0, k1, k7, k8, hm, hh, hpl⟩
  simp only at he k0 k1 k7 k8 hm hh
  subst hm hh
  by_cases hlt : i < l.length
  ·obtain ⟨x, hx⟩ : ∃ x, l[i]? = some x := ⟨l[i], by simp [hlt]⟩
   have hw : IntKind.i64.wrap ((i : Int) + 1) = ((i + 1 : Nat) : Int) := by rw [Ev.wrap64] <;> omega
   rw [hpl, vZe hx]
   by_cases e : h = x
   ·simp [zZo.b7, zZo.r2, zZo.r3, zZo.r4, zZo.r5, k0, k1, k7, k8, he, eI, hlt, qZj qZY hx, place, e, cellI]
   ·have eb : (h == x) = false := by simpa using e
    have e' : ¬ x = h := fun q => e q.symm
    simp [zZo.b7, zZo.r2, zZo.r3, zZo.r4, zZo.r6, k0, k1, k7, k8, he, eI, hlt, qZj qZY hx, place, e', eb, cellI]
    exact ⟨l.length - (i + 1), by omega, i + 1, rfl, by omega, by simpa using hw, rfl⟩
  ·have : i = l.length := by omega
   subst this
   rw [hpl]
   simp [zZo.b7, zZo.r2, zZo.r8, k0, k1, k7, k8, he, eI, place]
 obtain ⟨h', hb⟩ := this
 exact zZQ (h := H) zZo.Φ rfl (args := [eI l, .int .i64 h]) rfl hb rfl
def cnt : List Int → Int → Nat
 | [], _ => 0
 | x :: l, h => if x = h then cnt l h + 1 else cnt l h
theorem cnt_le (l : List Int) (h : Int) : cnt l h ≤ l.length := by
 induction l with
 | nil => simp [cnt]
 | cons x l ih => simp only [cnt, List.length_cons]; split <;> omega
theorem wZH (l : List Int) (h : Int) (hlen : l.length < 2 ^ 50) (H : Heap) : callW Φ zZT [eI l, .int .i64 h] H = some (.int .i64 (cnt l h), H) := by
 have : ∃ hh, evBodyW (callW Φ) zZT.c [eI l, .int .i64 h] [] = some (.int .i64 (cnt l h), hh) := by
  refine qZE (Nat.le_of_ble_eq_true rfl) (fun env he h0 => ?_)
  have g0 := h0 0 (by simp)
  have g1 := h0 1 (by simp)
  change eget env 0 = eI l at g0
  change eget env 1 = .int .i64 h at g1
  clear h0
  simp [zZT.c] at he
  simp [zZT.c, zZT.r0, zZT.r1, zZT.r2, g0, he, eI]
  refine kLoop (fun m s => ∃ i c : Nat, m = l.length - i ∧ i ≤ l.length ∧ c ≤ i ∧ s.env.length = 21 ∧ eget s.env 8 = eI l ∧ eget s.env 1 = .int .i64 h ∧ eget s.env 9 = .int .i64 l.length ∧ eget s.env 10 = .int .i64 i ∧ eget s.env 5 = .int .i64 c ∧ s.marks = [] ∧ s.heap = [] ∧ cnt l h = c + cnt (l.drop i) h) l.length ⟨0, 0, by simp [g0, g1, he, eI]⟩ ?_
  rintro m ⟨e, mk, hp⟩ ⟨i, c, rfl, hi, hc, he, k8, k1, k9, k10, k5, hm, hh, hpl⟩
  simp only at he k8 k1 k9 k10 k5 hm hh
  subst hm hh
  by_cases hlt : i < l.length
  ·obtain ⟨x, hx⟩ : ∃ x, l[i]? = some x := ⟨l[i], by simp [hlt]⟩
   have hw : IntKind.i64.wrap ((i : Int) + 1) = ((i + 1 : Nat) : Int) := by rw [Ev.wrap64] <;> omega
   have hw2 : IntKind.i64.wrap ((c : Int) + 1) = ((c + 1 : Nat) : Int) := by rw [Ev.wrap64] <;> omega
   rw [vZe hx] at hpl
   by_cases e : x = h
   ·simp [zZT.b8, zZT.r3, zZT.r4, zZT.r5, zZT.r6, zZT.r7, k8, k1, k9, k10, k5, he, eI, hlt, qZj qZY hx, e, cellI]
    exact ⟨l.length - (i + 1), by omega, i + 1, rfl, by omega, c + 1, by omega, by simpa using hw, by simpa using hw2, by simp [cnt, e] at hpl; omega⟩
   ·have eb : (x == h) = false := by simpa using e
    simp [zZT.b8, zZT.r3, zZT.r4, zZT.r5, zZT.r6, zZT.r7, k8, k1, k9, k10, k5, he, eI, hlt, qZj qZY hx, eb, cellI]
    exact ⟨l.length - (i + 1), by omega, i + 1, rfl, by omega, c, by omega, by simpa using hw, rfl, by simp [cnt, e] at hpl; omega⟩
  ·have : i = l.length := by omega
   subst this
   simp [zZT.b8, zZT.r3, zZT.r9, k8, k1, k9, k10, k5, he, eI]
   simp [cnt] at hpl
   omega
 obtain ⟨h', hb⟩ := this
 exact zZQ (h := H) zZT.Φ rfl (args := [eI l, .int .i64 h]) rfl hb rfl
open Go Go.Ev
def hasData (k : Int) : Bool := k == 3 || k == 4 || k == 7 || k == 8
def hasKids (k : Int) : Bool := k == 1 || k == 9 || k == 11 || k == 12
theorem vZ7 (k : Int) (H : Heap) : callW Φ qZr [.int .u8 k] H = some (.bool (hasData k), H) := by
 have : ∃ hh, evBodyW (callW Φ) qZr.c [.int .u8 k] [] = some (.bool (hasData k), hh) := by
  refine qZE (Nat.le_of_ble_eq_true rfl) (fun env he h0 => ?_)
  have g0 := h0 0 (by simp)
  change eget env 0 = .int .u8 k at g0
  clear h0
  simp [qZr.c] at he
  cases h3 : (k == 3) <;> cases h4 : (k == 4) <;> cases h7 : (k == 7) <;> cases h8 : (k == 8) <;> simp [qZr.c, qZr.r0, qZr.r1, g0, he, h3, h4, h7, h8, evPick, hasData]
 obtain ⟨h', hb⟩ := this
 exact zZQ (h := H) qZr.Φ rfl (args := [.int .u8 k]) rfl hb rfl
theorem vZ8 (k : Int) (H : Heap) : callW Φ qZs [.int .u8 k] H = some (.bool (hasKids k), H) := by
 have : ∃ hh, evBodyW (callW Φ) qZs.c [.int .u8 k] [] = some (.bool (hasKids k), hh) := by
  refine qZE (Nat.le_of_ble_eq_true rfl) (fun env he h0 => ?_)
  have g0 := h0 0 (by simp)
  change eget env 0 = .int .u8 k at g0
  clear h0
  simp [qZs.c] at he
  cases h3 : (k == 1) <;> cases h4 : (k == 9) <;> cases h7 : (k == 11) <;> cases h8 : (k == 12) <;> simp [qZs.c, qZs.r0, qZs.r1, g0, he, h3, h4, h7, h8, evPick, hasKids]
 obtain ⟨h', hb⟩ := this
 exact zZQ (h := H) qZs.Φ rfl (args := [.int .u8 k]) rfl hb rfl
def known (k : Int) : Bool := hasData k || hasKids k || k == 10
theorem kZs (k : Int) (H : Heap) : callW Φ qZG [.int .u8 k] H = some (.bool (known k), H) := by
 have : ∃ hh, evBodyW (callW Φ) qZG.c [.int .u8 k] [] = some (.bool (known k), hh) := by
  refine qZE (Nat.le_of_ble_eq_true rfl) (fun env he h0 => ?_)
  have g0 := h0 0 (by simp)
  change eget env 0 = .int .u8 k at g0
  clear h0
  simp [qZG.c] at he
  cases h3 : hasData k <;> cases h4 : hasKids k <;> cases h7 : (k == 10) <;> simp [qZG.c, qZG.r0, qZG.r1, g0, he, vZ7, vZ8, h3, h4, h7, evPick, known]
 obtain ⟨h', hb⟩ := this
 exact zZQ (h := H) qZG.Φ rfl (args := [.int .u8 k]) rfl hb rfl
theorem okN0 (h : Heap) (n : Nd) : okCells h none (some (cN n)) = some (.int .u8 n.kind, h) := rfl
theorem okN1 (h : Heap) (n : Nd) : okCells h none (some ((cN n).drop 1)) = some (.str n.name.sp, h) := rfl
theorem okN2 (h : Heap) (n : Nd) : okCells h none (some ((cN n).drop 2)) = some (.str n.name.pr, h) := rfl
theorem okN3 (h : Heap) (n : Nd) : okCells h none (some ((cN n).drop 3)) = some (.str n.name.lo, h) := rfl
theorem okN4 (h : Heap) (n : Nd) : okCells h none (some ((cN n).drop 4)) = some (.str n.pub, h) := rfl
theorem okN5 (h : Heap) (n : Nd) : okCells h none (some ((cN n).drop 5)) = some (.str n.sys, h) := rfl
theorem okN6 (h : Heap) (n : Nd) : okCells h none (some ((cN n).drop 6)) = some (.arr (n.data.map cU), h) := rfl
theorem okN7 (h : Heap) (n : Nd) : okCells h none (some ((cN n).drop 7)) = some (.arr (n.attrs.map cA), h) := rfl
theorem okN8 (h : Heap) (n : Nd) : okCells h none (some ((cN n).drop 8)) = some (.int .i64 n.parent, h) := rfl
theorem okN9 (h : Heap) (n : Nd) : okCells h none (some ((cN n).drop 9)) = some (.arr (n.kids.map cI), h) := rfl
theorem okN10 (h : Heap) (n : Nd) : okCells h none (some ((cN n).drop 10)) = some (.int .i64 n.doc, h) := rfl
theorem okN11 (h : Heap) (n : Nd) : okCells h none (some ((cN n).drop 11)) = some (.int .i64 n.host, h) := rfl
theorem okN12 (h : Heap) (n : Nd) : okCells h none (some ((cN n).drop 12)) = some (.int .i64 n.shadow, h) := rfl
theorem okN13 (h : Heap) (n : Nd) : okCells h none (some ((cN n).drop 13)) = some (.int .u8 n.mode, h) := rfl
theorem okN14 (h : Heap) (n : Nd) : okCells h none (some ((cN n).drop 14)) = some (.bool n.manual, h) := rfl
theorem okN15 (h : Heap) (n : Nd) : okCells h none (some ((cN n).drop 15)) = some (.bool n.html, h) := rfl
attribute [simp] okN0 okN1 okN2 okN3 okN4 okN5 okN6 okN7 okN8 okN9 okN10 okN11 okN12 okN13 okN14 okN15
def kindOf (f : List Nd) (h : Int) : Int := (at_ f h).kind
theorem wZo (f : List Nd) (h : Int) (hl : f.length < 2 ^ 50) (H : Heap) : callW Φ qZp [eF f, .int .i64 h] H = some (.int .u8 (kindOf f h), H) := by
 have : ∃ hh, evBodyW (callW Φ) qZp.c [eF f, .int .i64 h] [] = some (.int .u8 (kindOf f h), hh) := by
  refine qZE (Nat.le_of_ble_eq_true rfl) (fun env he h0 => ?_)
  have g0 := h0 0 (by simp)
  have g1 := h0 1 (by simp)
  change eget env 0 = eF f at g0
  change eget env 1 = .int .i64 h at g1
  clear h0
  simp [qZp.c] at he
  have hN := fun H => qZV f h hl H
  simp only [eF, eN] at hN g0
  simp [qZp.c, qZp.r0, qZp.r1, qZp.r2, g0, g1, he, hN, evBox, evExt, V.cells, V.isCell, cellsAt, storeN, evStore, setRange, vZO, kindOf]
 obtain ⟨h', hb⟩ := this
 exact zZQ (h := H) qZp.Φ rfl (args := [eF f, .int .i64 h]) rfl hb rfl
theorem cellsN (h : Heap) (n : Nd) : evBox h (cN n) = some (.ptr h.length 0, h ++ [.cells (cN n)]) := by
 show (if (cN n).all V.isCell then newOb h (.ptr h.length 0) (.cells (cN n)) else none) = _
 rw [if_pos (cN_cell n), qZB]
def above (n : Nd) : Int := if n.kind == 12 then n.host else n.parent
theorem kZp (n : Nd) (H : Heap) : callW Φ qZq [eN n] H = some (.int .i64 (above n), H) := by
 have : ∃ hh, evBodyW (callW Φ) qZq.c [eN n] [] = some (.int .i64 (above n), hh) := by
  refine qZE (Nat.le_of_ble_eq_true rfl) (fun env he h0 => ?_)
  have g0 := h0 0 (by simp)
  change eget env 0 = .agg (cN n) at g0
  clear h0
  simp [qZq.c] at he
  cases hk : (n.kind == 12) <;> simp [qZq.c, qZq.r0, qZq.r1, qZq.r2, qZq.r3, g0, he, V.cells, cellsN, cellsAt, hk, above]
 obtain ⟨h', hb⟩ := this
 exact zZQ (h := H) qZq.Φ rfl (args := [eN n]) rfl hb rfl
def eNm (n : Nm) : V := .agg [.str n.sp, .str n.pr, .str n.lo]
def named (n : Nm) : Bool := !(beqS n.lo ⟨#[]⟩) && decide (n.sp.size ≤ 1024) && decide (n.pr.size ≤ 1024) && decide (n.lo.size ≤ 1024) && (beqS n.pr ⟨#[]⟩ || !(beqS n.sp ⟨#[]⟩))
theorem wZI (n : Nm) (H : Heap) : callW Φ qZb [eNm n] H = some (.bool (named n), H) := by
 have : ∃ hh, evBodyW (callW Φ) qZb.c [eNm n] [] = some (.bool (named n), hh) := by
  refine qZE (Nat.le_of_ble_eq_true rfl) (fun env he h0 => ?_)
  have g0 := h0 0 (by simp)
  change eget env 0 = eNm n at g0
  clear h0
  simp [qZb.c] at he
  have t : ∀ m : Nat, (decide ((m : Int) ≤ 1024)) = decide (m ≤ 1024) := fun m => by simp; omega
  cases h1 : beqS n.lo ⟨#[]⟩
  case true => simp [qZb.c, qZb.r0, qZb.r1, g0, he, eNm, V.cells, evBox, V.isCell, cellsAt, evPick, h1, named]
  cases h2 : decide (n.sp.size ≤ 1024)
  case false =>
   have h2' : ¬ ((n.sp.size : Int) ≤ 1024) := by simp at h2; omega
   simp [qZb.c, qZb.r0, qZb.r1, g0, he, eNm, V.cells, evBox, V.isCell, cellsAt, evPick, h1, h2, h2', named]
  have h2' : ((n.sp.size : Int) ≤ 1024) := by simp at h2; omega
  cases h3 : decide (n.pr.size ≤ 1024)
  case false =>
   have h3' : ¬ ((n.pr.size : Int) ≤ 1024) := by simp at h3; omega
   simp [qZb.c, qZb.r0, qZb.r1, g0, he, eNm, V.cells, evBox, V.isCell, cellsAt, evPick, h1, h2, h2', h3, h3', named]
  have h3' : ((n.pr.size : Int) ≤ 1024) := by simp at h3; omega
  cases h4 : decide (n.lo.size ≤ 1024)
  case false =>
   have h4' : ¬ ((n.lo.size : Int) ≤ 1024) := by simp at h4; omega
   simp [qZb.c, qZb.r0, qZb.r1, g0, he, eNm, V.cells, evBox, V.isCell, cellsAt, evPick, h1, h2, h2', h3, h3', h4, h4', named]
  have h4' : ((n.lo.size : Int) ≤ 1024) := by simp at h4; omega
  cases h5 : beqS n.pr ⟨#[]⟩ <;> cases h6 : beqS n.sp ⟨#[]⟩ <;> simp [qZb.c, qZb.r0, qZb.r1, g0, he, eNm, V.cells, evBox, V.isCell, cellsAt, evPick, h1, h2, h2', h3, h3', h4, h4', h5, h6, named]
 obtain ⟨h', hb⟩ := this
 exact zZQ (h := H) qZb.Φ rfl (args := [eNm n]) rfl hb rfl
end Go.Proofs.It
