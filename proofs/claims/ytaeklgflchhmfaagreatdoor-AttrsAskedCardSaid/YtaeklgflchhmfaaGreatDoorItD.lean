/- A forest as Lean has it, and as the program has it. Lists of numbers: where one stands, how often. Kinds, and what a node is by itself. Attributes, and nodes by themselves: the document's answer. No conditions. -/
import Derived.Test.YtaeklgflchhmfaaGreatDoorItC
import Derived.Test.YtaeklgflchhmfaaGreatDoorEwR
set_option maxHeartbeats 16000000
set_option maxRecDepth 100000
set_option linter.unusedVariables false
set_option linter.unusedSimpArgs false
set_option linter.unusedSectionVars false
namespace Go.Proofs.It
open Go Go.Ev
structure Nm where
 sp : ByteArray
 pr : ByteArray
 lo : ByteArray
structure Atr where
 nm : Nm
 val : ByteArray
structure Nd where
 kind : Int
 name : Nm
 pub : ByteArray
 sys : ByteArray
 data : List Int
 attrs : List Atr
 parent : Int
 kids : List Int
 doc : Int
 host : Int
 shadow : Int
 mode : Int
 manual : Bool
 html : Bool
def cI (n : Int) : List V := [.int .i64 n]
def cU (n : Int) : List V := [.int .u16 n]
def cA (a : Atr) : List V := [.str a.nm.sp, .str a.nm.pr, .str a.nm.lo, .str a.val]
def cN (n : Nd) : List V := [.int .u8 n.kind, .str n.name.sp, .str n.name.pr, .str n.name.lo, .str n.pub, .str n.sys, .arr (n.data.map cU), .arr (n.attrs.map cA), .int .i64 n.parent, .arr (n.kids.map cI), .int .i64 n.doc, .int .i64 n.host, .int .i64 n.shadow, .int .u8 n.mode, .bool n.manual, .bool n.html]
def eI (l : List Int) : V := .arr (l.map cI)
def eN (n : Nd) : V := .agg (cN n)
def eF (f : List Nd) : V := .agg [.arr (f.map cN)]
def noNm : Nm := ⟨⟨#[]⟩, ⟨#[]⟩, ⟨#[]⟩⟩
def noNd : Nd := ⟨0, noNm, ⟨#[]⟩, ⟨#[]⟩, [], [], 0, [], 0, 0, 0, 0, false, false⟩
theorem wZS (n : Int) : (cI n).length = 1 := rfl
theorem cU_len (n : Int) : (cU n).length = 1 := rfl
theorem wZr (n : Atr) : (cA n).length = 4 := rfl
theorem vZ0 (n : Nd) : (cN n).length = 16 := rfl
theorem cN_cell (n : Nd) : (cN n).all V.isCell = true := rfl
theorem cN_scal (n : Nd) : (cN n).all scal = true := rfl
def at_ (f : List Nd) (h : Int) : Nd := if 1 ≤ h then f.getD (h.toNat - 1) noNd else noNd
theorem at_in {f : List Nd} {h : Int} (h1 : 1 ≤ h) (h2 : h ≤ f.length) : f[(h - 1).toNat]? = some (at_ f h) := by
 have : (h - 1).toNat = h.toNat - 1 := by omega
 have hl : h.toNat - 1 < f.length := by omega
 simp [at_, h1, this, List.getD_eq_getElem?_getD, hl]
theorem at_out {f : List Nd} {h : Int} (hh : h < 1 ∨ f.length < h) : at_ f h = noNd := by
 unfold at_
 split
 ·have : f.length ≤ h.toNat - 1 := by omega
  simp [List.getD_eq_getElem?_getD, this]
 ·rfl
def zN : List V := [.int .u8 0, .str ⟨#[]⟩, .str ⟨#[]⟩, .str ⟨#[]⟩, .str ⟨#[]⟩, .str ⟨#[]⟩, .nils, .nils, .int .i64 0, .nils, .int .i64 0, .int .i64 0, .int .i64 0, .int .u8 0, .bool false, .bool false]
theorem zN_nz : zN.map nz = cN noNd := rfl
theorem okN (h : Heap) (n : Nd) : okCells h (some 16) (some (cN n)) = some (eN n, h) := by simp [okCells, vZ0, eN, fS_eq, show List.take 16 (cN n) = cN n from rfl]
theorem eN_cells (n : Nd) : (eN n).cells = cN n := rfl
theorem takeN (n : Nd) : List.take 16 (cN n) = cN n := rfl
theorem storeN (h : Heap) (p : V) (n : Nd) : evStoreV h 16 p (.agg (cN n)) = evStore h p (cN n) := by
 show (if (cN n).length = 16 ∧ (cN n).all V.isCell then evStore h p (cN n) else none) = _
 rw [if_pos ⟨rfl, rfl⟩]
theorem tree_At_run (f : List Nd) (h : Int) (hl : f.length < 2 ^ 50) (h1 : 1 ≤ h) (h2 : h ≤ f.length) :
  ∃ hh, evBodyW (callW Φ) qZN.c [eF f, .int .i64 h] [] = some (eN (at_ f h), hh) := by
 refine qZ3 (Nat.le_of_ble_eq_true rfl) (fun env he h0 => ?_)
 have g0 := h0 0 (by simp)
 have g1 := h0 1 (by simp)
 change eget env 0 = eF f at g0
 change eget env 1 = .int .i64 h at g1
 have hl' : env.length = 21 := he
 clear h0 he
 have e1 : ¬ h < 1 := by omega
 have e2 : ¬ h > (f.length : Int) := by omega
 have hw : IntKind.i64.wrap (h - 1) = h - 1 := by rw [Ev.wrap64] <;> omega
 simp [qZN.c, qZN.r0, qZN.r1, qZN.r2, qZN.r3, kSeq, kRegion, kOps, kOp, kGuard, kCond, kRet, kSkip, g0, g1, hl', eF, evBox, V.cells, V.isCell, cellsAt, e1, e2, evPick, hw, vZy vZ0 (show 0 ≤ h - 1 by omega) (at_in h1 h2), okN, storeN, evStore, setRange, vZ0, FinV, ofCells, eN, takeN]
theorem tree_At_out (f : List Nd) (h : Int) (hh : h < 1 ∨ f.length < h) :
  ∃ hh, evBodyW (callW Φ) qZN.c [eF f, .int .i64 h] [] = some (.agg zN, hh) := by
 refine qZ3 (Nat.le_of_ble_eq_true rfl) (fun env he h0 => ?_)
 have g0 := h0 0 (by simp)
 have g1 := h0 1 (by simp)
 change eget env 0 = eF f at g0
 change eget env 1 = .int .i64 h at g1
 have hl' : env.length = 21 := he
 clear h0 he
 by_cases e1 : h < 1
 ·simp [qZN.c, qZN.r0, qZN.r1, qZN.r2, qZN.r3, kSeq, kRegion, kOps, kOp, kGuard, kCond, kRet, kSkip, g0, g1, hl', eF, evBox, V.cells, V.isCell, cellsAt, e1, evPick, evBuild, placeParts, evStoreV, evStore, setRange, FinV, ofCells, zN]
 ·have e2 : h > (f.length : Int) := by omega
  simp [qZN.c, qZN.r0, qZN.r1, qZN.r2, qZN.r3, kSeq, kRegion, kOps, kOp, kGuard, kCond, kRet, kSkip, g0, g1, hl', eF, evBox, V.cells, V.isCell, cellsAt, e1, e2, evPick, evBuild, placeParts, evStoreV, evStore, setRange, FinV, ofCells, zN]
theorem wZo (f : List Nd) (h : Int) (hl : f.length < 2 ^ 50) (H : Heap) : callW Φ qZN [eF f, .int .i64 h] H = some (eN (at_ f h), H) := by
 by_cases hh : h < 1 ∨ f.length < h
 ·obtain ⟨h', hb⟩ := tree_At_out f h hh
  have := zZ4 (h := H) qZN.Φ rfl (args := [eF f, .int .i64 h]) rfl hb rfl
  rw [this, at_out hh]
  rfl
 ·obtain ⟨h', hb⟩ := tree_At_run f h hl (by omega) (by omega)
  exact zZ4 (h := H) qZN.Φ rfl (args := [eF f, .int .i64 h]) rfl hb rfl
theorem xZC (f : List Nd) (h : Int) (hl : f.length < 2 ^ 50) (h1 : 1 ≤ h) (h2 : h ≤ f.length) :
  ∃ hh, evBodyW (callW Φ) qZa.c [eF f, .int .i64 h] [] = some (.tup [eN (at_ f h), .bool true], hh) := by
 refine qZ3 (Nat.le_of_ble_eq_true rfl) (fun env he h0 => ?_)
 have g0 := h0 0 (by simp)
 have g1 := h0 1 (by simp)
 change eget env 0 = eF f at g0
 change eget env 1 = .int .i64 h at g1
 have hl' : env.length = 22 := he
 clear h0 he
 have e1 : ¬ h < 1 := by omega
 have e2 : ¬ h > (f.length : Int) := by omega
 have hw : IntKind.i64.wrap (h - 1) = h - 1 := by rw [Ev.wrap64] <;> omega
 simp [qZa.c, qZa.r0, qZa.r1, qZa.r2, qZa.r3, kSeq, kRegion, kOps, kOp, kGuard, kCond, kRet, kSkip, g0, g1, hl', eF, evBox, V.cells, V.isCell, cellsAt, e1, e2, evPick, hw, vZy vZ0 (show 0 ≤ h - 1 by omega) (at_in h1 h2), okN, storeN, evStore, setRange, vZ0, FinV, ofCells, eN, takeN]
theorem xZB (f : List Nd) (h : Int) (hh : h < 1 ∨ f.length < h) :
  ∃ hh, evBodyW (callW Φ) qZa.c [eF f, .int .i64 h] [] = some (.tup [.agg zN, .bool false], hh) := by
 refine qZ3 (Nat.le_of_ble_eq_true rfl) (fun env he h0 => ?_)
 have g0 := h0 0 (by simp)
 have g1 := h0 1 (by simp)
 change eget env 0 = eF f at g0
 change eget env 1 = .int .i64 h at g1
 have hl' : env.length = 22 := he
 clear h0 he
 by_cases e1 : h < 1
 ·simp [qZa.c, qZa.r0, qZa.r1, qZa.r2, qZa.r3, kSeq, kRegion, kOps, kOp, kGuard, kCond, kRet, kSkip, g0, g1, hl', eF, evBox, V.cells, V.isCell, cellsAt, e1, evPick, evBuild, placeParts, evStoreV, evStore, setRange, FinV, ofCells, zN]
 ·have e2 : h > (f.length : Int) := by omega
  simp [qZa.c, qZa.r0, qZa.r1, qZa.r2, qZa.r3, kSeq, kRegion, kOps, kOp, kGuard, kCond, kRet, kSkip, g0, g1, hl', eF, evBox, V.cells, V.isCell, cellsAt, e1, e2, evPick, evBuild, placeParts, evStoreV, evStore, setRange, FinV, ofCells, zN]
def is_ (f : List Nd) (h : Int) : Bool := decide (1 ≤ h ∧ h ≤ f.length)
theorem vZp (f : List Nd) (h : Int) (hl : f.length < 2 ^ 50) (H : Heap) : callW Φ qZa [eF f, .int .i64 h] H = some (.tup [eN (at_ f h), .bool (is_ f h)], H) := by
 by_cases hh : h < 1 ∨ f.length < h
 ·obtain ⟨h', hb⟩ := xZB f h hh
  have := zZ4 (h := H) qZa.Φ rfl (args := [eF f, .int .i64 h]) rfl hb rfl
  have hi : is_ f h = false := by simp [is_]; omega
  rw [this, at_out hh, hi]
  rfl
 ·obtain ⟨h', hb⟩ := xZC f h hl (by omega) (by omega)
  have hi : is_ f h = true := by simp [is_]; omega
  rw [hi]
  exact zZ4 (h := H) qZa.Φ rfl (args := [eF f, .int .i64 h]) rfl hb rfl
theorem vZr (f : List Nd) (h : Int) (hl : f.length < 2 ^ 50) (h1 : 1 ≤ h) (h2 : h ≤ f.length) (H : Heap) : callW Φ qZ6 [eF f, .int .i64 h] H = some (eN (at_ f h), H) := by
 have hw : IntKind.i64.wrap (h - 1) = h - 1 := by rw [Ev.wrap64] <;> omega
 have : ∃ hh, evBodyW (callW Φ) qZ6.c [eF f, .int .i64 h] [] = some (eN (at_ f h), hh) := by
  refine qZ3 (Nat.le_of_ble_eq_true rfl) (fun env he h0 => ?_)
  have g0 := h0 0 (by simp)
  have g1 := h0 1 (by simp)
  change eget env 0 = eF f at g0
  change eget env 1 = .int .i64 h at g1
  clear h0
  simp [qZ6.c] at he
  simp [qZ6.c, qZ6.r0, qZ6.r1, g0, g1, he, eF, evBox, V.cells, V.isCell, cellsAt, hw, vZy vZ0 (show 0 ≤ h - 1 by omega) (at_in h1 h2), okN, storeN, evStore, setRange, vZ0, ofCells, eN, takeN]
 obtain ⟨h', hb⟩ := this
 exact zZ4 (h := H) qZ6.Φ rfl (args := [eF f, .int .i64 h]) rfl hb rfl
open Go Go.Ev
def place : List Int → Int → Nat → Int
 | [], _, _ => -1
 | x :: l, h, i => if x = h then i else place l h (i + 1)
theorem vZI {α : Type} {l : List α} {i : Nat} {x : α} (hx : l[i]? = some x) : l.drop i = x :: l.drop (i + 1) := by
 obtain ⟨hi, rfl⟩ := List.getElem?_eq_some_iff.1 hx
 exact List.drop_eq_getElem_cons hi
theorem cellI (H : Heap) (n : Int) : okCells H none (some (cI n)) = some (.int .i64 n, H) := rfl
def cnt : List Int → Int → Nat
 | [], _ => 0
 | x :: l, h => if x = h then cnt l h + 1 else cnt l h
theorem cnt_le (l : List Int) (h : Int) : cnt l h ≤ l.length := by
 induction l with
 | nil => simp [cnt]
 | cons x l ih => simp only [cnt, List.length_cons]; split <;> omega
theorem wZL (l : List Int) (h : Int) (hlen : l.length < 2 ^ 50) (H : Heap) : callW Φ zZI [eI l, .int .i64 h] H = some (.int .i64 (cnt l h), H) := by
 have : ∃ hh, evBodyW (callW Φ) zZI.c [eI l, .int .i64 h] [] = some (.int .i64 (cnt l h), hh) := by
  refine qZ3 (Nat.le_of_ble_eq_true rfl) (fun env he h0 => ?_)
  have g0 := h0 0 (by simp)
  have g1 := h0 1 (by simp)
  change eget env 0 = eI l at g0
  change eget env 1 = .int .i64 h at g1
  clear h0
  simp [zZI.c] at he
  simp [zZI.c, zZI.r0, zZI.r1, zZI.r2, g0, he, eI]
  refine kLoop (fun m s => ∃ i c : Nat, m = l.length - i ∧ i ≤ l.length ∧ c ≤ i ∧ s.env.length = 21 ∧ eget s.env 8 = eI l ∧ eget s.env 1 = .int .i64 h ∧ eget s.env 9 = .int .i64 l.length ∧ eget s.env 10 = .int .i64 i ∧ eget s.env 5 = .int .i64 c ∧ s.marks = [] ∧ s.heap = [] ∧ cnt l h = c + cnt (l.drop i) h) l.length ⟨0, 0, by simp [g0, g1, he, eI]⟩ ?_
  rintro m ⟨e, mk, hp⟩ ⟨i, c, rfl, hi, hc, he, k8, k1, k9, k10, k5, hm, hh, hpl⟩
  simp only at he k8 k1 k9 k10 k5 hm hh
  subst hm hh
  by_cases hlt : i < l.length
  ·obtain ⟨x, hx⟩ : ∃ x, l[i]? = some x := ⟨l[i], by simp [hlt]⟩
   have hw : IntKind.i64.wrap ((i : Int) + 1) = ((i + 1 : Nat) : Int) := by rw [Ev.wrap64] <;> omega
   have hw2 : IntKind.i64.wrap ((c : Int) + 1) = ((c + 1 : Nat) : Int) := by rw [Ev.wrap64] <;> omega
   rw [vZI hx] at hpl
   by_cases e : x = h
   ·simp [zZI.b8, zZI.r3, zZI.r4, zZI.r5, zZI.r6, zZI.r7, k8, k1, k9, k10, k5, he, eI, hlt, qZU wZS hx, e, cellI]
    exact ⟨l.length - (i + 1), by omega, i + 1, rfl, by omega, c + 1, by omega, by simpa using hw, by simpa using hw2, by simp [cnt, e] at hpl; omega⟩
   ·have eb : (x == h) = false := by simpa using e
    simp [zZI.b8, zZI.r3, zZI.r4, zZI.r5, zZI.r6, zZI.r7, k8, k1, k9, k10, k5, he, eI, hlt, qZU wZS hx, eb, cellI]
    exact ⟨l.length - (i + 1), by omega, i + 1, rfl, by omega, c, by omega, by simpa using hw, rfl, by simp [cnt, e] at hpl; omega⟩
  ·have : i = l.length := by omega
   subst this
   simp [zZI.b8, zZI.r3, zZI.r9, k8, k1, k9, k10, k5, he, eI]
   simp [cnt] at hpl
   omega
 obtain ⟨h', hb⟩ := this
 exact zZ4 (h := H) zZI.Φ rfl (args := [eI l, .int .i64 h]) rfl hb rfl
open Go Go.Ev
def hasData (k : Int) : Bool := k == 3 || k == 4 || k == 7 || k == 8
def hasKids (k : Int) : Bool := k == 1 || k == 9 || k == 11 || k == 12
theorem wZl (k : Int) (H : Heap) : callW Φ qZt [.int .u8 k] H = some (.bool (hasData k), H) := by
 have : ∃ hh, evBodyW (callW Φ) qZt.c [.int .u8 k] [] = some (.bool (hasData k), hh) := by
  refine qZ3 (Nat.le_of_ble_eq_true rfl) (fun env he h0 => ?_)
  have g0 := h0 0 (by simp)
  change eget env 0 = .int .u8 k at g0
  clear h0
  simp [qZt.c] at he
  cases h3 : (k == 3) <;> cases h4 : (k == 4) <;> cases h7 : (k == 7) <;> cases h8 : (k == 8) <;> simp [qZt.c, qZt.r0, qZt.r1, g0, he, h3, h4, h7, h8, evPick, hasData]
 obtain ⟨h', hb⟩ := this
 exact zZ4 (h := H) qZt.Φ rfl (args := [.int .u8 k]) rfl hb rfl
theorem wZm (k : Int) (H : Heap) : callW Φ qZu [.int .u8 k] H = some (.bool (hasKids k), H) := by
 have : ∃ hh, evBodyW (callW Φ) qZu.c [.int .u8 k] [] = some (.bool (hasKids k), hh) := by
  refine qZ3 (Nat.le_of_ble_eq_true rfl) (fun env he h0 => ?_)
  have g0 := h0 0 (by simp)
  change eget env 0 = .int .u8 k at g0
  clear h0
  simp [qZu.c] at he
  cases h3 : (k == 1) <;> cases h4 : (k == 9) <;> cases h7 : (k == 11) <;> cases h8 : (k == 12) <;> simp [qZu.c, qZu.r0, qZu.r1, g0, he, h3, h4, h7, h8, evPick, hasKids]
 obtain ⟨h', hb⟩ := this
 exact zZ4 (h := H) qZu.Φ rfl (args := [.int .u8 k]) rfl hb rfl
def known (k : Int) : Bool := hasData k || hasKids k || k == 10
theorem kZB (k : Int) (H : Heap) : callW Φ qZE [.int .u8 k] H = some (.bool (known k), H) := by
 have : ∃ hh, evBodyW (callW Φ) qZE.c [.int .u8 k] [] = some (.bool (known k), hh) := by
  refine qZ3 (Nat.le_of_ble_eq_true rfl) (fun env he h0 => ?_)
  have g0 := h0 0 (by simp)
  change eget env 0 = .int .u8 k at g0
  clear h0
  simp [qZE.c] at he
  cases h3 : hasData k <;> cases h4 : hasKids k <;> cases h7 : (k == 10) <;> simp [qZE.c, qZE.r0, qZE.r1, g0, he, wZl, wZm, h3, h4, h7, evPick, known]
 obtain ⟨h', hb⟩ := this
 exact zZ4 (h := H) qZE.Φ rfl (args := [.int .u8 k]) rfl hb rfl
theorem okN0 (h : Heap) (n : Nd) : okCells h none (some (cN n)) = some (.int .u8 n.kind, h) := rfl
theorem okN1 (h : Heap) (n : Nd) : okCells h none (some ((cN n).drop 1)) = some (.str n.name.sp, h) := rfl
theorem okN2 (h : Heap) (n : Nd) : okCells h none (some ((cN n).drop 2)) = some (.str n.name.pr, h) := rfl
theorem okN3 (h : Heap) (n : Nd) : okCells h none (some ((cN n).drop 3)) = some (.str n.name.lo, h) := rfl
theorem okN4 (h : Heap) (n : Nd) : okCells h none (some ((cN n).drop 4)) = some (.str n.pub, h) := rfl
theorem okN5 (h : Heap) (n : Nd) : okCells h none (some ((cN n).drop 5)) = some (.str n.sys, h) := rfl
theorem okN6 (h : Heap) (n : Nd) : okCells h none (some ((cN n).drop 6)) = some (.arr (n.data.map cU), h) := rfl
theorem okN7 (h : Heap) (n : Nd) : okCells h none (some ((cN n).drop 7)) = some (.arr (n.attrs.map cA), h) := rfl
theorem okN8 (h : Heap) (n : Nd) : okCells h none (some ((cN n).drop 8)) = some (.int .i64 n.parent, h) := rfl
theorem okN9 (h : Heap) (n : Nd) : okCells h none (some ((cN n).drop 9)) = some (.arr (n.kids.map cI), h) := rfl
theorem okN10 (h : Heap) (n : Nd) : okCells h none (some ((cN n).drop 10)) = some (.int .i64 n.doc, h) := rfl
theorem okN11 (h : Heap) (n : Nd) : okCells h none (some ((cN n).drop 11)) = some (.int .i64 n.host, h) := rfl
theorem okN12 (h : Heap) (n : Nd) : okCells h none (some ((cN n).drop 12)) = some (.int .i64 n.shadow, h) := rfl
theorem okN13 (h : Heap) (n : Nd) : okCells h none (some ((cN n).drop 13)) = some (.int .u8 n.mode, h) := rfl
theorem okN14 (h : Heap) (n : Nd) : okCells h none (some ((cN n).drop 14)) = some (.bool n.manual, h) := rfl
theorem okN15 (h : Heap) (n : Nd) : okCells h none (some ((cN n).drop 15)) = some (.bool n.html, h) := rfl
attribute [simp] okN0 okN1 okN2 okN3 okN4 okN5 okN6 okN7 okN8 okN9 okN10 okN11 okN12 okN13 okN14 okN15
def kindOf (f : List Nd) (h : Int) : Int := (at_ f h).kind
theorem wZx (f : List Nd) (h : Int) (hl : f.length < 2 ^ 50) (H : Heap) : callW Φ qZq [eF f, .int .i64 h] H = some (.int .u8 (kindOf f h), H) := by
 have : ∃ hh, evBodyW (callW Φ) qZq.c [eF f, .int .i64 h] [] = some (.int .u8 (kindOf f h), hh) := by
  refine qZ3 (Nat.le_of_ble_eq_true rfl) (fun env he h0 => ?_)
  have g0 := h0 0 (by simp)
  have g1 := h0 1 (by simp)
  change eget env 0 = eF f at g0
  change eget env 1 = .int .i64 h at g1
  clear h0
  simp [qZq.c] at he
  have hN := fun H => vZp f h hl H
  simp only [eF, eN] at hN g0
  simp [qZq.c, qZq.r0, qZq.r1, qZq.r2, g0, g1, he, hN, evBox, evExt, V.cells, V.isCell, cellsAt, storeN, evStore, setRange, vZ0, kindOf]
 obtain ⟨h', hb⟩ := this
 exact zZ4 (h := H) qZq.Φ rfl (args := [eF f, .int .i64 h]) rfl hb rfl
theorem cellsN (h : Heap) (n : Nd) : evBox h (cN n) = some (.ptr h.length 0, h ++ [.cells (cN n)]) := by
 show (if (cN n).all V.isCell then newOb h (.ptr h.length 0) (.cells (cN n)) else none) = _
 rw [if_pos (cN_cell n), qZ4]
def above (n : Nd) : Int := if n.kind == 12 then n.host else n.parent
theorem kZx (n : Nd) (H : Heap) : callW Φ qZs [eN n] H = some (.int .i64 (above n), H) := by
 have : ∃ hh, evBodyW (callW Φ) qZs.c [eN n] [] = some (.int .i64 (above n), hh) := by
  refine qZ3 (Nat.le_of_ble_eq_true rfl) (fun env he h0 => ?_)
  have g0 := h0 0 (by simp)
  change eget env 0 = .agg (cN n) at g0
  clear h0
  simp [qZs.c] at he
  cases hk : (n.kind == 12) <;> simp [qZs.c, qZs.r0, qZs.r1, qZs.r2, qZs.r3, g0, he, V.cells, cellsN, cellsAt, hk, above]
 obtain ⟨h', hb⟩ := this
 exact zZ4 (h := H) qZs.Φ rfl (args := [eN n]) rfl hb rfl
def eNm (n : Nm) : V := .agg [.str n.sp, .str n.pr, .str n.lo]
def named (n : Nm) : Bool := !(beqS n.lo ⟨#[]⟩) && decide (n.sp.size ≤ 1024) && decide (n.pr.size ≤ 1024) && decide (n.lo.size ≤ 1024) && (beqS n.pr ⟨#[]⟩ || !(beqS n.sp ⟨#[]⟩))
theorem wZM (n : Nm) (H : Heap) : callW Φ zZ9 [eNm n] H = some (.bool (named n), H) := by
 have : ∃ hh, evBodyW (callW Φ) zZ9.c [eNm n] [] = some (.bool (named n), hh) := by
  refine qZ3 (Nat.le_of_ble_eq_true rfl) (fun env he h0 => ?_)
  have g0 := h0 0 (by simp)
  change eget env 0 = eNm n at g0
  clear h0
  simp [zZ9.c] at he
  have t : ∀ m : Nat, (decide ((m : Int) ≤ 1024)) = decide (m ≤ 1024) := fun m => by simp; omega
  cases h1 : beqS n.lo ⟨#[]⟩
  case true => simp [zZ9.c, zZ9.r0, zZ9.r1, g0, he, eNm, V.cells, evBox, V.isCell, cellsAt, evPick, h1, named]
  cases h2 : decide (n.sp.size ≤ 1024)
  case false =>
   have h2' : ¬ ((n.sp.size : Int) ≤ 1024) := by simp at h2; omega
   simp [zZ9.c, zZ9.r0, zZ9.r1, g0, he, eNm, V.cells, evBox, V.isCell, cellsAt, evPick, h1, h2, h2', named]
  have h2' : ((n.sp.size : Int) ≤ 1024) := by simp at h2; omega
  cases h3 : decide (n.pr.size ≤ 1024)
  case false =>
   have h3' : ¬ ((n.pr.size : Int) ≤ 1024) := by simp at h3; omega
   simp [zZ9.c, zZ9.r0, zZ9.r1, g0, he, eNm, V.cells, evBox, V.isCell, cellsAt, evPick, h1, h2, h2', h3, h3', named]
  have h3' : ((n.pr.size : Int) ≤ 1024) := by simp at h3; omega
  cases h4 : decide (n.lo.size ≤ 1024)
  case false =>
   have h4' : ¬ ((n.lo.size : Int) ≤ 1024) := by simp at h4; omega
   simp [zZ9.c, zZ9.r0, zZ9.r1, g0, he, eNm, V.cells, evBox, V.isCell, cellsAt, evPick, h1, h2, h2', h3, h3', h4, h4', named]
  have h4' : ((n.lo.size : Int) ≤ 1024) := by simp at h4; omega
  cases h5 : beqS n.pr ⟨#[]⟩ <;> cases h6 : beqS n.sp ⟨#[]⟩ <;> simp [zZ9.c, zZ9.r0, zZ9.r1, g0, he, eNm, V.cells, evBox, V.isCell, cellsAt, evPick, h1, h2, h2', h3, h3', h4, h4', h5, h6, named]
 obtain ⟨h', hb⟩ := this
 exact zZ4 (h := H) zZ9.Φ rfl (args := [eNm n]) rfl hb rfl
open Go Go.Ev
theorem ob_push {h : Heap} {id : Nat} {x o : Ob} (hx : h[id]? = some x) : (h ++ [o])[id]? = some x := by
 have := (List.getElem?_eq_some_iff.1 hx).1
 rw [List.getElem?_append_left this, hx]
theorem ob_last (h : Heap) (o : Ob) : (h ++ [o])[h.length]? = some o := by simp
theorem ob_set (h : Heap) (o o' : Ob) : (h ++ [o]).set h.length o' = h ++ [o'] := by simp [List.set_append]
def find : List Atr → Nm → Nat → Int
 | [], _, _ => -1
 | a :: l, n, i => if beqS a.nm.sp n.sp && beqS a.nm.lo n.lo then i else find l n (i + 1)
def eAs (l : List Atr) : V := .arr (l.map cA)
theorem okA (h : Heap) (a : Atr) : okCells h (some 4) (some (cA a)) = some (.agg (cA a), h) := rfl
theorem okA0 (h : Heap) (a : Atr) : okCells h none (some (cA a)) = some (.str a.nm.sp, h) := rfl
theorem okA1 (h : Heap) (a : Atr) : okCells h none (some ((cA a).drop 1)) = some (.str a.nm.pr, h) := rfl
theorem okA2 (h : Heap) (a : Atr) : okCells h none (some ((cA a).drop 2)) = some (.str a.nm.lo, h) := rfl
theorem okA3 (h : Heap) (a : Atr) : okCells h none (some ((cA a).drop 3)) = some (.str a.val, h) := rfl
theorem okAn (h : Heap) (a : Atr) : okCells h (some 3) (some (cA a)) = some (eNm a.nm, h) := rfl
theorem storeA (h : Heap) (p : V) (a : Atr) : evStoreV h 4 p (.agg (cA a)) = evStore h p (cA a) := rfl
theorem wZZ (l : List Atr) (n : Nm) (hlen : l.length < 2 ^ 50) (H : Heap) : callW Φ zZ1 [eAs l, eNm n] H = some (.int .i64 (find l n 0), H) := by
 have : ∃ hh, evBodyW (callW Φ) zZ1.c [eAs l, eNm n] [] = some (.int .i64 (find l n 0), hh) := by
  refine qZ3 (Nat.le_of_ble_eq_true rfl) (fun env he h0 => ?_)
  have g0 := h0 0 (by simp)
  have g1 := h0 1 (by simp)
  change eget env 0 = eAs l at g0
  change eget env 1 = eNm n at g1
  clear h0
  simp [zZ1.c] at he
  simp [zZ1.c, zZ1.r0, zZ1.r1, g0, g1, he, eAs, eNm, evBox, V.cells, V.isCell]
  refine kLoop (fun m s => ∃ i : Nat, m = l.length - i ∧ i ≤ l.length ∧ s.env.length = 30 ∧ eget s.env 3 = .ptr 0 0 ∧ eget s.env 7 = eAs l ∧ eget s.env 8 = .int .i64 l.length ∧ eget s.env 9 = .int .i64 i ∧ s.marks = [] ∧ s.heap[0]? = some (.cells [.str n.sp, .str n.pr, .str n.lo]) ∧ find l n 0 = find (l.drop i) n i) l.length ⟨0, by simp [g0, g1, he, eAs]⟩ ?_
  rintro m ⟨e, mk, hp⟩ ⟨i, rfl, hi, he, k3, k7, k8, k9, hm, hh, hpl⟩
  simp only at he k3 k7 k8 k9 hm hh
  subst hm
  by_cases hlt : i < l.length
  ·obtain ⟨x, hx⟩ : ∃ x, l[i]? = some x := ⟨l[i], by simp [hlt]⟩
   have hw : IntKind.i64.wrap ((i : Int) + 1) = ((i + 1 : Nat) : Int) := by rw [Ev.wrap64] <;> omega
   rw [hpl, vZI hx]
   have hh2 : ∀ o, (hp ++ [o])[0]? = some (.cells [.str n.sp, .str n.pr, .str n.lo]) := fun o => ob_push hh
   have hs : evStore (hp ++ [.cells [.str ⟨#[]⟩, .str ⟨#[]⟩, .str ⟨#[]⟩, .str ⟨#[]⟩]]) (.ptr hp.length 0) (cA x) = some (V.non, hp ++ [.cells (cA x)]) := by
    simp [evStore, setRange, wZr, ob_set]
   have hc0 : ∀ (o : Ob) (off : Nat), cellsAt (hp ++ [o]) (.ptr 0 off) = some ([V.str n.sp, .str n.pr, .str n.lo].drop off) := fun o off => wZc (hh2 o)
   have hcl : ∀ (cs : List V) (off : Nat), cellsAt (hp ++ [.cells cs]) (.ptr hp.length off) = some (cs.drop off) := fun cs off => wZc (ob_last hp _)
   cases e1 : beqS x.nm.sp n.sp <;> cases e2 : beqS x.nm.lo n.lo <;>
   simp [zZ1.b7, zZ1.r2, zZ1.r3, zZ1.r4, zZ1.r5, zZ1.r6, k3, k7, k8, k9, he, eAs, hlt, qZU wZr hx, okA, okA0, okA2, storeA, hs, hc0, hcl, evPick, find, e1, e2]
   all_goals exact ⟨l.length - (i + 1), by omega, i + 1, rfl, by omega, by simpa using hw, by simpa using hh2 (.cells (cA x)), rfl⟩
  ·have : i = l.length := by omega
   subst this
   rw [hpl]
   simp [zZ1.b7, zZ1.r2, zZ1.r8, k3, k7, k8, k9, he, eAs, find]
 obtain ⟨h', hb⟩ := this
 exact zZ4 (h := H) zZ1.Φ rfl (args := [eAs l, eNm n]) rfl hb rfl
end Go.Proofs.It
