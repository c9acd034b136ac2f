/- What a filter says of any node; which iterators are right. Iterators: in memory of their own; which are right; new ones. No conditions. -/
import Derived.Test.YtohcoghaaifmgaaItZp
set_option maxHeartbeats 16000000
set_option maxRecDepth 100000
set_option linter.unusedVariables false
set_option linter.unusedSimpArgs false
set_option linter.unusedSectionVars false
namespace Go.Proofs.It
open Go Go.Ev
structure Fz (t : Flt) : Prop where
 len : t.rules.length < 2 ^ 50
 sh : 0 ≤ t.sh ∧ t.sh < 4294967296
theorem faultL0 {f : List Nd} {q : List Int} (h : faultL f q = 0) : right f = true ∧ inF f q = true := by
 unfold faultL at h
 split at h
 ·rename_i hr
  split at h
  ·rename_i hq; exact ⟨hr, hq⟩
  ·cases h
 ·cases h
theorem faultT0 {f : List Nd} {t : Flt} {q : List Int} (h : faultT f t q = 0) : right f = true ∧ inF f q = true ∧ t.rules.length ≤ 64 := by
 unfold faultT at h
 split at h
 ·rename_i hq
  have := faultL0 hq
  refine ⟨this.1, this.2, ?_⟩
  unfold wrongT at h
  split at h
  ·cases h
  ·omega
 ·rename_i hq; exact absurd h hq
theorem inF1 {f : List Nd} {h : Int} (hq : inF f [h] = true) : is_ f h = true := by simpa [inF] using hq
theorem wZt {f : List Nd} (R : right f = true) {h : Int} (hi : is_ f h = true) : 1 ≤ (at_ f h).kind ∧ (at_ f h).kind ≤ 12 := known_bounds (right_known R hi)
theorem row1 (H : Heap) (x : Int) : evBslice H [V.int IntKind.i64 0] 1 1 [(0, V.int IntKind.i64 x)] = some (.sl H.length 0 0 1, H ++ [.row 1 ([x].map cI) 0 true]) := by simp [evBslice, placeParts, cI, chunks, setRange, V.cells, V.isCell]
def acceptV (f : List Nd) (t : Flt) (h : Int) : Int := if faultT f t [h] = 0 then verdictV f t h else 0
theorem kZw (f : List Nd) (z : Sz f) (h : Int) (H : Heap) : callW Φ zZU [eF f, .int .i64 h] H = some (.int .i64 (faultL f [h]), H) := by
 have : ∃ hh, evBodyW (callW Φ) zZU.c [eF f, .int .i64 h] [] = some (.int .i64 (faultL f [h]), hh) := by
  have hcf : (V.agg [V.arr (f.map cN)]).cells = [.arr (f.map cN)] := rfl
  obtain ⟨K0, hK0⟩ : ∃ K0 : Heap, K0 = [cF f] := ⟨_, rfl⟩
  have hb0 : evBox [] [.arr (f.map cN)] = some (.ptr 0 0, K0) := by rw [hK0]; simp [evBox, V.isCell, qZB]
  have cK : cellsAt K0 (.ptr 0 0) = some [.arr (f.map cN)] := by rw [hK0]; rfl
  have hR := vZS f z K0
  have hN := qZV f h z.len K0
  have hpN := pushN K0 (at_ f h)
  simp only [eF, eN] at hR hN
  refine qZE (Nat.le_of_ble_eq_true rfl) (fun env he h0 => ?_)
  have g0 := h0 0 (by simp)
  change eget env 0 = .agg [.arr (f.map cN)] at g0
  have g1 := h0 1 (by simp)
  change eget env 1 = .int .i64 h at g1
  clear h0
  simp [zZU.c] at he
  cases hr : right f with
  | false =>
   have hw : faultL f [h] = 5 := by simp [faultL, hr]
   rw [hr] at hR
   rw [hw]
   simp [zZU.c, zZU.r0, zZU.r1, zZU.r2, zZU.r3, zZU.r4, zZU.r5, zZU.r6, g0, g1, he, hcf, hb0, cK, hR, ofCells]
  | true =>
   rw [hr] at hR
   cases hi : is_ f h with
   | false =>
    have hw : faultL f [h] = 2 := by simp [faultL, hr, inF, hi]
    rw [hi] at hN
    rw [hw]
    simp [zZU.c, zZU.r0, zZU.r1, zZU.r2, zZU.r3, zZU.r4, zZU.r5, zZU.r6, g0, g1, he, hcf, hb0, cK, hR, hN, hpN, evExt, ofCells]
   | true =>
    have hw : faultL f [h] = 0 := by simp [faultL, hr, inF, hi]
    rw [hi] at hN
    rw [hw]
    simp [zZU.c, zZU.r0, zZU.r1, zZU.r2, zZU.r3, zZU.r4, zZU.r5, zZU.r6, g0, g1, he, hcf, hb0, cK, hR, hN, hpN, evExt, ofCells]
 obtain ⟨h', hb⟩ := this
 exact zZQ (h := H) zZU.Φ rfl (args := [eF f, .int .i64 h]) rfl hb rfl
theorem wZp (f : List Nd) (z : Sz f) (t : Flt) (zt : Fz t) (h : Int) (H : Heap) : callW Φ zZN [eF f, eFl t, .int .i64 h] H = some (.tup [.int .u8 (acceptV f t h), .int .i64 (faultT f t [h])], H) := by
 have : ∃ hh, evBodyW (callW Φ) zZN.c [eF f, eFl t, .int .i64 h] [] = some (.tup [.int .u8 (acceptV f t h), .int .i64 (faultT f t [h])], hh) := by
  have hcf : (V.agg [V.arr (f.map cN)]).cells = [.arr (f.map cN)] := rfl
  have hct : (eFl t).cells = cFl t := rfl
  obtain ⟨K0, hK0⟩ : ∃ K0 : Heap, K0 = [cF f] := ⟨_, rfl⟩
  obtain ⟨K1, hK1⟩ : ∃ K1 : Heap, K1 = [cF f, .cells (cFl t)] := ⟨_, rfl⟩
  have hb0 : evBox [] [.arr (f.map cN)] = some (.ptr 0 0, K0) := by rw [hK0]; simp [evBox, V.isCell, qZB]
  have hb1 : evBox K0 (cFl t) = some (.ptr 1 0, K1) := by rw [hK0, hK1]; exact qZd _ rfl
  have cK : cellsAt K1 (.ptr 0 0) = some [.arr (f.map cN)] := by rw [hK1]; rfl
  have k1 : K1[1]? = some (.cells (cFl t)) := by rw [hK1]; rfl
  have c1 := qZv k1
  have hW := kZw f z h K1
  have hT := kZx t zt.len K1
  simp only [eF, eFl] at hW hT
  refine qZE (Nat.le_of_ble_eq_true rfl) (fun env he h0 => ?_)
  have g0 := h0 0 (by simp)
  change eget env 0 = .agg [.arr (f.map cN)] at g0
  have g1 := h0 1 (by simp)
  change eget env 1 = eFl t at g1
  have g2 := h0 2 (by simp)
  change eget env 2 = .int .i64 h at g2
  clear h0
  simp [zZN.c] at he
  by_cases hf : faultL f [h] = 0
  case neg =>
   have hw : faultT f t [h] = faultL f [h] := by simp [faultT, hf]
   have hn : faultT f t [h] ≠ 0 := by rw [hw]; exact hf
   have ha : acceptV f t h = 0 := by simp [acceptV, hn]
   have hb : (faultL f [h] == 0) = false := by simpa using hf
   have hb2 : (faultL f [h] != 0) = true := by simpa using hf
   rw [ha, hw]
   simp [zZN.c, zZN.r0, zZN.r1, zZN.r2, zZN.r3, zZN.r4, zZN.r5, zZN.r6, g0, g1, g2, he, hcf, hct, hb0, hb1, cK, c1, okF, hW, hb, hb2, ofCells]
  have hb : (faultL f [h] == 0) = true := by simpa using hf
  have hw : faultT f t [h] = wrongT t := by simp [faultT, hf]
  obtain ⟨hr, hq⟩ := faultL0 hf
  have hi := inF1 hq
  have hV := vZ9 f z t zt.len zt.sh h (wZt hr hi) K1
  simp only [eF, eFl] at hV
  by_cases hg : wrongT t = 0
  case neg =>
   have hn : faultT f t [h] ≠ 0 := by rw [hw]; exact hg
   have ha : acceptV f t h = 0 := by simp [acceptV, hn]
   have hb2 : (wrongT t != 0) = true := by simpa using hg
   rw [ha, hw]
   simp [zZN.c, zZN.r0, zZN.r1, zZN.r2, zZN.r3, zZN.r4, zZN.r5, zZN.r6, g0, g1, g2, he, hcf, hct, hb0, hb1, cK, c1, okF, hW, hT, hb, hb2, ofCells]
  have hn : faultT f t [h] = 0 := by rw [hw]; exact hg
  have ha : acceptV f t h = verdictV f t h := by simp [acceptV, hn]
  have hb2 : (wrongT t != 0) = false := by simpa using hg
  rw [ha, hn]
  simp [zZN.c, zZN.r0, zZN.r1, zZN.r2, zZN.r3, zZN.r4, zZN.r5, zZN.r6, g0, g1, g2, he, hcf, hct, hb0, hb1, cK, c1, okF, hW, hT, hV, hb, hb2, ofCells]
 obtain ⟨h', hb⟩ := this
 exact zZQ (h := H) zZN.Φ rfl (args := [eF f, eFl t, .int .i64 h]) rfl hb rfl
theorem vZU (f : List Nd) (z : Sz f) (t : Flt) (zt : Fz t) (h : Int) (H : Heap) : callW Φ zZ8 [eF f, eFl t, .int .i64 h] H = some (.tup [.int .u8 (acceptV f t h), .int .i64 (faultT f t [h])], H) := by
 have : ∃ hh, evBodyW (callW Φ) zZ8.c [eF f, eFl t, .int .i64 h] [] = some (.tup [.int .u8 (acceptV f t h), .int .i64 (faultT f t [h])], hh) := by
  have hcf : (V.agg [V.arr (f.map cN)]).cells = [.arr (f.map cN)] := rfl
  have hct : (eFl t).cells = cFl t := rfl
  obtain ⟨K0, hK0⟩ : ∃ K0 : Heap, K0 = [cF f] := ⟨_, rfl⟩
  obtain ⟨K1, hK1⟩ : ∃ K1 : Heap, K1 = [cF f, .cells (cFl t)] := ⟨_, rfl⟩
  have hb0 : evBox [] [.arr (f.map cN)] = some (.ptr 0 0, K0) := by rw [hK0]; simp [evBox, V.isCell, qZB]
  have hb1 : evBox K0 (cFl t) = some (.ptr 1 0, K1) := by rw [hK0, hK1]; exact qZd _ rfl
  have cK : cellsAt K1 (.ptr 0 0) = some [.arr (f.map cN)] := by rw [hK1]; rfl
  have k1 : K1[1]? = some (.cells (cFl t)) := by rw [hK1]; rfl
  have c1 := qZv k1
  obtain ⟨K2, hK2⟩ : ∃ K2 : Heap, K2 = K1 ++ [.row 1 ([h].map cI) 0 true] := ⟨_, rfl⟩
  obtain ⟨K3, hK3⟩ : ∃ K3 : Heap, K3 = K1 ++ [.row 1 ([h].map cI) 0 false] := ⟨_, rfl⟩
  have hbs := row1 K1 h
  have hF := xZJ f z t zt.len [h] (by simp) K1
  rw [show ([h] : List Int).length = 1 from rfl] at hF
  rw [← hK2] at hbs hF
  rw [← hK3] at hF
  have cK3 : cellsAt K3 (.ptr 0 0) = some [.arr (f.map cN)] := by rw [hK3, hK1]; rfl
  have k13 : K3[1]? = some (.cells (cFl t)) := by rw [hK3, hK1]; rfl
  have c13 := qZv k13
  simp only [eF, eFl] at hF
  refine qZE (Nat.le_of_ble_eq_true rfl) (fun env he h0 => ?_)
  have g0 := h0 0 (by simp)
  change eget env 0 = .agg [.arr (f.map cN)] at g0
  have g1 := h0 1 (by simp)
  change eget env 1 = eFl t at g1
  have g2 := h0 2 (by simp)
  change eget env 2 = .int .i64 h at g2
  clear h0
  simp [zZ8.c] at he
  by_cases hn : faultT f t [h] = 0
  case neg =>
   have ha : acceptV f t h = 0 := by simp [acceptV, hn]
   have hb2 : (faultT f t [h] != 0) = true := by simpa using hn
   rw [ha]
   simp [zZ8.c, zZ8.r0, zZ8.r1, zZ8.r2, zZ8.r3, zZ8.r4, g0, g1, g2, he, hcf, hct, hb0, hb1, cK, c1, okF, hbs, hF, hb2, ofCells]
  obtain ⟨hr, hq, _⟩ := faultT0 hn
  have hi := inF1 hq
  have hV := jZ8 f z t zt.len zt.sh h (wZt hr hi) K3
  simp only [eF, eFl] at hV
  have ha : acceptV f t h = verdictV f t h := by simp [acceptV, hn]
  have hb2 : (faultT f t [h] != 0) = false := by simpa using hn
  rw [ha, hn]
  rw [hn] at hb2 hF
  simp [zZ8.c, zZ8.r0, zZ8.r1, zZ8.r2, zZ8.r3, zZ8.r4, g0, g1, g2, he, hcf, hct, hb0, hb1, cK, c1, okF, hbs, hF, hb2, cK3, c13, hV, ofCells]
 obtain ⟨h', hb⟩ := this
 exact zZQ (h := H) zZ8.Φ rfl (args := [eF f, eFl t, .int .i64 h]) rfl hb rfl
theorem vZ3 (f : List Nd) (z : Sz f) (i : Itr) (zt : Fz i.flt) (h : Int) (hk : 1 ≤ (at_ f h).kind ∧ (at_ f h).kind ≤ 12) (H : Heap) : callW Φ qZi [eF f, eIt i, .int .i64 h] H = some (.bool (verdictV f i.flt h == 1), H) := by
 have : ∃ hh, evBodyW (callW Φ) qZi.c [eF f, eIt i, .int .i64 h] [] = some (.bool (verdictV f i.flt h == 1), hh) := by
  have hcf : (V.agg [V.arr (f.map cN)]).cells = [.arr (f.map cN)] := rfl
  have hct : (eIt i).cells = cIt i := rfl
  obtain ⟨K0, hK0⟩ : ∃ K0 : Heap, K0 = [cF f] := ⟨_, rfl⟩
  obtain ⟨K1, hK1⟩ : ∃ K1 : Heap, K1 = [cF f, .cells (cIt i)] := ⟨_, rfl⟩
  have hb0 : evBox [] [.arr (f.map cN)] = some (.ptr 0 0, K0) := by rw [hK0]; simp [evBox, V.isCell, qZB]
  have hb1 : evBox K0 (cIt i) = some (.ptr 1 0, K1) := by rw [hK0, hK1]; exact qZd _ rfl
  have cK : cellsAt K1 (.ptr 0 0) = some [.arr (f.map cN)] := by rw [hK1]; rfl
  have k1 : K1[1]? = some (.cells (cIt i)) := by rw [hK1]; rfl
  have c1 := qZv k1
  have ok3 : ∀ H, okCells H (some 2) (some ((cIt i).drop 3)) = some (.agg (cFl i.flt), H) := fun _ => rfl
  have hV := vZ9 f z i.flt zt.len zt.sh h hk K1
  simp only [eF, eFl] at hV
  refine qZE (Nat.le_of_ble_eq_true rfl) (fun env he h0 => ?_)
  have g0 := h0 0 (by simp)
  change eget env 0 = .agg [.arr (f.map cN)] at g0
  have g1 := h0 1 (by simp)
  change eget env 1 = eIt i at g1
  have g2 := h0 2 (by simp)
  change eget env 2 = .int .i64 h at g2
  clear h0
  simp [qZi.c] at he
  simp [qZi.c, qZi.r0, qZi.r1, g0, g1, g2, he, hcf, hct, hb0, hb1, cK, c1, ok3, hV, ofCells]
 obtain ⟨h', hb⟩ := this
 exact zZQ (h := H) qZi.Φ rfl (args := [eF f, eIt i, .int .i64 h]) rfl hb rfl
noncomputable def holdsF (f : List Nd) (a b : Int) : Bool := by classical exact decide (∃ d, Dep f b d ∧ a ∈ ups f d b)
theorem vZI {f : List Nd} {a b : Int} {d : Nat} (hd : Dep f b d) : holdsF f a b = decide (a ∈ ups f d b) := by
 unfold holdsF
 by_cases h : a ∈ ups f d b
 ·have : ∃ d, Dep f b d ∧ a ∈ ups f d b := ⟨d, hd, h⟩
  simp [h, this]
 ·have : ¬ ∃ d, Dep f b d ∧ a ∈ ups f d b := by
   rintro ⟨e, he, hm⟩
   rw [hd.uniq he] at h
   exact h hm
  simp [h, this]
theorem vZT {f : List Nd} (z : Sz f) (R : right f = true) (a : Int) {b : Int} (hb : is_ f b = true) (H : Heap) : callW Φ zZR [eF f, .int .i64 a, .int .i64 b] H = some (.bool (holdsF f a b), H) := by
 obtain ⟨d, _, hd⟩ := wZN R hb
 rw [xZw f z.len a b d hd H, vZI hd]
 simp
theorem vZm {f : List Nd} (z : Sz f) (R : right f = true) (a : Int) {b : Int} (hb : is_ f b = true) (H : Heap) : callW Φ zZ9 [eF f, .int .i64 a, .int .i64 b] H = some (.bool (holdsF f a b), H) := by
 obtain ⟨d, hd1, hd⟩ := wZN R hb
 have := vZp R
 rw [jZp f z a b d hd hb (by omega) H, vZI hd]
open Go Go.Ev
theorem okIt (H : Heap) (i : Itr) : okCells H (some 5) (some (cIt i)) = some (eIt i, H) := rfl
theorem okIt0 (H : Heap) (i : Itr) : okCells H none (some (cIt i)) = some (.int .i64 i.root, H) := rfl
theorem okIt1 (H : Heap) (i : Itr) : okCells H none (some (cIt i).tail) = some (.int .i64 i.ref, H) := rfl
theorem okIt2 (H : Heap) (i : Itr) : okCells H none (some ((cIt i).drop 2)) = some (.bool i.before, H) := rfl
theorem okIt3 (H : Heap) (i : Itr) : okCells H (some 2) (some ((cIt i).drop 3)) = some (eFl i.flt, H) := rfl
theorem okIt4 (H : Heap) (i : Itr) : okCells H none (some ((cIt i).drop 4)) = some (.arr (i.flt.rules.map cR), H) := rfl
theorem ofIt (i : Itr) : ofCells (some 5) (cIt i) = some (eIt i) := rfl
theorem ofF (x : V) : ofCells (some 1) [x] = some (.agg [x]) := rfl
theorem ccIt (i : Itr) : (eIt i).cells = cIt i := rfl
theorem ccFl (t : Flt) : (eFl t).cells = cFl t := rfl
theorem ccF (x : V) : (V.agg [x]).cells = [x] := rfl
theorem jZv {H : Heap} {id : Nat} {cs ds : List V} (h : H[id]? = some (.cells ds)) (hl : ds.length = cs.length) (hc : cs.all V.isCell = true) : evStoreV H cs.length (.ptr id 0) (.agg cs) = some (V.non, H.set id (.cells cs)) := by
 have h1 : (V.agg cs).cells = cs := rfl
 have h2 : setRange ds 0 cs = some cs := by
  unfold setRange
  rw [if_pos (by omega), Nat.zero_add, List.drop_eq_nil_of_le (by omega)]
  simp
 simp only [evStoreV, h1, hc, and_self, if_true, evStore, h, h2, qZS]
theorem storeIt {H : Heap} {id : Nat} {a b c d e : V} (i : Itr) (h : H[id]? = some (.cells [a, b, c, d, e])) : evStoreV H 5 (.ptr id 0) (eIt i) = some (V.non, H.set id (.cells (cIt i))) := jZv (cs := cIt i) h rfl rfl
theorem storeRef {H : Heap} {id : Nat} {i : Itr} (h : H[id]? = some (.cells (cIt i))) (x : Int) : evStoreV H 1 (.ptr id 1) (.int .i64 x) = some (V.non, H.set id (.cells (cIt { i with ref := x }))) := by
 simp [evStoreV, V.cells, V.isCell, evStore, h, setRange, cIt]
theorem storeBef {H : Heap} {id : Nat} {i : Itr} (h : H[id]? = some (.cells (cIt i))) (b : Bool) : evStoreV H 1 (.ptr id 2) (.bool b) = some (V.non, H.set id (.cells (cIt { i with before := b }))) := by
 simp [evStoreV, V.cells, V.isCell, evStore, h, setRange, cIt]
def noIt : Itr := ⟨0, 0, false, ⟨0, []⟩⟩
theorem nz_noIt : nz1 (.agg [.int .i64 0, .int .i64 0, .bool false, .int .u32 0, .nils]) = eIt noIt := rfl
theorem copy_all {H : Heap} {sz id : Nat} {zs xs : List (List V)} (h : H[id]? = some (.row sz zs 0 true)) (hl : zs.length = xs.length) (hs : szOk sz xs = true) : evCopy H sz (.sl id 0 0 xs.length) (.arr xs) = some (.int .i64 xs.length, H.set id (.row sz xs 0 true)) := by
 have hlt := (List.getElem?_eq_some_iff.1 h).1
 cases xs with
 | nil =>
  have hz : zs = [] := List.eq_nil_of_length_eq_zero hl
  have hset : H.set id (.row sz [] 0 true) = H := by
   rw [hz] at h
   apply List.ext_getElem?
   intro j
   rw [List.getElem?_set]
   split
   ·rename_i e; subst e; exact h.symm
   ·rfl
  rw [hset]
  simp [evCopy, lenAny, lenV, qZU]
 | cons x xs =>
  have h1 : zs.drop (x :: xs).length = [] := List.drop_eq_nil_of_le (by omega)
  simp [evCopy, lenAny, lenV, qZU, elemsTo, elemsOf, h, hs, h1, List.take_of_length_le, qZS]
  rw [List.drop_eq_nil_of_le (by simp at hl; omega), List.append_nil]
theorem fz_it {H : Heap} {id n : Nat} {a b c d : V} {rs : List (List V)} (h : H[id]? = some (.row 3 rs 0 true)) (hn : rs.length = n) (hr : ∀ e ∈ rs, e.all scal = true) (ha : scal a = true) (hb : scal b = true) (hc : scal c = true) (hd : scal d = true) (k : Nat) :
  fz (k + 3) H (.agg [a, b, c, d, .sl id 0 0 n]) = some (.agg [a, b, c, d, .arr rs], H.set id (.row 3 rs 0 false)) := by
 have h1 := fz_sl (d := k) (off := 0) (len := n) h (by omega) hr
 rw [List.drop_zero, List.take_of_length_le (by omega)] at h1
 show (mapH (fz (k + 2)) H [a, b, c, d, .sl id 0 0 n]).map (fun p => (V.agg p.1, p.2)) = _
 simp only [mapH, jZi ha, jZi hb, jZi hc, jZi hd, h1, Option.map_some]
theorem vZq (i : Itr) (hl : i.flt.rules.length < 2 ^ 40) (H : Heap) : callW Φ qZh [eIt i] H = some (eIt i, H) := by
 refine qZ8 qZh.Φ rfl (args := [eIt i]) rfl ?_
 obtain ⟨P, hP⟩ : ∃ P : V → Heap → Prop, P = fun r h2 => ∃ h3, fz fzDepth h2 r = some (eIt i, h3) := ⟨_, rfl⟩
 suffices hgo : ∃ r h', evBodyW (callW Φ) qZh.c [eIt i] [] = some (r, h') ∧ P r h' by rw [hP] at hgo; exact hgo
 have hPz : ∀ r h2 h3, fz fzDepth h2 r = some (eIt i, h3) → P r h2 := fun r h2 h3 hz => by rw [hP]; exact ⟨h3, hz⟩
 have hPn : ∀ r h2, flatN2 r = true → nz2 r = eIt i → P r h2 := fun r h2 h h1 => hPz r h2 h2 (by rw [← h1]; exact qZ0 h)
 clear hP
 obtain ⟨rs, hrs⟩ : ∃ rs, rs = i.flt.rules.map cR := ⟨_, rfl⟩
 have hn : rs.length = i.flt.rules.length := by rw [hrs]; simp
 obtain ⟨n, hn2⟩ : ∃ n, n = i.flt.rules.length := ⟨_, rfl⟩
 rw [← hn2] at hl hn
 have hpl : ∀ e ∈ rs, e.all scal = true := fun e he => by rw [hrs] at he; obtain ⟨r, _, rfl⟩ := List.mem_map.1 he; rfl
 have hsz : szOk 3 rs = true := by simp only [szOk, List.all_eq_true, beq_iff_eq]; intro e he; rw [hrs] at he; obtain ⟨r, _, rfl⟩ := List.mem_map.1 he; rfl
 obtain ⟨a, ha⟩ : ∃ a, a = V.int .i64 i.root := ⟨_, rfl⟩
 obtain ⟨b, hb⟩ : ∃ b, b = V.int .i64 i.ref := ⟨_, rfl⟩
 obtain ⟨c, hc⟩ : ∃ c, c = V.bool i.before := ⟨_, rfl⟩
 obtain ⟨d, hd⟩ : ∃ d, d = V.int .u32 i.flt.sh := ⟨_, rfl⟩
 have hci : cIt i = [a, b, c, d, .arr rs] := by rw [ha, hb, hc, hd, hrs]; rfl
 obtain ⟨K0, hK0⟩ : ∃ K0 : Heap, K0 = [.cells (cIt i)] := ⟨_, rfl⟩
 have hb0 : evBox [] (cIt i) = some (.ptr 0 0, K0) := by rw [hK0]; exact qZd _ rfl
 obtain ⟨K1, hK1⟩ : ∃ K1 : Heap, K1 = [.cells (cIt i), .cells [.int .i64 0, .int .i64 0, .bool false, .int .u32 0, .nils]] := ⟨_, rfl⟩
 have l0 : K0.length = 1 := by rw [hK0]; rfl
 have e1 : K0 ++ [.cells [.int .i64 0, .int .i64 0, .bool false, .int .u32 0, .nils]] = K1 := by rw [hK0, hK1]; rfl
 have c1 : cellsAt K1 (.ptr 0 4) = some [.arr rs] := by rw [hK1, hci]; rfl
 have ok1 : ∀ H, okCells H none (some [.arr rs]) = some (.arr rs, H) := fun _ => rfl
 have le1 : ∀ H, evLen H .l (.arr rs) = some (.int .i64 n, H) := fun H => by rw [len_arr, hn]
 obtain ⟨K2, hK2⟩ : ∃ K2 : Heap, K2 = K1 ++ [.row 3 (List.replicate n [.int .u8 0, .str ⟨#[]⟩, .int .u8 0]) 0 true] := ⟨_, rfl⟩
 have hm : evMks K1 [.int .u8 0, .str ⟨#[]⟩, .int .u8 0] 3 32 (.int .i64 n) (.int .i64 n) = some (.sl 2 0 0 n, K2) := by
  have h2 : K1.length = 2 := by rw [hK1]; rfl
  have h3 : (0 : Int) ≤ n := by omega
  have h4 : (n : Int) * 32 ≤ (roomB : Int) := by unfold roomB; omega
  simp [evMks, h4, qZU, qZB, h2, hK2]
 have r2 : K2[2]? = some (.row 3 (List.replicate n [.int .u8 0, .str ⟨#[]⟩, .int .u8 0]) 0 true) := by rw [hK2, hK1]; rfl
 have hcp := copy_all r2 (by simp [hn]) hsz
 rw [hn] at hcp
 obtain ⟨K3, hK3⟩ : ∃ K3 : Heap, K3 = K2.set 2 (.row 3 rs 0 true) := ⟨_, rfl⟩
 rw [← hK3] at hcp
 have c2 : cellsAt K2 (.ptr 0 4) = some [.arr rs] := by rw [hK2, hK1, hci]; rfl
 have e3 : K3 = [.cells [a, b, c, d, .arr rs], .cells [.int .i64 0, .int .i64 0, .bool false, .int .u32 0, .nils], .row 3 rs 0 true] := by rw [hK3, hK2, hK1, hci]; rfl
 obtain ⟨K4, hK4⟩ : ∃ K4 : Heap, K4 = [.cells [a, b, c, d, .sl 2 0 0 n], .cells [.int .i64 0, .int .i64 0, .bool false, .int .u32 0, .nils], .row 3 rs 0 true] := ⟨_, rfl⟩
 have st4 : evStoreV K3 1 (.ptr 0 4) (.sl 2 0 0 n) = some (V.non, K4) := by rw [e3, hK4]; simp [evStoreV, V.cells, V.isCell, evStore, setRange]
 have c4 : cellsAt K4 (.ptr 0 0) = some [a, b, c, d, .sl 2 0 0 n] := by rw [hK4]; rfl
 obtain ⟨K5, hK5⟩ : ∃ K5 : Heap, K5 = [.cells [a, b, c, d, .sl 2 0 0 n], .cells [a, b, c, d, .sl 2 0 0 n], .row 3 rs 0 true] := ⟨_, rfl⟩
 have ok4 : ∀ H, okCells H (some 5) (some [a, b, c, d, .sl 2 0 0 n]) = some (.agg [a, b, c, d, .sl 2 0 0 n], H) := fun _ => rfl
 have st5 : evStoreV K4 5 (.ptr 1 0) (.agg [a, b, c, d, .sl 2 0 0 n]) = some (V.non, K5) := by
  have := jZv (H := K4) (id := 1) (cs := [a, b, c, d, .sl 2 0 0 n]) (ds := [.int .i64 0, .int .i64 0, .bool false, .int .u32 0, .nils]) (by rw [hK4]; rfl) rfl (by rw [ha, hb, hc, hd]; rfl)
  rw [show K5 = K4.set 1 (.cells [a, b, c, d, .sl 2 0 0 n]) by rw [hK5, hK4]; rfl]
  exact this
 have c5 : cellsAt K5 (.ptr 1 0) = some [a, b, c, d, .sl 2 0 0 n] := by rw [hK5]; rfl
 have of5 : ofCells (some 5) [a, b, c, d, .sl 2 0 0 n] = some (.agg [a, b, c, d, .sl 2 0 0 n]) := rfl
 have hz := fz_it (H := K5) (id := 2) (n := n) (a := a) (b := b) (c := c) (d := d) (rs := rs) (by rw [hK5]; rfl) hn hpl (by rw [ha]; rfl) (by rw [hb]; rfl) (by rw [hc]; rfl) (by rw [hd]; rfl) 61
 have hfin : P (.agg [a, b, c, d, .sl 2 0 0 n]) K5 := hPz _ _ _ (by rw [show eIt i = .agg [a, b, c, d, .arr rs] by rw [← hci]; rfl]; exact hz)
 refine vZv (Nat.le_of_ble_eq_true rfl) (fun env he h0 => ?_)
 have g0 := h0 0 (by simp)
 change eget env 0 = eIt i at g0
 clear h0
 simp [qZh.c] at he
 simp [qZh.c, qZh.r0, qZh.r1, qZh.r2, qZh.r3, qZh.r4, g0, he, ccIt, hb0, l0, e1, c1, ok1, le1, hm, c2, hcp, st4, c4, ok4, st5, c5, of5, hfin]
end Go.Proofs.It
