/- How an element is asked; where its attributes stand. What attributes have. No conditions. -/
import Derived.Test.YtaeklgflchhmfaaGreatDoorAqA
set_option maxHeartbeats 16000000
set_option maxRecDepth 100000
set_option linter.unusedVariables false
set_option linter.unusedSimpArgs false
set_option linter.unusedSectionVars false
namespace Go.Proofs.It
open Go Go.Ev
theorem right_doc {f : List Nd} (R : right f = true) {h : Int} (hi : is_ f h = true) : is_ f (at_ f h).doc = true := by
 have hl := (wZF R hi).2.1
 simp only [links, linkD, Bool.and_eq_true, beq_iff_eq] at hl
 have hk : kindOf f (at_ f h).doc = 9 := hl.1.1.1.2.1
 rw [vZC]
 by_cases c : (at_ f h).doc < 1 ∨ (f.length : Int) < (at_ f h).doc
 ·rw [kindOf, at_out c] at hk
  exact absurd hk (by decide)
 ·omega
def wrongV (f : List Nd) (h : Int) : Int := if faultL f [h] = 0 then (if (at_ f h).kind = 1 then 0 else 23) else faultL f [h]
theorem wrong_ok {f : List Nd} {h : Int} (w : wrongV f h = 0) : right f = true ∧ is_ f h = true := by
 simp only [wrongV] at w
 by_cases c : faultL f [h] = 0
 ·unfold faultL at c
  cases hr : right f
  ·simp [hr] at c
  ·cases hi : is_ f h
   ·simp [hr, hi, inF] at c
   ·exact ⟨rfl, rfl⟩
 ·rw [if_neg c] at w
  exact absurd w c
theorem bsI (H : Heap) (n : Int) : evBslice H [.int .i64 0] 1 1 [(0, .int .i64 n)] = some (.sl H.length 0 0 1, H ++ [.row 1 [cI n] 0 true]) := by
 simp [evBslice, placeParts, V.cells, V.isCell, chunks, setRange, qZ4, cI]
theorem vZW (f : List Nd) (z : Sz f) (h : Int) (H : Heap) : callW Φ zZR [eF f, .int .i64 h] H = some (.int .i64 (wrongV f h), H) := by
 have : ∃ hh, evBodyW (callW Φ) zZR.c [eF f, .int .i64 h] [] = some (.int .i64 (wrongV f h), hh) := by
  refine qZ3 (Nat.le_of_ble_eq_true rfl) (fun env he h0 => ?_)
  have g0 := h0 0 (by simp)
  change eget env 0 = .agg [.arr (f.map cN)] at g0
  have g1 := h0 1 (by simp)
  change eget env 1 = .int .i64 h at g1
  clear h0
  simp [zZR.c] at he
  have hlf := z.len
  obtain ⟨K, hK⟩ : ∃ K : Heap, K = [Ob.cells [.arr (f.map cN)]] := ⟨_, rfl⟩
  have hb : evBox [] [.arr (f.map cN)] = some (.ptr 0 0, K) := by rw [hK]; simp [evBox, V.isCell]
  have c0 : ∀ E, cellsAt (K ++ E) (.ptr 0 0) = some [.arr (f.map cN)] := by rw [hK]; intro E; rfl
  have c1 : cellsAt K (.ptr 0 0) = some [.arr (f.map cN)] := by rw [hK]; rfl
  have kl : K.length = 1 := by rw [hK]; rfl
  have hcc : (V.agg [V.arr (f.map cN)]).cells = [.arr (f.map cN)] := rfl
  have bs := bsI K h
  have hF := xZF f z [h] (by simp) K
  have hA := wZo f h hlf (K ++ [.row 1 [cI h] 0 false])
  simp only [eF, eN, List.length_cons, List.length_nil, List.map_cons, List.map_nil, Nat.zero_add] at hF hA
  clear hK
  by_cases w : faultL f [h] = 0
  ·have c2 := c0 [.row 1 [cI h] 0 false]
   by_cases k : (at_ f h).kind = 1
   ·have e : wrongV f h = 0 := by simp [wrongV, w, k]
    rw [w] at hF
    rw [e]
    simp [zZR.c, zZR.r0, zZR.r1, zZR.r2, zZR.r3, zZR.r4, g0, g1, he, hcc, hb, c1, c2, bs, hF, hA, ofCells, fieldN0, evPick, k]
   ·have e : wrongV f h = 23 := by simp [wrongV, w, k]
    have k' : ((at_ f h).kind != 1) = true := by simp [bne, k]
    rw [w] at hF
    rw [e]
    simp [zZR.c, zZR.r0, zZR.r1, zZR.r2, zZR.r3, zZR.r4, g0, g1, he, hcc, hb, c1, c2, bs, hF, hA, ofCells, fieldN0, evPick, k']
  ·have e : wrongV f h = faultL f [h] := by simp [wrongV, w]
   have w' : (faultL f [h] == 0) = false := by simp [w]
   rw [e]
   simp [zZR.c, zZR.r0, zZR.r1, zZR.r2, zZR.r3, zZR.r4, g0, g1, he, hcc, hb, c1, bs, hF, ofCells, evPick, w']
 obtain ⟨h', hb⟩ := this
 exact zZ4 (h := H) zZR.Φ rfl (args := [eF f, .int .i64 h]) rfl hb rfl
theorem vZZ (f : List Nd) (z : Sz f) (h : Int) (H : Heap) : callW Φ zZJ [eF f, .int .i64 h] H = some (.int .i64 (wrongV f h), H) := by
 have : ∃ hh, evBodyW (callW Φ) zZJ.c [eF f, .int .i64 h] [] = some (.int .i64 (wrongV f h), hh) := by
  refine qZ3 (Nat.le_of_ble_eq_true rfl) (fun env he h0 => ?_)
  have g0 := h0 0 (by simp)
  change eget env 0 = .agg [.arr (f.map cN)] at g0
  have g1 := h0 1 (by simp)
  change eget env 1 = .int .i64 h at g1
  clear h0
  simp [zZJ.c] at he
  have hlf := z.len
  obtain ⟨K, hK⟩ : ∃ K : Heap, K = [Ob.cells [.arr (f.map cN)]] := ⟨_, rfl⟩
  have hb : evBox [] [.arr (f.map cN)] = some (.ptr 0 0, K) := by rw [hK]; simp [evBox, V.isCell]
  have c0 : ∀ E, cellsAt (K ++ E) (.ptr 0 0) = some [.arr (f.map cN)] := by rw [hK]; intro E; rfl
  have c1 : cellsAt K (.ptr 0 0) = some [.arr (f.map cN)] := by rw [hK]; rfl
  have hcc : (V.agg [V.arr (f.map cN)]).cells = [.arr (f.map cN)] := rfl
  have bs := bsI K h
  have hF := xZn f z [h] (by simp) K
  simp only [eF, List.length_cons, List.length_nil, List.map_cons, List.map_nil, Nat.zero_add] at hF
  clear hK
  by_cases w : faultL f [h] = 0
  ·have c2 := c0 [.row 1 [cI h] 0 false]
   obtain ⟨hr, hi⟩ : right f = true ∧ is_ f h = true := by
    cases hr : right f
    ·simp [faultL, hr] at w
    ·cases hi : is_ f h
     ·simp [faultL, hr, hi, inF] at w
     ·exact ⟨rfl, rfl⟩
   have hi' := vZC.1 hi
   have hA := vZr f h hlf hi'.1 hi'.2 (K ++ [.row 1 [cI h] 0 false])
   simp only [eF, eN] at hA
   by_cases k : (at_ f h).kind = 1
   ·have e : wrongV f h = 0 := by simp [wrongV, w, k]
    rw [w] at hF
    rw [e]
    simp [zZJ.c, zZJ.r0, zZJ.r1, zZJ.r2, zZJ.r3, zZJ.r4, zZJ.r5, zZJ.r6, g0, g1, he, hcc, hb, c1, c2, bs, hF, hA, ofCells, fieldN0, evPick, k]
   ·have e : wrongV f h = 23 := by simp [wrongV, w, k]
    have k' : ((at_ f h).kind != 1) = true := by simp [bne, k]
    rw [w] at hF
    rw [e]
    simp [zZJ.c, zZJ.r0, zZJ.r1, zZJ.r2, zZJ.r3, zZJ.r4, zZJ.r5, zZJ.r6, g0, g1, he, hcc, hb, c1, c2, bs, hF, hA, ofCells, fieldN0, evPick, k']
  ·have e : wrongV f h = faultL f [h] := by simp [wrongV, w]
   have w' : (faultL f [h] != 0) = true := by simp [bne, w]
   rw [e]
   simp [zZJ.c, zZJ.r0, zZJ.r1, zZJ.r2, zZJ.r3, zZJ.r4, zZJ.r5, zZJ.r6, g0, g1, he, hcc, hb, c1, bs, hF, ofCells, evPick, w']
 obtain ⟨h', hb⟩ := this
 exact zZ4 (h := H) zZJ.Φ rfl (args := [eF f, .int .i64 h]) rfl hb rfl
/-! ### HTML elements in HTML documents -/
def spHTML : ByteArray := ⟨#[104, 116, 116, 112, 58, 47, 47, 119, 119, 119, 46, 119, 51, 46, 111, 114, 103, 47, 49, 57, 57, 57, 47, 120, 104, 116, 109, 108]⟩
def htmlE (f : List Nd) (h : Int) : Bool := beqS (at_ f h).name.sp spHTML && (at_ f (at_ f h).doc).html
def askV (f : List Nd) (h : Int) (q : ByteArray) : ByteArray := if htmlE f h then lowS q else q
theorem lower_u (q : ByteArray) (hq : q.size ≤ roomB) (H : Heap) : callW Φ zZx [.str q] H = some (.str (lowS q), H) := by
 have := low_u q.data.toList (by rw [← xZG]; simpa using hq) H
 simpa [lowS] using this
theorem lower_r (q : ByteArray) (hq : q.size ≤ roomB) (H : Heap) : callW Φ zZC [.str q] H = some (.str (lowS q), H) := by
 have := low_r q.data.toList (by rw [← xZG]; simpa using hq) H
 simpa [lowS] using this
theorem okNt (X : Heap) (n : Nd) : okCells X none (some (cN n).tail) = some (.str n.name.sp, X) := rfl
theorem fieldN15 (n : Nd) (H : Heap) : evField H 15 none (.agg (cN n)) = some (.bool n.html, H) := rfl
theorem kZt (f : List Nd) (z : Sz f) (h : Int) (q : ByteArray) (hq : q.size ≤ roomB) (H : Heap) : callW Φ zZQ [eF f, .int .i64 h, .str q] H = some (.str (askV f h q), H) := by
 have : ∃ hh, evBodyW (callW Φ) zZQ.c [eF f, .int .i64 h, .str q] [] = some (.str (askV f h q), hh) := by
  refine qZ3 (Nat.le_of_ble_eq_true rfl) (fun env he h0 => ?_)
  have g0 := h0 0 (by simp)
  change eget env 0 = .agg [.arr (f.map cN)] at g0
  have g1 := h0 1 (by simp)
  change eget env 1 = .int .i64 h at g1
  have g2 := h0 2 (by simp)
  change eget env 2 = .str q at g2
  clear h0
  simp [zZQ.c] at he
  have hlf := z.len
  obtain ⟨K, hK⟩ : ∃ K : Heap, K = [Ob.cells [.arr (f.map cN)]] := ⟨_, rfl⟩
  have hb : evBox [] [.arr (f.map cN)] = some (.ptr 0 0, K) := by rw [hK]; simp [evBox, V.isCell]
  have c1 : cellsAt K (.ptr 0 0) = some [.arr (f.map cN)] := by rw [hK]; rfl
  have hcc : (V.agg [V.arr (f.map cN)]).cells = [.arr (f.map cN)] := rfl
  have hA := fun x X => wZo f x hlf X
  simp only [eF, eN] at hA
  have st := fun cs (hl : cs.length = 16) => jZM (H := K) (cs := cs) (n := 16) (.agg (cN (at_ f h))) hl rfl rfl
  obtain ⟨K2, hK2⟩ : ∃ K2, K2 = K ++ [.cells (cN (at_ f h))] := ⟨_, rfl⟩
  have st1 := st zN rfl
  have hc2 : (V.agg (cN (at_ f h))).cells = cN (at_ f h) := rfl
  simp only [hc2, zN] at st1
  rw [← hK2] at st1
  have c2 : cellsAt K2 (.ptr 0 0) = some [.arr (f.map cN)] := by rw [hK2, hK]; rfl
  have cn : ∀ off, cellsAt K2 (.ptr K.length off) = some ((cN (at_ f h)).drop off) := fun off => by rw [hK2]; exact vZN _ _ _
  have hL := lower_u q hq K2
  clear hK st hK2
  cases b1 : beqS (at_ f h).name.sp spHTML
  ·have e : askV f h q = q := by simp [askV, htmlE, b1]
   rw [e]
   simp only [spHTML] at b1
   simp [zZQ.c, zZQ.r0, zZQ.r1, zZQ.r2, zZQ.r3, zZQ.r4, g0, g1, g2, he, hcc, hb, c1, hA, ofCells, st1, cn, okNt, evPick, b1]
  ·cases b2 : (at_ f (at_ f h).doc).html
   ·have e : askV f h q = q := by simp [askV, htmlE, b1, b2]
    rw [e]
    simp only [spHTML] at b1
    simp [zZQ.c, zZQ.r0, zZQ.r1, zZQ.r2, zZQ.r3, zZQ.r4, g0, g1, g2, he, hcc, hb, c1, c2, hA, ofCells, st1, cn, okNt, fieldN15, evPick, b1, b2]
   ·have e : askV f h q = lowS q := by simp [askV, htmlE, b1, b2]
    rw [e]
    simp only [spHTML] at b1
    simp [zZQ.c, zZQ.r0, zZQ.r1, zZQ.r2, zZQ.r3, zZQ.r4, g0, g1, g2, he, hcc, hb, c1, c2, hA, ofCells, st1, cn, okNt, fieldN15, evPick, b1, b2, hL]
 obtain ⟨h', hb⟩ := this
 exact zZ4 (h := H) zZQ.Φ rfl (args := [eF f, .int .i64 h, .str q]) rfl hb rfl
theorem xZo (f : List Nd) (z : Sz f) (h : Int) (R : right f = true) (hi : is_ f h = true) (H : Heap) : callW Φ qZB [eF f, .int .i64 h] H = some (.bool (htmlE f h), H) := by
 have : ∃ hh, evBodyW (callW Φ) qZB.c [eF f, .int .i64 h] [] = some (.bool (htmlE f h), hh) := by
  refine qZ3 (Nat.le_of_ble_eq_true rfl) (fun env he h0 => ?_)
  have g0 := h0 0 (by simp)
  change eget env 0 = .agg [.arr (f.map cN)] at g0
  have g1 := h0 1 (by simp)
  change eget env 1 = .int .i64 h at g1
  clear h0
  simp [qZB.c] at he
  have hlf := z.len
  obtain ⟨K, hK⟩ : ∃ K : Heap, K = [Ob.cells [.arr (f.map cN)]] := ⟨_, rfl⟩
  have hb : evBox [] [.arr (f.map cN)] = some (.ptr 0 0, K) := by rw [hK]; simp [evBox, V.isCell]
  have c1 : cellsAt K (.ptr 0 0) = some [.arr (f.map cN)] := by rw [hK]; rfl
  have hcc : (V.agg [V.arr (f.map cN)]).cells = [.arr (f.map cN)] := rfl
  have i1 := vZC.1 hi
  have i2 := vZC.1 (right_doc R hi)
  have hA := fun X => vZr f h hlf i1.1 i1.2 X
  have hD := fun X => vZr f _ hlf i2.1 i2.2 X
  simp only [eF, eN] at hA hD
  have st := fun cs (hl : cs.length = 16) => jZM (H := K) (cs := cs) (n := 16) (.agg (cN (at_ f h))) hl rfl rfl
  obtain ⟨K2, hK2⟩ : ∃ K2, K2 = K ++ [.cells (cN (at_ f h))] := ⟨_, rfl⟩
  have st1 := st zN rfl
  have hc2 : (V.agg (cN (at_ f h))).cells = cN (at_ f h) := rfl
  simp only [hc2, zN] at st1
  rw [← hK2] at st1
  have c2 : cellsAt K2 (.ptr 0 0) = some [.arr (f.map cN)] := by rw [hK2, hK]; rfl
  have cn : ∀ off, cellsAt K2 (.ptr K.length off) = some ((cN (at_ f h)).drop off) := fun off => by rw [hK2]; exact vZN _ _ _
  clear hK st hK2
  cases b1 : beqS (at_ f h).name.sp spHTML
  ·have e : htmlE f h = false := by simp [htmlE, b1]
   rw [e]
   simp only [spHTML] at b1
   simp [qZB.c, qZB.r0, qZB.r1, qZB.r2, g0, g1, he, hcc, hb, c1, hA, ofCells, st1, cn, okNt, evPick, b1]
  ·have e : htmlE f h = (at_ f (at_ f h).doc).html := by simp [htmlE, b1]
   rw [e]
   simp only [spHTML] at b1
   simp [qZB.c, qZB.r0, qZB.r1, qZB.r2, g0, g1, he, hcc, hb, c1, c2, hA, hD, ofCells, st1, cn, okNt, fieldN15, evPick, b1]
 obtain ⟨h', hb⟩ := this
 exact zZ4 (h := H) qZB.Φ rfl (args := [eF f, .int .i64 h]) rfl hb rfl
theorem kZE (f : List Nd) (z : Sz f) (h : Int) (q : ByteArray) (hq : q.size ≤ roomB) (R : right f = true) (hi : is_ f h = true) (H : Heap) : callW Φ qZc [eF f, .int .i64 h, .str q] H = some (.str (askV f h q), H) := by
 have : ∃ hh, evBodyW (callW Φ) qZc.c [eF f, .int .i64 h, .str q] [] = some (.str (askV f h q), hh) := by
  refine qZ3 (Nat.le_of_ble_eq_true rfl) (fun env he h0 => ?_)
  have g0 := h0 0 (by simp)
  change eget env 0 = .agg [.arr (f.map cN)] at g0
  have g1 := h0 1 (by simp)
  change eget env 1 = .int .i64 h at g1
  have g2 := h0 2 (by simp)
  change eget env 2 = .str q at g2
  clear h0
  simp [qZc.c] at he
  obtain ⟨K, hK⟩ : ∃ K : Heap, K = [Ob.cells [.arr (f.map cN)]] := ⟨_, rfl⟩
  have hb : evBox [] [.arr (f.map cN)] = some (.ptr 0 0, K) := by rw [hK]; simp [evBox, V.isCell]
  have c1 : cellsAt K (.ptr 0 0) = some [.arr (f.map cN)] := by rw [hK]; rfl
  have hcc : (V.agg [V.arr (f.map cN)]).cells = [.arr (f.map cN)] := rfl
  have hH := xZo f z h R hi K
  have hL := lower_r q hq K
  simp only [eF] at hH
  cases b1 : htmlE f h
  ·have e : askV f h q = q := by simp [askV, b1]
   rw [e]
   rw [b1] at hH
   simp [qZc.c, qZc.r0, qZc.r1, qZc.r2, qZc.r3, g0, g1, g2, he, hcc, hb, c1, hH, ofCells]
  ·have e : askV f h q = lowS q := by simp [askV, b1]
   rw [e]
   rw [b1] at hH
   simp [qZc.c, qZc.r0, qZc.r1, qZc.r2, qZc.r3, g0, g1, g2, he, hcc, hb, c1, hH, hL, ofCells]
 obtain ⟨h', hb⟩ := this
 exact zZ4 (h := H) qZc.Φ rfl (args := [eF f, .int .i64 h, .str q]) rfl hb rfl
open Go Go.Ev
def SzA (f : List Nd) : Prop := ∀ m ∈ f, ∀ a ∈ m.attrs, SzN a.nm
theorem SzA.at {f : List Nd} (z : SzA f) (h : Int) : ∀ a ∈ ats f h, SzN a.nm := by
 intro a ha
 rcases at_mem (f := f) h with e | e
 ·rw [ats, e] at ha; cases ha
 ·exact z _ e a ha
def isQ (q : ByteArray) (a : Atr) : Bool := beqS (qual a.nm) q
def isN (s l : ByteArray) (a : Atr) : Bool := beqS a.nm.sp s && beqS a.nm.lo l
theorem jZQ (f : List Nd) (z : Sz f) (h : Int) (q : ByteArray) (hq : q.size ≤ roomB) (l : List Atr) (hz : ∀ a ∈ l, SzN a.nm) (H : Heap) : ∃ r h', callW Φ (.fn (.func qZp.k) [] []) [eF f, .int .i64 h, .str q] H = some (r, h') ∧ (fun r h' => Gr H h' ∧ Tells1 r (isQ (askV f h q)) l h' ∧ r.isCell = true ∧ r.cells = [r]) r h' := by
 obtain ⟨P, hP⟩ : ∃ P : V → Heap → Prop, P = fun r h' => Gr H h' ∧ Tells1 r (isQ (askV f h q)) l h' ∧ r.isCell = true ∧ r.cells = [r] := ⟨_, rfl⟩
 suffices hgo : ∃ r h', callW Φ (.fn (.func qZp.k) [] []) [eF f, .int .i64 h, .str q] H = some (r, h') ∧ P r h' by rw [hP] at hgo; exact hgo
 have hPi : ∀ r h', (fun r h' => Gr H h' ∧ Tells1 r (isQ (askV f h q)) l h' ∧ r.isCell = true ∧ r.cells = [r]) r h' → P r h' := fun r h' q => by rw [hP]; exact q
 clear hP
 refine jZY qZp.Φ rfl (Nat.le_of_ble_eq_true rfl) (fun env he h0 => ?_)
 have g0 := h0 0 (by simp)
 change eget env 0 = .agg [.arr (f.map cN)] at g0
 have g1 := h0 1 (by simp)
 change eget env 1 = .int .i64 h at g1
 have g2 := h0 2 (by simp)
 change eget env 2 = .str q at g2
 clear h0
 simp [qZp.c] at he
 have b0 : evBox H [.arr (f.map cN)] = some (.ptr H.length 0, H ++ [.cells [.arr (f.map cN)]]) := jZT _ _ rfl
 have hcc : (V.agg [V.arr (f.map cN)]).cells = [.arr (f.map cN)] := rfl
 obtain ⟨H1, hH1⟩ : ∃ H1, H1 = H ++ [.cells [.arr (f.map cN)]] := ⟨_, rfl⟩
 have G1 : Gr H H1 := by rw [hH1]; exact Gr.push _ _
 have cl : cellsAt H1 (.ptr H.length 0) = some [.arr (f.map cN)] := by rw [hH1]; exact vZN _ _ 0
 rw [← hH1] at b0
 have hA := kZt f z h q hq H1
 simp only [eF] at hA
 have st := jZM (H := H1) (cs := [.str ⟨#[]⟩]) (n := 1) (.str (askV f h q)) rfl rfl rfl
 have fin := hPi (.fn (.func zZZ.k) [] [.ptr H1.length 0]) (H1 ++ [.cells [.str (askV f h q)]]) ⟨G1.trans (Gr.push _ _), fun a ha S hS => by
  obtain ⟨r, h', h1, rfl, h2⟩ := jZg a (hz a ha) H1.length (askV f h q) S (hS.at (by simp))
  exact ⟨h', h1, h2⟩, rfl, rfl⟩
 have hc2 : (V.str (askV f h q)).cells = [V.str (askV f h q)] := rfl
 rw [hc2] at st
 simp [qZp.c, qZp.r0, qZp.r1, qZp.r2, g0, g1, g2, he, hcc, b0, cl, ofCells, hA, st, fin]
theorem jZu (s q : ByteArray) (l : List Atr) (H : Heap) : ∃ r h', callW Φ (.fn (.func qZr.k) [] []) [.str s, .str q] H = some (r, h') ∧ (fun r h' => Gr H h' ∧ Tells1 r (isN s q) l h' ∧ r.isCell = true ∧ r.cells = [r]) r h' := by
 obtain ⟨P, hP⟩ : ∃ P : V → Heap → Prop, P = fun r h' => Gr H h' ∧ Tells1 r (isN s q) l h' ∧ r.isCell = true ∧ r.cells = [r] := ⟨_, rfl⟩
 suffices hgo : ∃ r h', callW Φ (.fn (.func qZr.k) [] []) [.str s, .str q] H = some (r, h') ∧ P r h' by rw [hP] at hgo; exact hgo
 have hPi : ∀ r h', (fun r h' => Gr H h' ∧ Tells1 r (isN s q) l h' ∧ r.isCell = true ∧ r.cells = [r]) r h' → P r h' := fun r h' q => by rw [hP]; exact q
 clear hP
 refine jZY qZr.Φ rfl (Nat.le_of_ble_eq_true rfl) (fun env he h0 => ?_)
 have g0 := h0 0 (by simp)
 change eget env 0 = .str s at g0
 have g1 := h0 1 (by simp)
 change eget env 1 = .str q at g1
 clear h0
 simp [qZr.c] at he
 have b0 : evBox H [.str s] = some (.ptr H.length 0, H ++ [.cells [.str s]]) := jZT _ _ rfl
 have b1 : evBox (H ++ [.cells [.str s]]) [.str q] = some (.ptr (H.length + 1) 0, H ++ [.cells [.str s]] ++ [.cells [.str q]]) := by have := jZT (H ++ [.cells [.str s]]) [.str q] rfl; simpa using this
 have hs : (V.str s).cells = [V.str s] := rfl
 have hq : (V.str q).cells = [V.str q] := rfl
 obtain ⟨H1, hH1⟩ : ∃ H1, H1 = H ++ [.cells [.str s]] ++ [.cells [.str q]] := ⟨_, rfl⟩
 have p0 : H1[H.length]? = some (.cells [.str s]) := by rw [hH1]; simp
 have p1 : H1[H.length + 1]? = some (.cells [.str q]) := by rw [hH1]; simp
 have G1 : Gr H H1 := by rw [hH1, List.append_assoc]; exact Gr.push _ _
 rw [← hH1] at b1
 have fin := hPi (.fn (.func zZ6.k) [] [.ptr H.length 0, .ptr (H.length + 1) 0]) H1 ⟨G1, fun a ha S hS => by
  obtain ⟨r, h', h1, rfl, h2⟩ := jZb a H.length (H.length + 1) s q S (hS.at p0) (hS.at p1)
  exact ⟨h', h1, h2⟩, rfl, rfl⟩
 simp [qZr.c, qZr.r0, qZr.r1, g0, g1, he, hs, hq, b0, b1, fin]
/-! ### Places, by the book -/
theorem kZG (f : List Nd) (z : Sz f) (za : SzA f) (h : Int) (q : ByteArray) (hq : q.size ≤ roomB) (R : right f = true) (hi : is_ f h = true) (H : Heap) : callW Φ zZA [eF f, .int .i64 h, .str q] H = some (.int .i64 (idx (isQ (askV f h q)) (ats f h) 0), H) := by
 have : ∃ hh, evBodyW (callW Φ) zZA.c [eF f, .int .i64 h, .str q] [] = some (.int .i64 (idx (isQ (askV f h q)) (ats f h) 0), hh) := by
  refine qZ3 (Nat.le_of_ble_eq_true rfl) (fun env he h0 => ?_)
  have g0 := h0 0 (by simp)
  change eget env 0 = .agg [.arr (f.map cN)] at g0
  have g1 := h0 1 (by simp)
  change eget env 1 = .int .i64 h at g1
  have g2 := h0 2 (by simp)
  change eget env 2 = .str q at g2
  clear h0
  simp [zZA.c] at he
  have hlf := z.len
  obtain ⟨K, hK⟩ : ∃ K : Heap, K = [Ob.cells [.arr (f.map cN)]] := ⟨_, rfl⟩
  have hb : evBox [] [.arr (f.map cN)] = some (.ptr 0 0, K) := by rw [hK]; simp [evBox, V.isCell]
  have c1 : cellsAt K (.ptr 0 0) = some [.arr (f.map cN)] := by rw [hK]; rfl
  have hcc : (V.agg [V.arr (f.map cN)]).cells = [.arr (f.map cN)] := rfl
  have i1 := vZC.1 hi
  have hA := fun X => vZr f h hlf i1.1 i1.2 X
  have hQ := kZE f z h q hq R hi K
  have hq2 := za.at h
  have zl := ats_len z h
  obtain ⟨l, hl⟩ : ∃ l, l = ats f h := ⟨_, rfl⟩
  have hl' : (at_ f h).attrs = l := hl.symm
  rw [← hl] at hq2 zl ⊢
  obtain ⟨k, hk⟩ : ∃ k, k = askV f h q := ⟨_, rfl⟩
  simp only [eF, eN, ← hk] at hA hQ ⊢
  clear hK hl hk
  simp [zZA.c, zZA.r0, zZA.r1, zZA.r2, zZA.r3, zZA.r9, g0, g1, g2, he, hcc, hb, c1, hA, fieldN7, hl', ofCells, hQ]
  refine kLoop (fun m s => ∃ i : Nat, m = l.length - i ∧ i ≤ l.length ∧ eget s.env 7 = .arr (l.map cA) ∧ eget s.env 8 = .str k ∧ eget s.env 9 = .int .i64 i ∧ s.env.length = 33 ∧ s.marks = [] ∧ s.heap = K ∧ idx (isQ k) l 0 = idx (isQ k) (l.drop i) i) l.length
   ⟨0, rfl, by omega, by simp [he], by simp [he], by simp [he], by simpa using he, rfl, rfl, rfl⟩ ?_
  rintro m ⟨env, mk, S⟩ ⟨i, rfl, hi, k7, k8, k9, hl, hm, hS, hw⟩
  simp only at k7 k8 k9 hl hm hS
  obtain rfl := hm
  obtain rfl := hS
  by_cases c : i < l.length
  ·have c2 : (i : Int) < l.length := by omega
   obtain ⟨x, hx⟩ : ∃ x, l[i]? = some x := ⟨_, List.getElem?_eq_getElem c⟩
   have ia := qZU (h := S) (k := .i64) wZr hx
   have wr := wrap64 (n := (i : Int) + 1) (by omega) (by omega)
   have hN := vZ3 x.nm (hq2 x (List.mem_of_getElem? hx)) S
   have fa : okV S (faddrV 0 (.iptr (cA x))) = some (.iptr (cA x), S) := by simp [faddrV, okV]
   have ca : okCells S (some 3) (some (cA x)) = some (.agg [.str x.nm.sp, .str x.nm.pr, .str x.nm.lo], S) := rfl
   rw [vZI hx] at hw
   simp only [idx] at hw
   cases cx : beqS (qual x.nm) k
   ·have cx' : isQ k x = false := cx
    simp only [cx', Bool.false_eq_true, if_false] at hw
    simp [zZA.b8, zZA.r4, zZA.r5, zZA.r6, zZA.r7, k7, k8, k9, hl, vZY, c2, ia, fa, ca, hN, cx, wr]
    exact ⟨l.length - (i + 1), by omega, i + 1, rfl, by omega, by simp, hw⟩
   ·have cx' : isQ k x = true := cx
    simp only [cx', if_true] at hw
    rw [hw]
    simp [zZA.c, zZA.r0, zZA.r1, zZA.r2, zZA.r3, zZA.r9, zZA.b8, zZA.r4, zZA.r5, zZA.r6, zZA.r7, k7, k8, k9, hl, vZY, c2, ia, fa, ca, hN, cx]
  ·have c2 : ¬ (i : Int) < l.length := by omega
   rw [List.drop_eq_nil_of_le (by omega)] at hw
   simp only [idx] at hw
   rw [hw]
   simp [zZA.c, zZA.r0, zZA.r1, zZA.r2, zZA.r3, zZA.r9, zZA.b8, zZA.r4, zZA.r5, zZA.r6, zZA.r7, k7, k8, k9, hl, vZY, c2]
 obtain ⟨h', hb⟩ := this
 exact zZ4 (h := H) zZA.Φ rfl (args := [eF f, .int .i64 h, .str q]) rfl hb rfl
theorem buildN (X : Heap) (s l : ByteArray) : evBuild X [.str ⟨#[]⟩, .str ⟨#[]⟩, .str ⟨#[]⟩] [(0, 1, .str s), (2, 1, .str l)] = some (.agg [.str s, .str ⟨#[]⟩, .str l], X) := by
 simp [evBuild, placeParts, V.cells, V.isCell, setRange]
theorem jZI (f : List Nd) (z : Sz f) (h : Int) (s q : ByteArray) (R : right f = true) (hi : is_ f h = true) (H : Heap) : callW Φ qZv [eF f, .int .i64 h, .str s, .str q] H = some (.int .i64 (idx (isN s q) (ats f h) 0), H) := by
 have : ∃ hh, evBodyW (callW Φ) qZv.c [eF f, .int .i64 h, .str s, .str q] [] = some (.int .i64 (idx (isN s q) (ats f h) 0), hh) := by
  refine qZ3 (Nat.le_of_ble_eq_true rfl) (fun env he h0 => ?_)
  have g0 := h0 0 (by simp)
  change eget env 0 = .agg [.arr (f.map cN)] at g0
  have g1 := h0 1 (by simp)
  change eget env 1 = .int .i64 h at g1
  have g2 := h0 2 (by simp)
  change eget env 2 = .str s at g2
  have g3 := h0 3 (by simp)
  change eget env 3 = .str q at g3
  clear h0
  simp [qZv.c] at he
  have hlf := z.len
  obtain ⟨K, hK⟩ : ∃ K : Heap, K = [Ob.cells [.arr (f.map cN)]] := ⟨_, rfl⟩
  have hb : evBox [] [.arr (f.map cN)] = some (.ptr 0 0, K) := by rw [hK]; simp [evBox, V.isCell]
  have c1 : cellsAt K (.ptr 0 0) = some [.arr (f.map cN)] := by rw [hK]; rfl
  have hcc : (V.agg [V.arr (f.map cN)]).cells = [.arr (f.map cN)] := rfl
  have i1 := vZC.1 hi
  have hA := fun X => vZr f h hlf i1.1 i1.2 X
  have hF := fun X => wZZ (ats f h) ⟨s, ⟨#[]⟩, q⟩ (ats_len z h) X
  simp only [eF, eN, eAs, eNm, ats, find_idx] at hA hF
  simp only [show (fun a : Atr => beqS a.nm.sp s && beqS a.nm.lo q) = isN s q from rfl] at hF
  simp [qZv.c, qZv.r0, qZv.r1, g0, g1, g2, g3, he, hcc, hb, c1, hA, fieldN7, ofCells, buildN, hF, ats]
 obtain ⟨h', hb⟩ := this
 exact zZ4 (h := H) qZv.Φ rfl (args := [eF f, .int .i64 h, .str s, .str q]) rfl hb rfl
theorem wZO (f : List Nd) (z : Sz f) (h : Int) (p : Atr → Bool) (R : right f = true) (hi : is_ f h = true) (H : Heap) : callW Φ qZd [eF f, .int .i64 h, .int .i64 (idx p (ats f h) 0)] H = some (valV (ats f h) (idx p (ats f h) 0), H) := by
 refine vZw qZd.Φ rfl (args := [eF f, .int .i64 h, .int .i64 (idx p (ats f h) 0)]) rfl ?_
 obtain ⟨P, hP⟩ : ∃ P : V → Heap → Prop, P = fun r h2 => ∃ h3, fz fzDepth h2 r = some (valV (ats f h) (idx p (ats f h) 0), h3) := ⟨_, rfl⟩
 suffices hgo : ∃ r h', evBodyW (callW Φ) qZd.c [eF f, .int .i64 h, .int .i64 (idx p (ats f h) 0)] [] = some (r, h') ∧ P r h' by rw [hP] at hgo; exact hgo
 have hPz : ∀ r h2 h3, fz fzDepth h2 r = some (valV (ats f h) (idx p (ats f h) 0), h3) → P r h2 := fun r h2 h3 hz => by rw [hP]; exact ⟨h3, hz⟩
 have hPn : ∀ r h2, flatN2 r = true → nz2 r = valV (ats f h) (idx p (ats f h) 0) → P r h2 := fun r h2 h h1 => hPz r h2 h2 (by rw [← h1]; exact vZe h)
 clear hP
 refine vZU (Nat.le_of_ble_eq_true rfl) (fun env he h0 => ?_)
 have g0 := h0 0 (by simp)
 change eget env 0 = .agg [.arr (f.map cN)] at g0
 have g1 := h0 1 (by simp)
 change eget env 1 = .int .i64 h at g1
 have g2 := h0 2 (by simp)
 change eget env 2 = .int .i64 (idx p (ats f h) 0) at g2
 clear h0
 simp [qZd.c] at he
 have hlf := z.len
 obtain ⟨K, hK⟩ : ∃ K : Heap, K = [Ob.cells [.arr (f.map cN)]] := ⟨_, rfl⟩
 have hb : evBox [] [.arr (f.map cN)] = some (.ptr 0 0, K) := by rw [hK]; simp [evBox, V.isCell]
 have c1 : cellsAt K (.ptr 0 0) = some [.arr (f.map cN)] := by rw [hK]; rfl
 have hcc : (V.agg [V.arr (f.map cN)]).cells = [.arr (f.map cN)] := rfl
 have i1 := vZC.1 hi
 have hA := fun X => vZr f h hlf i1.1 i1.2 X
 simp only [eF, eN] at hA
 have hbd := xZb p (ats f h) 0
 obtain ⟨i, hi⟩ : ∃ i, i = idx p (ats f h) 0 := ⟨_, rfl⟩
 rw [← hi] at hbd g2 hPn
 have fin := hPn (valV (ats f h) i)
 rcases hbd with h1 | ⟨h1, h2⟩
 ·have c : i < 0 := by omega
  have e : valV (ats f h) i = .tup [.str ⟨#[]⟩, .bool false, .int .i64 0] := by simp only [valV, c, if_true]
  rw [e] at fin
  have fin := fin K rfl rfl
  simp [qZd.c, qZd.r0, qZd.r1, qZd.r2, qZd.r3, g0, g1, g2, he, hcc, hb, c, fin]
 ·have c : ¬ i < 0 := by omega
  obtain ⟨a, ha⟩ : ∃ a, (ats f h)[i.toNat]? = some a := ⟨_, List.getElem?_eq_getElem (by omega)⟩
  have ha' : (at_ f h).attrs[i.toNat]? = some a := ha
  have e : valV (ats f h) i = .tup [.str a.val, .bool true, .int .i64 0] := by simp only [valV, c, if_false, ha]
  rw [e] at fin
  have fin := fin K rfl rfl
  have ia := vZy (h := K) (k := .i64) wZr (show 0 ≤ i by omega) ha'
  have fa : okV K (faddrV 3 (.iptr (cA a))) = some (.iptr [.str a.val], K) := by simp [faddrV, cA, okV]
  have ca : okCells K none (some [.str a.val]) = some (.str a.val, K) := rfl
  simp [qZd.c, qZd.r0, qZd.r1, qZd.r2, qZd.r3, g0, g1, g2, he, hcc, hb, c1, hA, fieldN7, ofCells, c, ia, fa, ca, fin]
/-! ### Get, GetNS, Reflect -/
def getV (f : List Nd) (h : Int) (p : Atr → Bool) : V := if wrongV f h = 0 then valV (ats f h) (idx p (ats f h) 0) else .tup [.str ⟨#[]⟩, .bool false, .int .i64 (wrongV f h)]
theorem xZt (l : List Atr) (i : Int) : ∃ s b, valV l i = .tup [.str s, .bool b, .int .i64 0] := by
 unfold valV
 split
 ·exact ⟨_, _, rfl⟩
 ·split <;> exact ⟨_, _, rfl⟩
theorem getV_is (f : List Nd) (h : Int) (p : Atr → Bool) : ∃ s b n, getV f h p = .tup [.str s, .bool b, .int .i64 n] := by
 unfold getV
 split
 ·obtain ⟨s, b, h⟩ := xZt (ats f h) (idx p (ats f h) 0)
  exact ⟨s, b, 0, h⟩
 ·exact ⟨_, _, _, rfl⟩
theorem xZw (f : List Nd) (z : Sz f) (za : SzA f) (h : Int) (q : ByteArray) (hq : q.size ≤ roomB) (H : Heap) : callW Φ qZi [eF f, .int .i64 h, .str q] H = some (getV f h (isQ (askV f h q)), H) := by
 refine vZw qZi.Φ rfl (args := [eF f, .int .i64 h, .str q]) rfl ?_
 obtain ⟨P, hP⟩ : ∃ P : V → Heap → Prop, P = fun r h2 => ∃ h3, fz fzDepth h2 r = some (getV f h (isQ (askV f h q)), h3) := ⟨_, rfl⟩
 suffices hgo : ∃ r h', evBodyW (callW Φ) qZi.c [eF f, .int .i64 h, .str q] [] = some (r, h') ∧ P r h' by rw [hP] at hgo; exact hgo
 have hPz : ∀ r h2 h3, fz fzDepth h2 r = some (getV f h (isQ (askV f h q)), h3) → P r h2 := fun r h2 h3 hz => by rw [hP]; exact ⟨h3, hz⟩
 have hPn : ∀ r h2, flatN2 r = true → nz2 r = getV f h (isQ (askV f h q)) → P r h2 := fun r h2 h h1 => hPz r h2 h2 (by rw [← h1]; exact vZe h)
 clear hP
 refine vZU (Nat.le_of_ble_eq_true rfl) (fun env he h0 => ?_)
 have g0 := h0 0 (by simp)
 change eget env 0 = .agg [.arr (f.map cN)] at g0
 have g1 := h0 1 (by simp)
 change eget env 1 = .int .i64 h at g1
 have g2 := h0 2 (by simp)
 change eget env 2 = .str q at g2
 clear h0
 simp [qZi.c] at he
 obtain ⟨K, hK⟩ : ∃ K : Heap, K = [Ob.cells [.arr (f.map cN)]] := ⟨_, rfl⟩
 have hb : evBox [] [.arr (f.map cN)] = some (.ptr 0 0, K) := by rw [hK]; simp [evBox, V.isCell]
 have c1 : cellsAt K (.ptr 0 0) = some [.arr (f.map cN)] := by rw [hK]; rfl
 have hk0 : K[0]? = some (.cells [.arr (f.map cN)]) := by rw [hK]; rfl
 have hcc : (V.agg [V.arr (f.map cN)]).cells = [.arr (f.map cN)] := rfl
 have hW := vZW f z h K
 obtain ⟨g, K1, hB, G1, T1, hg1, hg2⟩ := jZQ f z h q hq (ats f h) (za.at h) K
 obtain ⟨r, K2, hG, rfl, G2⟩ := jZc f z h (isQ (askV f h q)) g K1 T1
 have c2 : cellsAt K1 (.ptr 0 0) = some [.arr (f.map cN)] := jZz (G1.at hk0) 0
 have fin := hPn (getV f h (isQ (askV f h q)))
 clear hK
 by_cases w : wrongV f h = 0
 ·have e : getV f h (isQ (askV f h q)) = valV (ats f h) (idx (isQ (askV f h q)) (ats f h) 0) := by simp [getV, w]
  obtain ⟨s, b, e2⟩ := xZt (ats f h) (idx (isQ (askV f h q)) (ats f h) 0)
  rw [e2] at e hG
  rw [e] at fin
  have fin := fin K2 rfl rfl
  rw [w] at hW
  simp only [eF] at hW hB hG
  simp [qZi.c, qZi.r0, qZi.r1, qZi.r2, qZi.r3, g0, g1, g2, he, hcc, hb, c1, ofCells, hW]
  refine kEnv fun env2 hE => ?_
  have j1 : eget env2 1 = .int .i64 h := by rw [hE]; simp [g1]
  have j2 : eget env2 2 = .str q := by rw [hE]; simp [g2]
  have j3 : eget env2 3 = .ptr 0 0 := by rw [hE]; simp [he]
  have jl : env2.length = 26 := by rw [hE]; simp [he]
  clear hE
  refine kDrawW qZi.r4.ord ?_
  simp [qZi.r4, List.filterMap_cons, j1, j2, j3, jl, c1, c2, ofCells, hB, hG, evExt, fin]
  simp only [jZa, wZf, List.cons_append, List.nil_append]
  repeat' apply And.intro
  all_goals exact wZ8 _ rfl rfl rfl rfl
 ·have e : getV f h (isQ (askV f h q)) = .tup [.str ⟨#[]⟩, .bool false, .int .i64 (wrongV f h)] := by simp [getV, w]
  rw [e] at fin
  have fin := fin K rfl rfl
  have w' : (wrongV f h != 0) = true := by simp [bne, w]
  simp only [eF] at hW
  simp [qZi.c, qZi.r0, qZi.r1, qZi.r2, qZi.r3, g0, g1, g2, he, hcc, hb, c1, ofCells, hW, w', fin]
end Go.Proofs.It
