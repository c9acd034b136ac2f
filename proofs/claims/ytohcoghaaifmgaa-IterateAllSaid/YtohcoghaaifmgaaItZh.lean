/- Faults, siblings, ends of kids. No conditions. -/
import Derived.Test.YtohcoghaaifmgaaItZe
import Derived.Test.YtohcoghaaifmgaaItZg
import Derived.Test.YtohcoghaaifmgaaItO
set_option maxHeartbeats 16000000
set_option maxRecDepth 100000
set_option linter.unusedVariables false
set_option linter.unusedSimpArgs false
set_option linter.unusedSectionVars false
namespace Go.Proofs.It
open Go Go.Ev
theorem row_arg {fn : FuncId} {cf : Cf} (hf : Φ fn = some cf) (hp : cf.pure = true) {args : List V} (ha : args.all flat2 = true) {l : List Int} {r : V} (hs : ∀ H, callW Φ (.fn (.func fn) [] []) (args ++ [eI l]) H = some (r, H)) (H : Heap) :
  callW Φ (.fn (.func fn) [] []) (args ++ [.sl H.length 0 0 l.length]) (H ++ [Ob.row 1 (l.map cI) 0 true]) = some (r, H ++ [Ob.row 1 (l.map cI) 0 false]) := by
 have hr : (H ++ [Ob.row 1 (l.map cI) 0 true])[H.length]? = some (.row 1 (l.map cI) 0 true) := by simp
 have hz := fz_sl (d := 62) (off := 0) (len := l.length) hr (by simp) (fun e he => by
  obtain ⟨s, _, rfl⟩ := List.mem_map.1 he
  rfl)
 have e1 : ((l.map cI).drop 0).take l.length = l.map cI := by rw [List.drop_zero]; exact List.take_of_length_le (by simp)
 have e2 : (H ++ [Ob.row 1 (l.map cI) 0 true]).set H.length (Ob.row 1 (l.map cI) 0 false) = H ++ [Ob.row 1 (l.map cI) 0 false] := by simp [List.set_append]
 rw [e1, e2] at hz
 have hz' : fz fzDepth (H ++ [Ob.row 1 (l.map cI) 0 true]) (.sl H.length 0 0 l.length) = some (.arr (l.map cI), H ++ [Ob.row 1 (l.map cI) 0 false]) := hz
 have happ : ∀ (l1 : List V) (h : Heap), l1.all flat2 = true → ∀ (x y : V) (h' : Heap), fz fzDepth h x = some (y, h') → mapH (fz fzDepth) h (l1 ++ [x]) = some (l1 ++ [y], h') := by
  intro l1
  induction l1 with
  | nil => intro h _ x y h' hx; simp only [List.nil_append, mapH, hx]
  | cons a l1 ih =>
   intro h hall x y h' hx
   simp only [List.all_cons, Bool.and_eq_true] at hall
   simp only [List.cons_append, mapH, fz_flat2 hall.1, ih h hall.2 x y h' hx]
 refine jZP (Φ := Φ) hf hp ?_ (happ args _ ha _ _ _ hz') (hs [])
 simp only [List.all_append, ha, Bool.true_and]
 rfl
def inF (f : List Nd) : List Int → Bool
 | [] => true
 | x :: l => is_ f x && inF f l
def faultL (f : List Nd) (l : List Int) : Int := if right f then (if inF f l then 0 else 2) else 5
theorem flatF (f : List Nd) : flat2 (eF f) = true := by simp [flat2, flat, eF, scal]
theorem wZY (f : List Nd) (z : Sz f) (l : List Int) (hlen : l.length < 2 ^ 50) (H : Heap) : callW Φ zZM [eF f, eI l] H = some (.int .i64 (faultL f l), H) := by
 have : ∃ hh, evBodyW (callW Φ) zZM.c [eF f, eI l] [] = some (.int .i64 (faultL f l), hh) := by
  have hlf := z.len
  obtain ⟨K, hK⟩ : ∃ K : Heap, K = [Ob.cells [.arr (f.map cN)]] := ⟨_, rfl⟩
  have hb : evBox [] [.arr (f.map cN)] = some (.ptr 0 0, K) := by rw [hK]; simp [evBox, V.isCell]
  have c0 : cellsAt K (.ptr 0 0) = some [.arr (f.map cN)] := by rw [hK]; rfl
  obtain ⟨n, hC⟩ := jZW f z K
  refine qZE (Nat.le_of_ble_eq_true rfl) (fun env he h0 => ?_)
  have g0 := h0 0 (by simp)
  have g1 := h0 1 (by simp)
  change eget env 0 = .agg [.arr (f.map cN)] at g0
  change eget env 1 = .arr (l.map cI) at g1
  clear h0
  simp [zZM.c] at he
  have hcc : (V.agg [V.arr (f.map cN)]).cells = [.arr (f.map cN)] := rfl
  simp only [eF] at hC
  cases hr : right f with
  | false =>
   have hw : whyR f = 5 := by simp [whyR, hr]
   have hF : faultL f l = 5 := by simp [faultL, hr]
   rw [hw] at hC
   rw [hF]
   simp [zZM.c, zZM.r0, zZM.r1, zZM.r2, zZM.r3, g0, he, hcc, hb, c0, hC, evExt, ofCells]
  | true =>
   have hw : whyR f = 0 := by simp [whyR, hr]
   have hF : faultL f l = if inF f l then 0 else 2 := by simp [faultL, hr]
   rw [hw] at hC
   rw [hF]
   simp [zZM.c, zZM.r0, zZM.r1, zZM.r2, zZM.r4, g0, g1, he, hcc, hb, c0, hC, evExt, ofCells]
   refine kLoop (fun m s => ∃ i : Nat, m = l.length - i ∧ i ≤ l.length ∧ s.env.length = 33 ∧ eget s.env 2 = .ptr 0 0 ∧ eget s.env 17 = .arr (l.map cI) ∧ eget s.env 18 = .int .i64 l.length ∧ eget s.env 19 = .int .i64 i ∧ s.marks = [] ∧ s.heap = K ∧ inF f l = inF f (l.drop i)) l.length ⟨0, by simp [he, g1]⟩ ?_
   rintro m ⟨e, mk, hp⟩ ⟨i, rfl, hi, he, k2, k17, k18, k19, hm, hh, hat⟩
   simp only at he k2 k17 k18 k19 hm hh
   obtain rfl := hm
   obtain rfl := hh
   by_cases hlt : i < l.length
   ·obtain ⟨x, hx⟩ : ∃ x, l[i]? = some x := ⟨_, List.getElem?_eq_getElem hlt⟩
    have hw : IntKind.i64.wrap ((i : Int) + 1) = ((i + 1 : Nat) : Int) := by rw [Ev.wrap64] <;> omega
    have ha1 := qZj (h := hp) (k := .i64) qZY hx
    rw [vZe hx] at hat
    simp only [inF] at hat
    by_cases h1 : x < 1
    ·have hi : is_ f x = false := by rw [← Bool.not_eq_true, vZt]; omega
     rw [hi, Bool.false_and] at hat
     rw [hat]
     simp [zZM.b10, zZM.r5, zZM.r6, zZM.r7, zZM.r8, k2, k17, k18, k19, he, hlt, ha1, cellI, h1, evPick]
    ·by_cases h2 : (f.length : Int) < x
     ·have hi : is_ f x = false := by rw [← Bool.not_eq_true, vZt]; omega
      rw [hi, Bool.false_and] at hat
      rw [hat]
      simp [zZM.b10, zZM.r5, zZM.r6, zZM.r7, zZM.r8, k2, k17, k18, k19, he, hlt, ha1, cellI, h1, h2, evPick, faddrP, c0]
     ·have hi : is_ f x = true := by rw [vZt]; omega
      rw [hi, Bool.true_and] at hat
      simp [zZM.b10, zZM.r5, zZM.r6, zZM.r7, zZM.r9, k2, k17, k18, k19, he, hlt, ha1, cellI, h1, h2, evPick, faddrP, c0]
      exact ⟨l.length - (i + 1), by omega, i + 1, rfl, by omega, by simpa using hw, by simpa using hat⟩
   ·have : i = l.length := by omega
    subst this
    rw [List.drop_length] at hat
    simp only [inF] at hat
    rw [hat]
    simp [zZM.b10, zZM.r5, zZM.r11, k18, k19, he]
 obtain ⟨h', hb⟩ := this
 exact zZQ (h := H) zZM.Φ rfl (args := [eF f, eI l]) rfl hb rfl
theorem jZb (f : List Nd) (z : Sz f) (l : List Int) (hlen : l.length < 2 ^ 50) (H : Heap) : callW Φ zZM [eF f, .sl H.length 0 0 l.length] (H ++ [Ob.row 1 (l.map cI) 0 true]) = some (.int .i64 (faultL f l), H ++ [Ob.row 1 (l.map cI) 0 false]) :=
 row_arg zZM.Φ rfl (args := [eF f]) (by simp [flatF]) (wZY f z l hlen) H
theorem kZu (f : List Nd) (z : Sz f) (l : List Int) (hlen : l.length < 2 ^ 50) (H : Heap) : callW Φ zZL [eF f, eI l] H = some (.int .i64 (faultL f l), H) := by
 have : ∃ hh, evBodyW (callW Φ) zZL.c [eF f, eI l] [] = some (.int .i64 (faultL f l), hh) := by
  have hlf := z.len
  obtain ⟨K, hK⟩ : ∃ K : Heap, K = [Ob.cells [.arr (f.map cN)]] := ⟨_, rfl⟩
  have hb : evBox [] [.arr (f.map cN)] = some (.ptr 0 0, K) := by rw [hK]; simp [evBox, V.isCell]
  have c0 : cellsAt K (.ptr 0 0) = some [.arr (f.map cN)] := by rw [hK]; rfl
  have hC := vZS f z K
  refine qZE (Nat.le_of_ble_eq_true rfl) (fun env he h0 => ?_)
  have g0 := h0 0 (by simp)
  have g1 := h0 1 (by simp)
  change eget env 0 = .agg [.arr (f.map cN)] at g0
  change eget env 1 = .arr (l.map cI) at g1
  clear h0
  simp [zZL.c] at he
  have hcc : (V.agg [V.arr (f.map cN)]).cells = [.arr (f.map cN)] := rfl
  simp only [eF] at hC
  cases hr : right f with
  | false =>
   have hF : faultL f l = 5 := by simp [faultL, hr]
   rw [hr] at hC
   rw [hF]
   simp [zZL.c, zZL.r0, zZL.r1, zZL.r2, g0, he, hcc, hb, c0, hC, ofCells]
  | true =>
   have hF : faultL f l = if inF f l then 0 else 2 := by simp [faultL, hr]
   rw [hr] at hC
   rw [hF]
   simp [zZL.c, zZL.r0, zZL.r1, zZL.r3, g0, g1, he, hcc, hb, c0, hC, ofCells]
   refine kLoop (fun m s => ∃ i : Nat, m = l.length - i ∧ i ≤ l.length ∧ s.env.length = 30 ∧ eget s.env 1 = .arr (l.map cI) ∧ eget s.env 2 = .ptr 0 0 ∧ eget s.env 5 = .int .i64 i ∧ s.marks = [] ∧ s.heap = K ∧ inF f l = inF f (l.drop i)) l.length ⟨0, by simp [he, g1]⟩ ?_
   rintro m ⟨e, mk, hp⟩ ⟨i, rfl, hi, he, k1, k2, k5, hm, hh, hat⟩
   simp only at he k1 k2 k5 hm hh
   obtain rfl := hm
   obtain rfl := hh
   by_cases hlt : i < l.length
   ·obtain ⟨x, hx⟩ : ∃ x, l[i]? = some x := ⟨_, List.getElem?_eq_getElem hlt⟩
    have hw : IntKind.i64.wrap ((i : Int) + 1) = ((i + 1 : Nat) : Int) := by rw [Ev.wrap64] <;> omega
    have ha1 := qZj (h := hp) (k := .i64) qZY hx
    rw [vZe hx] at hat
    simp only [inF] at hat
    simp [zZL.b8, zZL.r4, k1, k2, k5, he, hlt]
    refine kDraw1 zZL.r5.ord ?_
    by_cases h1 : x < 1
    ·have hi : is_ f x = false := by rw [← Bool.not_eq_true, vZt]; omega
     rw [hi, Bool.false_and] at hat
     rw [hat]
     simp [zZL.r5, zZL.r6, List.filterMap_cons, k1, k2, k5, he, hlt, ha1, cellI, h1, evPick]
    ·by_cases h2 : (f.length : Int) < x
     ·have hi : is_ f x = false := by rw [← Bool.not_eq_true, vZt]; omega
      rw [hi, Bool.false_and] at hat
      rw [hat]
      simp [zZL.r5, zZL.r6, List.filterMap_cons, k1, k2, k5, he, hlt, ha1, cellI, h1, h2, evPick, faddrP, c0]
     ·have hi : is_ f x = true := by rw [vZt]; omega
      rw [hi, Bool.true_and] at hat
      simp [zZL.r5, zZL.r7, List.filterMap_cons, k1, k2, k5, he, hlt, ha1, cellI, h1, h2, evPick, faddrP, c0]
      exact ⟨l.length - (i + 1), by omega, i + 1, rfl, by omega, by simpa using hw, by simpa using hat⟩
   ·have : i = l.length := by omega
    subst this
    rw [List.drop_length] at hat
    simp only [inF] at hat
    rw [hat]
    simp [zZL.b8, zZL.r4, zZL.r9, k1, k5, he]
 obtain ⟨h', hb⟩ := this
 exact zZQ (h := H) zZL.Φ rfl (args := [eF f, eI l]) rfl hb rfl
theorem wZX (f : List Nd) (z : Sz f) (l : List Int) (hlen : l.length < 2 ^ 50) (H : Heap) : callW Φ zZL [eF f, .sl H.length 0 0 l.length] (H ++ [Ob.row 1 (l.map cI) 0 true]) = some (.int .i64 (faultL f l), H ++ [Ob.row 1 (l.map cI) 0 false]) :=
 row_arg zZL.Φ rfl (args := [eF f]) (by simp [flatF]) (kZu f z l hlen) H
def besideI (f : List Nd) (h by_ : Int) : Int :=
 if par f h = 0 then 0 else
  if place (kds f (par f h)) h 0 + by_ < 0 ∨ (kds f (par f h)).length ≤ place (kds f (par f h)) h 0 + by_ then 0
  else (kds f (par f h)).getD (place (kds f (par f h)) h 0 + by_).toNat 0
theorem vZ6 : ∀ (l : List Int) (h : Int) (i : Nat), -1 ≤ place l h i ∧ place l h i < i + l.length
 | [], h, i => by simp [place]; omega
 | x :: l, h, i => by
  have := vZ6 l h (i + 1)
  simp only [place, List.length_cons]
  split <;> omega
theorem fieldN8 (n : Nd) (H : Heap) : evField H 8 none (.agg (cN n)) = some (.int .i64 n.parent, H) := rfl
theorem fieldN9 (n : Nd) (H : Heap) : evField H 9 none (.agg (cN n)) = some (.arr (n.kids.map cI), H) := rfl
theorem fieldN0 (n : Nd) (H : Heap) : evField H 0 none (.agg (cN n)) = some (.int .u8 n.kind, H) := rfl
theorem kZz (f : List Nd) (z : Sz f) (h b : Int) (hb : -(2 ^ 50) < b ∧ b < 2 ^ 50) (H : Heap) : callW Φ zZJ [eF f, .int .i64 h, .int .i64 b] H = some (.int .i64 (besideI f h b), H) := by
 have : ∃ hh, evBodyW (callW Φ) zZJ.c [eF f, .int .i64 h, .int .i64 b] [] = some (.int .i64 (besideI f h b), hh) := by
  have hlf := z.len
  have hkl : (kds f (par f h)).length < 2 ^ 50 := z.atk (par f h)
  obtain ⟨K, hK⟩ : ∃ K : Heap, K = [Ob.cells [.arr (f.map cN)]] := ⟨_, rfl⟩
  have hbx : evBox [] [.arr (f.map cN)] = some (.ptr 0 0, K) := by rw [hK]; simp [evBox, V.isCell]
  have c0 : cellsAt K (.ptr 0 0) = some [.arr (f.map cN)] := by rw [hK]; rfl
  have hA := fun h H => vZx f h hlf H
  have hI := fun H => vZl (kds f (par f h)) h hkl H
  obtain ⟨q, hq⟩ : ∃ q, q = place (kds f (par f h)) h 0 := ⟨_, rfl⟩
  have hqb := vZ6 (kds f (par f h)) h 0
  rw [← hq] at hI hqb
  have hw : IntKind.i64.wrap (q + b) = q + b := by rw [Ev.wrap64] <;> omega
  refine qZE (Nat.le_of_ble_eq_true rfl) (fun env he h0 => ?_)
  have g0 := h0 0 (by simp)
  have g1 := h0 1 (by simp)
  have g2 := h0 2 (by simp)
  change eget env 0 = .agg [.arr (f.map cN)] at g0
  change eget env 1 = .int .i64 h at g1
  change eget env 2 = .int .i64 b at g2
  clear h0
  simp [zZJ.c] at he
  have hcc : (V.agg [V.arr (f.map cN)]).cells = [.arr (f.map cN)] := rfl
  simp only [eF, eN, eI] at hA hI
  have hB : besideI f h b = if par f h = 0 then 0 else if q + b < 0 ∨ (kds f (par f h)).length ≤ q + b then 0 else (kds f (par f h)).getD (q + b).toNat 0 := by rw [hq]; rfl
  rw [hB]
  by_cases p0 : par f h = 0
  ·have pb : (par f h == 0) = true := by simp [p0]
   rw [if_pos p0]
   simp [zZJ.c, zZJ.r0, zZJ.r1, zZJ.r2, zZJ.r3, g0, g1, he, hcc, hbx, c0, hA, fieldN8, pb, ofCells]
  ·have pb : (par f h == 0) = false := by simp [p0]
   rw [if_neg p0]
   by_cases n1 : q + b < 0
   ·rw [if_pos (.inl n1)]
    simp [zZJ.c, zZJ.r0, zZJ.r1, zZJ.r2, zZJ.r4, zZJ.r5, zZJ.r6, zZJ.r7, g0, g1, g2, he, hcc, hbx, c0, hA, fieldN8, fieldN9, pb, hI, hw, n1, evPick, ofCells]
   ·by_cases n2 : (kds f (par f h)).length ≤ q + b
    ·rw [if_pos (.inr n2)]
     simp [zZJ.c, zZJ.r0, zZJ.r1, zZJ.r2, zZJ.r4, zZJ.r5, zZJ.r6, zZJ.r7, g0, g1, g2, he, hcc, hbx, c0, hA, fieldN8, fieldN9, pb, hI, hw, n1, n2, evPick, ofCells]
    ·rw [if_neg (by omega)]
     have hx : (kds f (par f h))[(q + b).toNat]? = some ((kds f (par f h)).getD (q + b).toNat 0) := by
      rw [List.getD_eq_getElem?_getD, List.getElem?_eq_getElem (by omega)]
      rfl
     have ha1 := fun H => vZj (h := H) (k := .i64) qZY (by omega) hx
     obtain ⟨y, hy⟩ : ∃ y, y = (kds f (par f h)).getD (q + b).toNat 0 := ⟨_, rfl⟩
     rw [← hy] at ha1 ⊢
     simp [zZJ.c, zZJ.r0, zZJ.r1, zZJ.r2, zZJ.r4, zZJ.r5, zZJ.r6, zZJ.r8, g0, g1, g2, he, hcc, hbx, c0, hA, fieldN8, fieldN9, pb, hI, hw, n1, n2, evPick, ha1, cellI, ofCells]
 obtain ⟨h', hb⟩ := this
 exact zZQ (h := H) zZJ.Φ rfl (args := [eF f, .int .i64 h, .int .i64 b]) rfl hb rfl
def endI (f : List Nd) (h : Int) (last : Bool) : Int := if last then (kds f h).getLastD 0 else (kds f h).headD 0
theorem tree_End_spec (f : List Nd) (z : Sz f) (h : Int) (b : Bool) (H : Heap) : callW Φ qZt [eF f, .int .i64 h, .bool b] H = some (.int .i64 (endI f h b), H) := by
 have : ∃ hh, evBodyW (callW Φ) qZt.c [eF f, .int .i64 h, .bool b] [] = some (.int .i64 (endI f h b), hh) := by
  have hlf := z.len
  have hkl : (kds f h).length < 2 ^ 50 := z.atk h
  obtain ⟨K, hK⟩ : ∃ K : Heap, K = [Ob.cells [.arr (f.map cN)]] := ⟨_, rfl⟩
  have hbx : evBox [] [.arr (f.map cN)] = some (.ptr 0 0, K) := by rw [hK]; simp [evBox, V.isCell]
  have c0 : cellsAt K (.ptr 0 0) = some [.arr (f.map cN)] := by rw [hK]; rfl
  have hA := fun h H => vZx f h hlf H
  refine qZE (Nat.le_of_ble_eq_true rfl) (fun env he h0 => ?_)
  have g0 := h0 0 (by simp)
  have g1 := h0 1 (by simp)
  have g2 := h0 2 (by simp)
  change eget env 0 = .agg [.arr (f.map cN)] at g0
  change eget env 1 = .int .i64 h at g1
  change eget env 2 = .bool b at g2
  clear h0
  simp [qZt.c] at he
  have hcc : (V.agg [V.arr (f.map cN)]).cells = [.arr (f.map cN)] := rfl
  simp only [eF, eN] at hA
  obtain ⟨l, hl⟩ : ∃ l, l = kds f h := ⟨_, rfl⟩
  have hE : endI f h b = if b then l.getLastD 0 else l.headD 0 := by rw [hl]; rfl
  have hF9 : ∀ H, evField H 9 none (.agg (cN (at_ f h))) = some (.arr (l.map cI), H) := fun H => by rw [hl]; exact fieldN9 _ H
  rw [hE]
  rw [← hl] at hkl
  cases hn : l with
  | nil =>
   rw [hn] at hF9
   simp only [List.map_nil] at hF9
   have : (if b then List.getLastD ([] : List Int) 0 else List.headD [] 0) = 0 := by cases b <;> rfl
   rw [this]
   simp [qZt.c, qZt.r0, qZt.r1, qZt.r2, qZt.r3, g0, g1, he, hcc, hbx, c0, hA, hF9, ofCells]
  | cons x r =>
   have hp : (((x :: r).length : Int) == 0) = false := by simp; omega
   have hw : IntKind.i64.wrap (((x :: r).length : Int) - 1) = ((x :: r).length : Int) - 1 := by rw [Ev.wrap64] <;> (rw [hn] at hkl; simp only [List.length_cons] at hkl ⊢; omega)
   have hx0 : (x :: r)[0]? = some x := rfl
   have ha0 : ∀ H, iaddrV H 1 (.arr ((x :: r).map cI)) (.int .i64 0) = some (.iptr (cI x)) := fun H => qZj (h := H) (k := .i64) qZY hx0
   have hxl : (x :: r)[(((x :: r).length : Int) - 1).toNat]? = some ((x :: r).getLastD 0) := by
    have e : (((x :: r).length : Int) - 1).toNat = (x :: r).length - 1 := by omega
    rw [e, List.getLastD_cons, ← List.getLast?_eq_getElem?]
    simp [List.getLast?_cons]
   have hal := fun H => vZj (h := H) (k := .i64) qZY (by simp only [List.length_cons]; omega) hxl
   rw [hn] at hF9
   obtain ⟨D, hD⟩ : ∃ D, D = (x :: r).map cI := ⟨_, rfl⟩
   have hDl : D.length = (x :: r).length := by rw [hD]; simp
   obtain ⟨n, hnl⟩ : ∃ n : Nat, n = (x :: r).length := ⟨_, rfl⟩
   obtain ⟨y, hy⟩ : ∃ y, y = (x :: r).getLastD 0 := ⟨_, rfl⟩
   rw [← hD] at hF9 ha0 hal
   rw [← hnl] at hDl hp hw hal
   rw [← hy] at hal ⊢
   have hll : ∀ H, evLen H .l (.arr D) = some (.int .i64 n, H) := fun H => by rw [len_arr, hDl]
   cases b with
   | true => simp [qZt.c, qZt.r0, qZt.r1, qZt.r2, qZt.r4, qZt.r5, g0, g1, g2, he, hcc, hbx, c0, hA, hF9, hll, hp, hw, hal, cellI, ofCells]
   | false => simp [qZt.c, qZt.r0, qZt.r1, qZt.r2, qZt.r4, qZt.r6, g0, g1, g2, he, hcc, hbx, c0, hA, hF9, hll, hp, hw, ha0, cellI, ofCells]
 obtain ⟨h', hb⟩ := this
 exact zZQ (h := H) qZt.Φ rfl (args := [eF f, .int .i64 h, .bool b]) rfl hb rfl
end Go.Proofs.It
