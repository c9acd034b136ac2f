/- A row of slices of numbers. The lists that LoopOrder keeps of its own. The lists that LoopOrder keeps of its own: what comes, what goes. The lists that LoopOrder keeps of its own: what comes to a source, what goes. No conditions. -/
import Derived.Test.YtgfebbhjpgkdfaaLpW
namespace Go.Proofs.Lp
open Go Go.Ev
set_option linter.unusedVariables false
set_option linter.unusedSimpArgs false

def rowV (vs : Nat → V) : List (List V) := (List.range 8).map fun i => [vs i]
theorem rowV_len (vs : Nat → V) : (rowV vs).length = 8 := by simp [rowV]
theorem rowV_get (vs : Nat → V) {i : Nat} (hi : i < 8) : (rowV vs)[i]? = some [vs i] := by simp [rowV, hi]
theorem rowV_set (vs : Nat → V) {i : Nat} (hi : i < 8) (x : V) : (rowV vs).set i [x] = rowV (upv vs i x) := by
  apply List.ext_getElem?
  intro j
  by_cases hj : j < 8
  · rw [rowV_get _ hj]
    by_cases e : j = i
    · subst e
      rw [List.getElem?_set_self (by rw [rowV_len]; exact hj)]
      simp [upv]
    · rw [List.getElem?_set_ne (Ne.symm e), rowV_get _ hj]
      simp [upv, e]
  · rw [List.getElem?_eq_none (by simp [rowV_len]; omega), List.getElem?_eq_none (by simp [rowV_len]; omega)]

theorem row_at {h : Heap} {o : Nat} {vs : Nat → V} (hr : h[o]? = some (.row 1 (rowV vs) 0 true)) {i : Nat} (hi : i < 8) :
    iaddrV h 1 (.sl o 0 0 8) (.int .i64 i) = some (.eptr o 0 i 0) ∧ cellsAt h (.eptr o 0 i 0) = some [vs i] := by
  have h8 : (i : Int) < 8 := by omega
  refine ⟨?_, ?_⟩
  · simp [iaddrV, hr, rowV_len, hi, h8]
  · simp [cellsAt, hr, rowV_get vs hi]
theorem row_put {h : Heap} {o : Nat} {vs : Nat → V} (hr : h[o]? = some (.row 1 (rowV vs) 0 true)) {i : Nat} (hi : i < 8) {x : V} (h1 : x.isCell = true) (h2 : x.cells = [x]) :
    evStoreV h 1 (.eptr o 0 i 0) x = some (V.non, h.set o (.row 1 (rowV (upv vs i x)) 0 true)) := by
  have hs : setRange [vs i] 0 [x] = some [x] := rfl
  simp only [evStoreV, h2, List.length_singleton, List.all_cons, List.all_nil, h1, Bool.and_self, and_self, if_true, evStore, hr, rowV_get vs hi, hs, rowV_set vs hi, setOb_eq]
end Go.Proofs.Lp

namespace Go.Proofs.Lp
open Go Go.Ev
set_option linter.unusedVariables false
set_option linter.unusedSimpArgs false

/-- The law's own lists: its tasks (a row of slices), its microtasks. -/
structure Own (h : Heap) (l : Nat) (f : Nat → Option Nat) (oT : Nat) (vs : Nat → V) (os : Nat → Option Nat) (vM : V) (oM : Option Nat) (q : Nat → List Int) : Prop where
  row : h[oT]? = some (.row 1 (rowV vs) 0 true)
  qs : ∀ i, i < 8 → SL h 1 (vs i) (os i) ((q (i + 1)).map cI)
  ms : SL h 1 vM oM ((q 0).map cI)
  apT : ¬ own l f oT
  apQ : ∀ i id, i < 8 → os i = some id → ¬ own l f id
  apM : ∀ id, oM = some id → ¬ own l f id
  neQ : ∀ i, i < 8 → os i ≠ some oT
  neM : oM ≠ some oT
  neQM : ∀ i id, i < 8 → os i = some id → oM ≠ some id
  neQQ : ∀ i j id, i < 8 → j < 8 → os i = some id → os j = some id → i = j

theorem Own.frame {h h' : Heap} {l : Nat} {f f' : Nat → Option Nat} {oT : Nat} {vs : Nat → V} {os : Nat → Option Nat} {vM : V} {oM : Option Nat} {q : Nat → List Int}
    (w : Own h l f oT vs os vM oM q) (hf : Fr h h' l f f') : Own h' l f' oT vs os vM oM q := by
  have hT := (List.getElem?_eq_some_iff.1 w.row).1
  have keep : ∀ id, id < h.length → ¬ own l f id → h'[id]? = h[id]? ∧ ¬ own l f' id := fun id hid hno => ⟨hf.rest id hid hno, fun ho => by
    rcases hf.new id ho with q | q
    · exact hno q
    · omega⟩
  exact ⟨by rw [(keep oT hT w.apT).1]; exact w.row, fun i hi => (w.qs i hi).mono fun id hid => (keep id ((w.qs i hi).lt hid) (w.apQ i id hi hid)).1, w.ms.mono fun id hid => (keep id (w.ms.lt hid) (w.apM id hid)).1,
    (keep oT hT w.apT).2, fun i id hi hid => (keep id ((w.qs i hi).lt hid) (w.apQ i id hi hid)).2, fun id hid => (keep id (w.ms.lt hid) (w.apM id hid)).2, w.neQ, w.neM, w.neQM, w.neQQ⟩
end Go.Proofs.Lp

namespace Go.Proofs.Lp
open Go Go.Ev
set_option linter.unusedVariables false
set_option linter.unusedSimpArgs false

def upd0 (q : Nat → List Int) (i : Nat) (l : List Int) : Nat → List Int := fun k => if k = i then l else q k

theorem SL.ne_cells {h : Heap} {sz : Nat} {v : V} {o : Option Nat} {xs : List (List V)} (hs : SL h sz v o xs) {a : Nat} {cs : List V} (ha : h[a]? = some (Ob.cells cs)) : o ≠ some a := by
  rintro rfl
  rcases hs with ⟨_, _, q⟩ | ⟨id, ep, pre, post, q, _, hr, _⟩
  · cases q
  · cases q
    rw [ha] at hr
    cases hr

section
variable {h : Heap} {l : Nat} {f : Nat → Option Nat} {oT : Nat} {vs : Nat → V} {os : Nat → Option Nat} {vM : V} {oM : Option Nat} {q : Nat → List Int}

/-- A microtask of the law's comes. -/
theorem Own.pushM (w : Own h l f oT vs os vM oM q) (hb : ∀ id, own l f id → id < h.length) (hq : (q 0).length < 2 ^ 40) (x : Int) :
    ∃ v' o' h', evApp (h ++ [Ob.row 1 [cI x] 0 true]) 1 8 vM (.sl h.length 0 0 1) = some (v', h') ∧ Own h' l f oT vs os v' o' (upd0 q 0 (q 0 ++ [x])) ∧ h.length ≤ h'.length ∧ (∀ (j : Nat) cs, h[j]? = some (Ob.cells cs) → h'[j]? = some (Ob.cells cs)) ∧ ∀ j, own l f j → h'[j]? = h[j]? := by
  have hT := (List.getElem?_eq_some_iff.1 w.row).1
  have hs1 : SL (h ++ [Ob.row 1 [cI x] 0 true]) 1 vM oM ((q 0).map cI) := w.ms.mono (fun id ho => by rw [List.getElem?_append_left (w.ms.lt ho)])
  obtain ⟨v', o', h2, happ, hs2, hl2, hrest2, hnew2⟩ := hs1.app (by_ := 8) (e := cI x) (by intro e he; simp at he; subst he; exact ⟨rfl, rfl, rfl⟩) (q := .sl h.length 0 0 1) (by simp [elemsOf]) (by simp; unfold roomB; omega)
  have hl1 : (h ++ [Ob.row 1 [cI x] 0 true]).length = h.length + 1 := by simp
  have keep : ∀ j, j < h.length → oM ≠ some j → h2[j]? = h[j]? := fun j hj hne => by
    rw [hrest2 j (by omega) hne, List.getElem?_append_left hj]
  refine ⟨v', o', h2, happ, ⟨?_, ?_, ?_, w.apT, w.apQ, ?_, w.neQ, ?_, ?_, w.neQQ⟩, by omega, fun j cs hj => by rw [keep j (List.getElem?_eq_some_iff.1 hj).1 (w.ms.ne_cells hj)]; exact hj, fun j hj => keep j (hb j hj) (fun e => w.apM j e hj)⟩
  · rw [keep oT hT w.neM]; exact w.row
  · intro i hi
    have : upd0 q 0 (q 0 ++ [x]) (i + 1) = q (i + 1) := by simp [upd0]
    rw [this]
    exact (w.qs i hi).mono fun id hid => keep id ((w.qs i hi).lt hid) (w.neQM i id hi hid)
  · have : upd0 q 0 (q 0 ++ [x]) 0 = q 0 ++ [x] := by simp [upd0]
    rw [this, List.map_append]
    exact hs2
  · intro id hid ho
    rcases hnew2 id hid with e | e
    · exact w.apM id e ho
    · have := hb id ho; omega
  · intro e
    rcases hnew2 oT e with e | e
    · exact w.neM e
    · omega
  · intro i id hi hid e
    rcases hnew2 id e with e | e
    · exact w.neQM i id hi hid e
    · have := (w.qs i hi).lt hid; omega

def upo (os : Nat → Option Nat) (i : Nat) (o : Option Nat) : Nat → Option Nat := fun k => if k = i then o else os k

/-- One of the row's slices is another one. -/
theorem Own.putQ (w : Own h l f oT vs os vM oM q) (hb : ∀ id, own l f id → id < h.length) {i : Nat} (hi : i < 8) {h2 : Heap} {v' : V} {o' : Option Nat} {ys : List Int} (hs : SL h2 1 v' o' (ys.map cI)) (hlen : h.length ≤ h2.length)
    (hrest : ∀ j, j < h.length → os i ≠ some j → h2[j]? = h[j]?) (hnew : ∀ id, o' = some id → os i = some id ∨ h.length ≤ id) :
    h2[oT]? = some (.row 1 (rowV vs) 0 true) ∧ Own (h2.set oT (.row 1 (rowV (upv vs i v')) 0 true)) l f oT (upv vs i v') (upo os i o') vM oM (upd0 q (i + 1) ys) ∧
      (∀ j, own l f j → (h2.set oT (.row 1 (rowV (upv vs i v')) 0 true))[j]? = h[j]?) := by
  have hT := (List.getElem?_eq_some_iff.1 w.row).1
  have e1 : h2[oT]? = some (.row 1 (rowV vs) 0 true) := by rw [hrest oT hT (w.neQ i hi)]; exact w.row
  have hT2 := (List.getElem?_eq_some_iff.1 e1).1
  have no' : o' ≠ some oT := fun e => by
    rcases hnew oT e with q | q
    · exact w.neQ i hi q
    · omega
  have keep : ∀ j, j < h.length → os i ≠ some j → j ≠ oT → (h2.set oT (.row 1 (rowV (upv vs i v')) 0 true))[j]? = h[j]? := fun j hj h1 h3 => by
    rw [List.getElem?_set_ne (Ne.symm h3)]; exact hrest j hj h1
  refine ⟨e1, ⟨by rw [List.getElem?_set_self hT2], fun k hk => ?_, ?_, w.apT, fun k id hk hid => ?_, w.apM, fun k hk => ?_, w.neM, fun k id hk hid => ?_, fun a b id ha hbb hia hib => ?_⟩, fun j hj => keep j (hb j hj) (fun e => w.apQ i j hi e hj) (fun e => w.apT (e ▸ hj))⟩
  · by_cases e : k = i
    · subst e
      simp only [upv, upo, upd0, if_true]
      exact hs.mono fun id hid => by rw [List.getElem?_set_ne (fun e => no' (by rw [e]; exact hid))]
    · have e2 : ¬ k + 1 = i + 1 := by omega
      simp only [upv, upo, upd0, if_neg e, if_neg e2]
      exact (w.qs k hk).mono fun id hid => keep id ((w.qs k hk).lt hid) (fun h1 => e (w.neQQ k i id hk hi hid h1)) (fun h1 => w.neQ k hk (by rw [← h1]; exact hid))
  · have e2 : ¬ 0 = i + 1 := by omega
    simp only [upd0, if_neg e2]
    exact w.ms.mono fun id hid => keep id (w.ms.lt hid) (fun h1 => w.neQM i id hi h1 hid) (fun h1 => w.neM (by rw [← h1]; exact hid))
  · by_cases e : k = i
    · simp only [upo, if_pos e] at hid
      intro ho
      rcases hnew id hid with h1 | h1
      · exact w.apQ i id hi h1 ho
      · have := hb id ho; omega
    · simp only [upo, if_neg e] at hid
      exact w.apQ k id hk hid
  · by_cases e : k = i
    · simp only [upo, if_pos e]; exact no'
    · simp only [upo, if_neg e]; exact w.neQ k hk
  · by_cases e : k = i
    · simp only [upo, if_pos e] at hid
      intro hm
      rcases hnew id hid with h1 | h1
      · exact w.neQM i id hi h1 hm
      · have := w.ms.lt hm; omega
    · simp only [upo, if_neg e] at hid
      exact w.neQM k id hk hid
  · have low : ∀ k id, k < 8 → ¬ k = i → os k = some id → o' = some id → False := fun k id hk e h1 h2 => by
      rcases hnew id h2 with q | q
      · exact e (w.neQQ k i id hk hi h1 q)
      · have := (w.qs k hk).lt h1; omega
    by_cases ea : a = i
    · by_cases eb : b = i
      · rw [ea, eb]
      · simp only [upo, if_pos ea, if_neg eb] at hia hib
        exact (low b id hbb eb hib hia).elim
    · by_cases eb : b = i
      · simp only [upo, if_neg ea, if_pos eb] at hia hib
        exact (low a id ha ea hia hib).elim
      · simp only [upo, if_neg ea, if_neg eb] at hia hib
        exact w.neQQ a b id ha hbb hia hib
end
end Go.Proofs.Lp

namespace Go.Proofs.Lp
open Go Go.Ev
set_option linter.unusedVariables false
set_option linter.unusedSimpArgs false

section
variable {h : Heap} {l : Nat} {f : Nat → Option Nat} {oT : Nat} {vs : Nat → V} {os : Nat → Option Nat} {vM : V} {oM : Option Nat} {q : Nat → List Int}

theorem Own.bs (h : Heap) (x : Int) : evBslice h [.int .i64 0] 1 1 [(0, .int .i64 x)] = some (.sl h.length 0 0 1, h ++ [Ob.row 1 [cI x] 0 true]) := by
  simp [evBslice, placeParts, V.cells, V.isCell, setRange, chunks, cI]

/-- The row's slices, where the row stands. -/
theorem row_at' {h : Heap} {o : Nat} {vs : Nat → V} (hr : h[o]? = some (.row 1 (rowV vs) 0 true)) {n : Int} (h0 : 0 ≤ n) (h8 : n < 8) :
    iaddrV h 1 (.sl o 0 0 8) (.int .i64 n) = some (.eptr o 0 n.toNat 0) ∧ cellsAt h (.eptr o 0 n.toNat 0) = some [vs n.toNat] := by
  have e : n = (n.toNat : Int) := by omega
  have := row_at hr (i := n.toNat) (by omega)
  rw [← e] at this
  exact this

/-- A task of the law's comes. -/
theorem Own.pushQ (w : Own h l f oT vs os vM oM q) (hb : ∀ id, own l f id → id < h.length) {n : Int} (h0 : 0 ≤ n) (h8 : n < 8) (hq : (q (n.toNat + 1)).length < 2 ^ 40) (x : Int) :
    ∃ v' o' h2, evApp (h ++ [Ob.row 1 [cI x] 0 true]) 1 8 (vs n.toNat) (.sl h.length 0 0 1) = some (v', h2) ∧
      iaddrV h 1 (.sl oT 0 0 8) (.int .i64 n) = some (.eptr oT 0 n.toNat 0) ∧ cellsAt h (.eptr oT 0 n.toNat 0) = some [vs n.toNat] ∧
      iaddrV (h ++ [Ob.row 1 [cI x] 0 true]) 1 (.sl oT 0 0 8) (.int .i64 n) = some (.eptr oT 0 n.toNat 0) ∧ cellsAt (h ++ [Ob.row 1 [cI x] 0 true]) (.eptr oT 0 n.toNat 0) = some [vs n.toNat] ∧
      iaddrV h2 1 (.sl oT 0 0 8) (.int .i64 n) = some (.eptr oT 0 n.toNat 0) ∧
      evStoreV h2 1 (.eptr oT 0 n.toNat 0) v' = some (V.non, h2.set oT (.row 1 (rowV (upv vs n.toNat v')) 0 true)) ∧
      Own (h2.set oT (.row 1 (rowV (upv vs n.toNat v')) 0 true)) l f oT (upv vs n.toNat v') (upo os n.toNat o') vM oM (upd0 q (n.toNat + 1) (q (n.toNat + 1) ++ [x])) ∧
      h.length ≤ (h2.set oT (.row 1 (rowV (upv vs n.toNat v')) 0 true)).length ∧ (∀ (j : Nat) cs, h[j]? = some (Ob.cells cs) → h2[j]? = some (Ob.cells cs) ∧ (h2.set oT (.row 1 (rowV (upv vs n.toNat v')) 0 true))[j]? = some (Ob.cells cs)) ∧ (∀ j, own l f j → (h2.set oT (.row 1 (rowV (upv vs n.toNat v')) 0 true))[j]? = h[j]?) := by
  have hi : n.toNat < 8 := by omega
  have hT := (List.getElem?_eq_some_iff.1 w.row).1
  have hs0 := w.qs n.toNat hi
  have hs1 : SL (h ++ [Ob.row 1 [cI x] 0 true]) 1 (vs n.toNat) (os n.toNat) ((q (n.toNat + 1)).map cI) := hs0.mono (fun id ho => by rw [List.getElem?_append_left (hs0.lt ho)])
  obtain ⟨v', o', h2, happ, hs2, hl2, hrest2, hnew2⟩ := hs1.app (by_ := 8) (e := cI x) (by intro e he; simp at he; subst he; exact ⟨rfl, rfl, rfl⟩) (q := .sl h.length 0 0 1) (by simp [elemsOf]) (by simp; unfold roomB; omega)
  have hl1 : (h ++ [Ob.row 1 [cI x] 0 true]).length = h.length + 1 := by simp
  rw [hl1] at hl2 hrest2 hnew2
  obtain ⟨e1, w2, k2⟩ := w.putQ hb hi (h2 := h2) (v' := v') (o' := o') (ys := q (n.toNat + 1) ++ [x]) (by rw [List.map_append]; exact hs2) (by omega)
    (fun j hj hne => by rw [hrest2 j (by omega) hne, List.getElem?_append_left hj]) (fun id hid => by rcases hnew2 id hid with e | e; exact .inl e; exact .inr (by omega))
  have r0 := row_at' w.row h0 h8
  have r1 := row_at' (h := h ++ [Ob.row 1 [cI x] 0 true]) (o := oT) (vs := vs) (by rw [List.getElem?_append_left hT]; exact w.row) h0 h8
  have r2 := row_at' e1 h0 h8
  refine ⟨v', o', h2, happ, r0.1, r0.2, r1.1, r1.2, r2.1, row_put e1 hi hs2.cell.1 hs2.cell.2, w2, by simp; omega, fun j cs hj => ?_, k2⟩
  have hjl := (List.getElem?_eq_some_iff.1 hj).1
  have e2 : h2[j]? = some (Ob.cells cs) := by rw [hrest2 j (by omega) (hs0.ne_cells hj), List.getElem?_append_left hjl]; exact hj
  have hne : oT ≠ j := fun e => by rw [← e, w.row] at hj; cases hj
  exact ⟨e2, by rw [List.getElem?_set_ne hne]; exact e2⟩

/-- A task of the law's goes. -/
theorem Own.popQ (w : Own h l f oT vs os vM oM q) (hb : ∀ id, own l f id → id < h.length) {n : Int} (h0 : 0 ≤ n) (h8 : n < 8) {x : Int} {xs : List Int} (hq : q (n.toNat + 1) = x :: xs) :
    ∃ v' p, iaddrV h 1 (.sl oT 0 0 8) (.int .i64 n) = some (.eptr oT 0 n.toNat 0) ∧ cellsAt h (.eptr oT 0 n.toNat 0) = some [vs n.toNat] ∧ evLen h .l (vs n.toNat) = some (.int .i64 (xs.length + 1), h) ∧
      iaddrV h 1 (vs n.toNat) (.int .i64 0) = some p ∧ cellsAt h p = some (cI x) ∧ sliceL h 1 (vs n.toNat) (some (.int .i64 1)) none = some v' ∧
      evStoreV h 1 (.eptr oT 0 n.toNat 0) v' = some (V.non, h.set oT (.row 1 (rowV (upv vs n.toNat v')) 0 true)) ∧
      Own (h.set oT (.row 1 (rowV (upv vs n.toNat v')) 0 true)) l f oT (upv vs n.toNat v') (upo os n.toNat (os n.toNat)) vM oM (upd0 q (n.toNat + 1) xs) ∧ (∀ (j : Nat) cs, h[j]? = some (Ob.cells cs) → (h.set oT (.row 1 (rowV (upv vs n.toNat v')) 0 true))[j]? = some (Ob.cells cs)) ∧
      (∀ j, own l f j → (h.set oT (.row 1 (rowV (upv vs n.toNat v')) 0 true))[j]? = h[j]?) := by
  have hi : n.toNat < 8 := by omega
  have hs0 := w.qs n.toNat hi
  have hln := hs0.len h
  rw [hq] at hs0 hln
  obtain ⟨v', p, a1, a2, a3, hs2⟩ := hs0.tail
  obtain ⟨e1, w2, k2⟩ := w.putQ hb hi (h2 := h) (v' := v') (o' := os n.toNat) (ys := xs) hs2 (Nat.le_refl _) (fun j hj hne => rfl) (fun id hid => .inl hid)
  have r0 := row_at' w.row h0 h8
  simp only [List.length_map, List.length_cons, Int.natCast_add, Int.natCast_one] at hln
  exact ⟨v', p, r0.1, r0.2, hln, a1, a2, a3, row_put e1 hi hs2.cell.1 hs2.cell.2, w2, fun j cs hj => by rw [List.getElem?_set_ne (fun e => by rw [← e, w.row] at hj; cases hj)]; exact hj, k2⟩

/-- A microtask of the law's goes. -/
theorem Own.popM (w : Own h l f oT vs os vM oM q) {x : Int} {xs : List Int} (hq : q 0 = x :: xs) :
    ∃ v' p, evLen h .l vM = some (.int .i64 (xs.length + 1), h) ∧ iaddrV h 1 vM (.int .i64 0) = some p ∧ cellsAt h p = some (cI x) ∧ sliceL h 1 vM (some (.int .i64 1)) none = some v' ∧
      Own h l f oT vs os v' oM (upd0 q 0 xs) := by
  have hs0 := w.ms
  have hln := hs0.len h
  rw [hq] at hs0 hln
  obtain ⟨v', p, a1, a2, a3, hs2⟩ := hs0.tail
  simp only [List.length_map, List.length_cons, Int.natCast_add, Int.natCast_one] at hln
  refine ⟨v', p, hln, a1, a2, a3, w.row, fun i hi => ?_, ?_, w.apT, w.apQ, w.apM, w.neQ, w.neM, w.neQM, w.neQQ⟩
  · have : upd0 q 0 xs (i + 1) = q (i + 1) := by simp [upd0]
    rw [this]
    exact w.qs i hi
  · have : upd0 q 0 xs 0 = xs := by simp [upd0]
    rw [this]
    exact hs2
theorem Own.q_eq (w : Own h l f oT vs os vM oM q) {q' : Nat → List Int} (he : q' = q) : Own h l f oT vs os vM oM q' := by subst he; exact w
end

/-- What LoopOrder lets be of a loop. -/
structure Calm (L : LS) : Prop where
  tm : L.tm = []
  open' : L.closed = false

theorem nextR_cases (L : LS) (s : Int) : (∃ y ys, L.q 0 = y :: ys ∧ nextR L s = ((1, 0, y), upq L 0 ys)) ∨
    (∃ (k : Nat) (y : Int) (ys : List Int), k < 8 ∧ L.q 0 = [] ∧ L.q (k + 1) = y :: ys ∧ nextR L s = ((2, (k : Int), y), upq L (k + 1) ys)) ∨ nextR L s = ((0, 0, 0), L) := by
  cases h0 : L.q 0 with
  | cons y ys => exact .inl ⟨y, ys, rfl, by simp [nextR, h0]⟩
  | nil =>
    cases hp : (rdy L 8)[pick s (rdy L 8).length]? with
    | none => exact .inr (.inr (by simp [nextR, h0, hp]))
    | some k =>
      obtain ⟨m1, m2⟩ := rdy_mem (List.mem_of_getElem? hp)
      cases hk : L.q (k + 1) with
      | nil => exact .inr (.inr (by simp [nextR, h0, hp, hk]))
      | cons y ys => exact .inr (.inl ⟨k, y, ys, m1, rfl, hk, by simp [nextR, h0, hp, hk]⟩)

theorem place_nil (n : Int) : place n [] = none := rfl

/-- A step of LoopOrder, told by its five ways. -/
theorem ord_step {L : LS} (hc : Calm L) (x : Step) (h3 : x.kind ≠ 3) (h5 : x.kind ≠ 5) (h7 : x.kind ≠ 7) :
    (x.kind = 1 ∧ 0 ≤ x.source ∧ x.source < 8 ∧ doA L x = ((0, (0, 0, 0), 0), upq L (x.source.toNat + 1) (L.q (x.source.toNat + 1) ++ [x.id]))) ∨
    (x.kind = 2 ∧ doA L x = ((0, (0, 0, 0), 0), upq L 0 (L.q 0 ++ [x.id]))) ∨
    (x.kind = 6 ∧ ∃ y ys, L.q 0 = y :: ys ∧ doA L x = ((0, (1, 0, y), 0), upq L 0 ys)) ∨
    (x.kind = 6 ∧ ∃ (k : Nat) (y : Int) (ys : List Int), k < 8 ∧ L.q 0 = [] ∧ L.q (k + 1) = y :: ys ∧ doA L x = ((0, (2, (k : Int), y), 0), upq L (k + 1) ys)) ∨
    (∃ n w, doA L x = ((n, (0, 0, 0), w), L) ∧ (w = 0 → x.kind ≠ 1 ∧ x.kind ≠ 2)) := by
  simp only [doA, if_neg h7, doR, if_neg h3, if_neg h5]
  by_cases k1 : x.kind = 1
  · simp only [if_pos k1]
    by_cases hz : faultV L (decide (0 ≤ x.source ∧ x.source < 8)) = 0
    · obtain ⟨a1, a2, a3⟩ := faultV_zero hz
      simp only [decide_eq_true_eq] at a2
      exact .inl ⟨k1, a2.1, a2.2, by rw [taskL, if_pos hz, hz]⟩
    · exact .inr (.inr (.inr (.inr ⟨0, faultV L (decide (0 ≤ x.source ∧ x.source < 8)), by rw [taskL, if_neg hz], fun h => absurd h hz⟩)))
  · simp only [if_neg k1]
    by_cases k2 : x.kind = 2
    · simp only [if_pos k2]
      by_cases hz : faultV L true = 0
      · exact .inr (.inl ⟨k2, by rw [microL, if_pos hz, hz]⟩)
      · exact .inr (.inr (.inr (.inr ⟨0, faultV L true, by rw [microL, if_neg hz], fun h => absurd h hz⟩)))
    · simp only [if_neg k2]
      by_cases k4 : x.kind = 4
      · simp only [if_pos k4]
        exact .inr (.inr (.inr (.inr ⟨if (place x.timer L.tm).isSome then 1 else 0, 0, by simp only [clearL, hc.tm, place_nil], fun _ => ⟨k1, k2⟩⟩)))
      · simp only [if_neg k4]
        by_cases k6 : x.kind = 6
        · simp only [if_pos k6]
          rcases nextR_cases L x.source with ⟨y, ys, e1, e2⟩ | ⟨k, y, ys, hk, e0, e1, e2⟩ | e2
          · exact .inr (.inr (.inl ⟨k6, y, ys, e1, by rw [e2]⟩))
          · exact .inr (.inr (.inr (.inl ⟨k6, k, y, ys, hk, e0, e1, by rw [e2]⟩)))
          · exact .inr (.inr (.inr (.inr ⟨0, 0, by rw [e2], fun _ => ⟨k1, k2⟩⟩)))
        · simp only [if_neg k6]
          exact .inr (.inr (.inr (.inr ⟨0, 23, rfl, fun _ => ⟨k1, k2⟩⟩)))
theorem upq_q (L : LS) (i : Nat) (l : List Int) : (upq L i l).q = upd0 L.q i l := rfl
def inb : Cc → Cc
  | .block _ x => x
  | x => x

theorem kNormal {call : CallF} {rnd : Option Nat} {Q : Ex → St → Prop} {s : St} {k : List It} {x : Cc} {I : St → Prop} (h : WK call rnd (fun e s' => e = .normal ∧ I s') [.c x] s) (hk : ∀ s', I s' → WK call rnd Q k s') : WK call rnd Q (.c x :: k) s := by
  simp only [WK]
  refine WC.mono (WC_of_WK h) fun e s' hq => ?_
  obtain ⟨rfl, hi⟩ := hq
  exact hk s' hi

end Go.Proofs.Lp
