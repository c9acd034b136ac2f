/- The lists that LoopOrder keeps of its own: what comes to a source, what goes. No conditions. -/
import Derived.Test.YtgfebbhjpgkdfaaLpOb
namespace Go.Proofs.Lp
open Go Go.Ev
set_option linter.unusedVariables false
set_option linter.unusedSimpArgs false

section
variable {h : Heap} {l : Nat} {f : Nat → Option Nat} {oT : Nat} {vs : Nat → V} {os : Nat → Option Nat} {vM : V} {oM : Option Nat} {q : Nat → List Int}

theorem Own.bs (h : Heap) (x : Int) : evBslice h [.int .i64 0] 1 1 [(0, .int .i64 x)] = some (.sl h.length 0 0 1, h ++ [Ob.row 1 [cI x] 0 true]) := by
  simp [evBslice, placeParts, V.cells, V.isCell, setRange, chunks, cI]

/-- The row's slices, where the row stands. -/
theorem row_at' {h : Heap} {o : Nat} {vs : Nat → V} (hr : h[o]? = some (.row 1 (rowV vs) 0 true)) {n : Int} (h0 : 0 ≤ n) (h8 : n < 8) :
    iaddrV h 1 (.sl o 0 0 8) (.int .i64 n) = some (.eptr o 0 n.toNat 0) ∧ cellsAt h (.eptr o 0 n.toNat 0) = some [vs n.toNat] := by
  have e : n = (n.toNat : Int) := by omega
  have := row_at hr (i := n.toNat) (by omega)
  rw [← e] at this
  exact this

/-- A task of the law's comes. -/
theorem Own.pushQ (w : Own h l f oT vs os vM oM q) (hb : ∀ id, own l f id → id < h.length) {n : Int} (h0 : 0 ≤ n) (h8 : n < 8) (hq : (q (n.toNat + 1)).length < 2 ^ 40) (x : Int) :
    ∃ v' o' h2, evApp (h ++ [Ob.row 1 [cI x] 0 true]) 1 8 (vs n.toNat) (.sl h.length 0 0 1) = some (v', h2) ∧
      iaddrV h 1 (.sl oT 0 0 8) (.int .i64 n) = some (.eptr oT 0 n.toNat 0) ∧ cellsAt h (.eptr oT 0 n.toNat 0) = some [vs n.toNat] ∧
      iaddrV (h ++ [Ob.row 1 [cI x] 0 true]) 1 (.sl oT 0 0 8) (.int .i64 n) = some (.eptr oT 0 n.toNat 0) ∧ cellsAt (h ++ [Ob.row 1 [cI x] 0 true]) (.eptr oT 0 n.toNat 0) = some [vs n.toNat] ∧
      iaddrV h2 1 (.sl oT 0 0 8) (.int .i64 n) = some (.eptr oT 0 n.toNat 0) ∧
      evStoreV h2 1 (.eptr oT 0 n.toNat 0) v' = some (V.non, h2.set oT (.row 1 (rowV (upv vs n.toNat v')) 0 true)) ∧
      Own (h2.set oT (.row 1 (rowV (upv vs n.toNat v')) 0 true)) l f oT (upv vs n.toNat v') (upo os n.toNat o') vM oM (upd0 q (n.toNat + 1) (q (n.toNat + 1) ++ [x])) ∧
      h.length ≤ (h2.set oT (.row 1 (rowV (upv vs n.toNat v')) 0 true)).length ∧ (∀ (j : Nat) cs, h[j]? = some (Ob.cells cs) → h2[j]? = some (Ob.cells cs) ∧ (h2.set oT (.row 1 (rowV (upv vs n.toNat v')) 0 true))[j]? = some (Ob.cells cs)) ∧ (∀ j, own l f j → (h2.set oT (.row 1 (rowV (upv vs n.toNat v')) 0 true))[j]? = h[j]?) := by
  have hi : n.toNat < 8 := by omega
  have hT := (List.getElem?_eq_some_iff.1 w.row).1
  have hs0 := w.qs n.toNat hi
  have hs1 : SL (h ++ [Ob.row 1 [cI x] 0 true]) 1 (vs n.toNat) (os n.toNat) ((q (n.toNat + 1)).map cI) := hs0.mono (fun id ho => by rw [List.getElem?_append_left (hs0.lt ho)])
  obtain ⟨v', o', h2, happ, hs2, hl2, hrest2, hnew2⟩ := hs1.app (by_ := 8) (e := cI x) (by intro e he; simp at he; subst he; exact ⟨rfl, rfl, rfl⟩) (q := .sl h.length 0 0 1) (by simp [elemsOf]) (by simp; unfold roomB; omega)
  have hl1 : (h ++ [Ob.row 1 [cI x] 0 true]).length = h.length + 1 := by simp
  rw [hl1] at hl2 hrest2 hnew2
  obtain ⟨e1, w2, k2⟩ := w.putQ hb hi (h2 := h2) (v' := v') (o' := o') (ys := q (n.toNat + 1) ++ [x]) (by rw [List.map_append]; exact hs2) (by omega)
    (fun j hj hne => by rw [hrest2 j (by omega) hne, List.getElem?_append_left hj]) (fun id hid => by rcases hnew2 id hid with e | e; exact .inl e; exact .inr (by omega))
  have r0 := row_at' w.row h0 h8
  have r1 := row_at' (h := h ++ [Ob.row 1 [cI x] 0 true]) (o := oT) (vs := vs) (by rw [List.getElem?_append_left hT]; exact w.row) h0 h8
  have r2 := row_at' e1 h0 h8
  refine ⟨v', o', h2, happ, r0.1, r0.2, r1.1, r1.2, r2.1, row_put e1 hi hs2.cell.1 hs2.cell.2, w2, by simp; omega, fun j cs hj => ?_, k2⟩
  have hjl := (List.getElem?_eq_some_iff.1 hj).1
  have e2 : h2[j]? = some (Ob.cells cs) := by rw [hrest2 j (by omega) (hs0.ne_cells hj), List.getElem?_append_left hjl]; exact hj
  have hne : oT ≠ j := fun e => by rw [← e, w.row] at hj; cases hj
  exact ⟨e2, by rw [List.getElem?_set_ne hne]; exact e2⟩

/-- A task of the law's goes. -/
theorem Own.popQ (w : Own h l f oT vs os vM oM q) (hb : ∀ id, own l f id → id < h.length) {n : Int} (h0 : 0 ≤ n) (h8 : n < 8) {x : Int} {xs : List Int} (hq : q (n.toNat + 1) = x :: xs) :
    ∃ v' p, iaddrV h 1 (.sl oT 0 0 8) (.int .i64 n) = some (.eptr oT 0 n.toNat 0) ∧ cellsAt h (.eptr oT 0 n.toNat 0) = some [vs n.toNat] ∧ evLen h .l (vs n.toNat) = some (.int .i64 (xs.length + 1), h) ∧
      iaddrV h 1 (vs n.toNat) (.int .i64 0) = some p ∧ cellsAt h p = some (cI x) ∧ sliceL h 1 (vs n.toNat) (some (.int .i64 1)) none = some v' ∧
      evStoreV h 1 (.eptr oT 0 n.toNat 0) v' = some (V.non, h.set oT (.row 1 (rowV (upv vs n.toNat v')) 0 true)) ∧
      Own (h.set oT (.row 1 (rowV (upv vs n.toNat v')) 0 true)) l f oT (upv vs n.toNat v') (upo os n.toNat (os n.toNat)) vM oM (upd0 q (n.toNat + 1) xs) ∧ (∀ (j : Nat) cs, h[j]? = some (Ob.cells cs) → (h.set oT (.row 1 (rowV (upv vs n.toNat v')) 0 true))[j]? = some (Ob.cells cs)) ∧
      (∀ j, own l f j → (h.set oT (.row 1 (rowV (upv vs n.toNat v')) 0 true))[j]? = h[j]?) := by
  have hi : n.toNat < 8 := by omega
  have hs0 := w.qs n.toNat hi
  have hln := hs0.len h
  rw [hq] at hs0 hln
  obtain ⟨v', p, a1, a2, a3, hs2⟩ := hs0.tail
  obtain ⟨e1, w2, k2⟩ := w.putQ hb hi (h2 := h) (v' := v') (o' := os n.toNat) (ys := xs) hs2 (Nat.le_refl _) (fun j hj hne => rfl) (fun id hid => .inl hid)
  have r0 := row_at' w.row h0 h8
  simp only [List.length_map, List.length_cons, Int.natCast_add, Int.natCast_one] at hln
  exact ⟨v', p, r0.1, r0.2, hln, a1, a2, a3, row_put e1 hi hs2.cell.1 hs2.cell.2, w2, fun j cs hj => by rw [List.getElem?_set_ne (fun e => by rw [← e, w.row] at hj; cases hj)]; exact hj, k2⟩

/-- A microtask of the law's goes. -/
theorem Own.popM (w : Own h l f oT vs os vM oM q) {x : Int} {xs : List Int} (hq : q 0 = x :: xs) :
    ∃ v' p, evLen h .l vM = some (.int .i64 (xs.length + 1), h) ∧ iaddrV h 1 vM (.int .i64 0) = some p ∧ cellsAt h p = some (cI x) ∧ sliceL h 1 vM (some (.int .i64 1)) none = some v' ∧
      Own h l f oT vs os v' oM (upd0 q 0 xs) := by
  have hs0 := w.ms
  have hln := hs0.len h
  rw [hq] at hs0 hln
  obtain ⟨v', p, a1, a2, a3, hs2⟩ := hs0.tail
  simp only [List.length_map, List.length_cons, Int.natCast_add, Int.natCast_one] at hln
  refine ⟨v', p, hln, a1, a2, a3, w.row, fun i hi => ?_, ?_, w.apT, w.apQ, w.apM, w.neQ, w.neM, w.neQM, w.neQQ⟩
  · have : upd0 q 0 xs (i + 1) = q (i + 1) := by simp [upd0]
    rw [this]
    exact w.qs i hi
  · have : upd0 q 0 xs 0 = xs := by simp [upd0]
    rw [this]
    exact hs2
theorem Own.q_eq (w : Own h l f oT vs os vM oM q) {q' : Nat → List Int} (he : q' = q) : Own h l f oT vs os vM oM q' := by subst he; exact w
end

/-- What LoopOrder lets be of a loop. -/
structure Calm (L : LS) : Prop where
  tm : L.tm = []
  open' : L.closed = false

theorem nextR_cases (L : LS) (s : Int) : (∃ y ys, L.q 0 = y :: ys ∧ nextR L s = ((1, 0, y), upq L 0 ys)) ∨
    (∃ (k : Nat) (y : Int) (ys : List Int), k < 8 ∧ L.q 0 = [] ∧ L.q (k + 1) = y :: ys ∧ nextR L s = ((2, (k : Int), y), upq L (k + 1) ys)) ∨ nextR L s = ((0, 0, 0), L) := by
  cases h0 : L.q 0 with
  | cons y ys => exact .inl ⟨y, ys, rfl, by simp [nextR, h0]⟩
  | nil =>
    cases hp : (rdy L 8)[pick s (rdy L 8).length]? with
    | none => exact .inr (.inr (by simp [nextR, h0, hp]))
    | some k =>
      obtain ⟨m1, m2⟩ := rdy_mem (List.mem_of_getElem? hp)
      cases hk : L.q (k + 1) with
      | nil => exact .inr (.inr (by simp [nextR, h0, hp, hk]))
      | cons y ys => exact .inr (.inl ⟨k, y, ys, m1, rfl, hk, by simp [nextR, h0, hp, hk]⟩)

theorem place_nil (n : Int) : place n [] = none := rfl

/-- A step of LoopOrder, told by its five ways. -/
theorem ord_step {L : LS} (hc : Calm L) (x : Step) (h3 : x.kind ≠ 3) (h5 : x.kind ≠ 5) (h7 : x.kind ≠ 7) :
    (x.kind = 1 ∧ 0 ≤ x.source ∧ x.source < 8 ∧ doA L x = ((0, (0, 0, 0), 0), upq L (x.source.toNat + 1) (L.q (x.source.toNat + 1) ++ [x.id]))) ∨
    (x.kind = 2 ∧ doA L x = ((0, (0, 0, 0), 0), upq L 0 (L.q 0 ++ [x.id]))) ∨
    (x.kind = 6 ∧ ∃ y ys, L.q 0 = y :: ys ∧ doA L x = ((0, (1, 0, y), 0), upq L 0 ys)) ∨
    (x.kind = 6 ∧ ∃ (k : Nat) (y : Int) (ys : List Int), k < 8 ∧ L.q 0 = [] ∧ L.q (k + 1) = y :: ys ∧ doA L x = ((0, (2, (k : Int), y), 0), upq L (k + 1) ys)) ∨
    (∃ n w, doA L x = ((n, (0, 0, 0), w), L) ∧ (w = 0 → x.kind ≠ 1 ∧ x.kind ≠ 2)) := by
  simp only [doA, if_neg h7, doR, if_neg h3, if_neg h5]
  by_cases k1 : x.kind = 1
  · simp only [if_pos k1]
    by_cases hz : faultV L (decide (0 ≤ x.source ∧ x.source < 8)) = 0
    · obtain ⟨a1, a2, a3⟩ := faultV_zero hz
      simp only [decide_eq_true_eq] at a2
      exact .inl ⟨k1, a2.1, a2.2, by rw [taskL, if_pos hz, hz]⟩
    · exact .inr (.inr (.inr (.inr ⟨0, faultV L (decide (0 ≤ x.source ∧ x.source < 8)), by rw [taskL, if_neg hz], fun h => absurd h hz⟩)))
  · simp only [if_neg k1]
    by_cases k2 : x.kind = 2
    · simp only [if_pos k2]
      by_cases hz : faultV L true = 0
      · exact .inr (.inl ⟨k2, by rw [microL, if_pos hz, hz]⟩)
      · exact .inr (.inr (.inr (.inr ⟨0, faultV L true, by rw [microL, if_neg hz], fun h => absurd h hz⟩)))
    · simp only [if_neg k2]
      by_cases k4 : x.kind = 4
      · simp only [if_pos k4]
        exact .inr (.inr (.inr (.inr ⟨if (place x.timer L.tm).isSome then 1 else 0, 0, by simp only [clearL, hc.tm, place_nil], fun _ => ⟨k1, k2⟩⟩)))
      · simp only [if_neg k4]
        by_cases k6 : x.kind = 6
        · simp only [if_pos k6]
          rcases nextR_cases L x.source with ⟨y, ys, e1, e2⟩ | ⟨k, y, ys, hk, e0, e1, e2⟩ | e2
          · exact .inr (.inr (.inl ⟨k6, y, ys, e1, by rw [e2]⟩))
          · exact .inr (.inr (.inr (.inl ⟨k6, k, y, ys, hk, e0, e1, by rw [e2]⟩)))
          · exact .inr (.inr (.inr (.inr ⟨0, 0, by rw [e2], fun _ => ⟨k1, k2⟩⟩)))
        · simp only [if_neg k6]
          exact .inr (.inr (.inr (.inr ⟨0, 23, rfl, fun _ => ⟨k1, k2⟩⟩)))
theorem upq_q (L : LS) (i : Nat) (l : List Int) : (upq L i l).q = upd0 L.q i l := rfl
def inb : Cc → Cc
  | .block _ x => x
  | x => x

theorem kNormal {call : CallF} {rnd : Option Nat} {Q : Ex → St → Prop} {s : St} {k : List It} {x : Cc} {I : St → Prop} (h : WK call rnd (fun e s' => e = .normal ∧ I s') [.c x] s) (hk : ∀ s', I s' → WK call rnd Q k s') : WK call rnd Q (.c x :: k) s := by
  simp only [WK]
  refine WC.mono (WC_of_WK h) fun e s' hq => ?_
  obtain ⟨rfl, hi⟩ := hq
  exact hk s' hi

end Go.Proofs.Lp
