/- The program's loop: Clear, Advance. No conditions. -/
import Derived.Test.YtgfebbhjpgkdfaaLpF
namespace Go.Proofs.Lp
open Go Go.Ev
set_option linter.unusedVariables false
set_option linter.unusedSimpArgs false

theorem RepV.ext {h : Heap} {l : Nat} {L : LS} {f : Nat → Option Nat} {v : Nat → V} (hr : RepV h l L f v) (e : Heap) : RepV (h ++ e) l L f v := by
  obtain ⟨h1, h2, h3⟩ := hr
  have hll := (List.getElem?_eq_some_iff.1 h1).1
  exact ⟨by rw [List.getElem?_append_left hll]; exact h1, fun i hi => (h2 i hi).mono (fun id hid => List.getElem?_append_left ((h2 i hi).lt hid)), h3⟩
theorem Fr.ext (h : Heap) (l : Nat) (f : Nat → Option Nat) (e : Heap) : Fr h (h ++ e) l f f :=
  ⟨by simp, fun j hj _ => List.getElem?_append_left hj, fun j h => .inl h⟩

theorem RepV.s9 {h : Heap} {l : Nat} {L : LS} {f : Nat → Option Nat} {v : Nat → V} (hr : RepV h l L f v) : SL h 3 (v 9) (f 9) (L.tm.map cT) := by
  have := hr.2.1 9 (by decide)
  simpa only [szi, cont, if_true] using this
theorem RepV.c9 {h : Heap} {l : Nat} {L : LS} {f : Nat → Option Nat} {v : Nat → V} (hr : RepV h l L f v) :
    cellsAt h (.ptr l 9) = some [v 9, .int .i64 L.clock, .int .i64 L.given, .int .u32 (if L.closed then 1 else 0), .int .i32 0, .int .u32 0, .bool L.closed] := by simp [cellsAt, hr.1, cellsL]
theorem RepV.nl {h : Heap} {l : Nat} {L : LS} {f : Nat → Option Nat} {v : Nat → V} (hr : RepV h l L f v) {i : Nat} (hi : i < 10) : f i ≠ some l := by
  intro e
  obtain ⟨h1, h2, h3⟩ := hr
  rcases h2 i hi with ⟨_, _, q⟩ | ⟨id', ep, pre, post, q, _, q2, _⟩
  · rw [q] at e; cases e
  · rw [q] at e; cases e
    rw [h1] at q2; cases q2

/-- One list is replaced. -/
theorem RepV.put {h h2 : Heap} {l : Nat} {L L' : LS} {f : Nat → Option Nat} {v : Nat → V} (hr : RepV h l L f v) {i : Nat} (hi : i < 10) {v' : V} {o' : Option Nat}
    (hl2 : h2[l]? = some (.cells (cellsL v L))) (hs : SL h2 (szi i) v' o' (cont L' i)) (ho : o' ≠ some l) (hc : ∀ k, k < 10 → k ≠ i → cont L' k = cont L k) (hx : ∀ w, cellsL w L' = cellsL w L)
    (hlen : h.length ≤ h2.length) (hrest : ∀ j, j < h.length → j ≠ l → f i ≠ some j → h2[j]? = h[j]?) (hnew : ∀ id, o' = some id → f i = some id ∨ h.length ≤ id) :
    evStoreV h2 1 (.ptr l i) v' = some (V.non, h2.set l (.cells (cellsL (upv v i v') L))) ∧
    RepV (h2.set l (.cells (cellsL (upv v i v') L))) l L' (fun k => if k = i then o' else f k) (upv v i v') ∧ Fr h (h2.set l (.cells (cellsL (upv v i v') L))) l f (fun k => if k = i then o' else f k) := by
  have hll : l < h2.length := (List.getElem?_eq_some_iff.1 hl2).1
  have hst := store_cell hl2 (off := i) (x := v') (by rw [cells_len]; omega) hs.cell.1 hs.cell.2
  rw [cells_set v L v' hi] at hst
  refine ⟨hst, RepV.upd hr hi (by rw [hx]; simp [hll]) (hs.mono fun id hid => ?_) hc (by simpa using hlen) (fun j hj hjl hjf => ?_) hnew⟩
  · rw [List.getElem?_set_ne (fun e => ho (by rw [hid, e]))]
  · rw [List.getElem?_set_ne (Ne.symm hjl)]
    exact hrest j hj hjl hjf

def clearL (L : LS) (n : Int) : LS :=
  match place n L.tm with
  | some i => { L with tm := L.tm.take i ++ L.tm.drop (i + 1) }
  | none => L

set_option maxHeartbeats 2000000 in
theorem clear_spec {h : Heap} {l : Nat} {L : LS} {f : Nat → Option Nat} (hr : Rep h l L f) (ht : tot L < 2 ^ 40) (n : Int) :
    ∃ h' f', callW Φ loop_Loop_Clear [.ptr l 0, .int .i64 n] h = some (.bool (place n L.tm).isSome, h') ∧ Rep h' l (clearL L n) f' ∧ Fr h h' l f f' := by
  obtain ⟨v, hr⟩ := hr
  have htm : L.tm.length < 2 ^ 40 := by unfold tot at ht; omega
  obtain ⟨h1, hh1⟩ : ∃ h1, h1 = h ++ [Ob.cells [.int .i64 n]] := ⟨_, rfl⟩
  have hr1 := hr.ext [Ob.cells [.int .i64 n]]
  rw [← hh1] at hr1
  have hb : h1[h.length]? = some (.cells [.int .i64 n]) := by rw [hh1]; simp
  have hix := index_spec hr1.s9 htm hb
  have hbx : evBox h [.int .i64 n] = some (.ptr h.length 0, h1) := by simp [evBox, V.isCell, hh1]
  have hc9 := hr1.c9
  cases hp : place n L.tm with
  | none =>
    rw [hp] at hix
    obtain ⟨h2, hh2⟩ : ∃ h2, h2 = h1 ++ boxes (L.tm.take L.tm.length) := ⟨_, rfl⟩
    simp only [← hh2] at hix
    refine ⟨h2, f, ?_, by simp only [clearL, hp]; rw [hh2]; exact ⟨v, hr1.ext _⟩, Fr.trans (h1 := h1) (f1 := f) (by rw [hh1]; exact Fr.ext _ _ _ _) (by rw [hh2]; exact Fr.ext _ _ _ _)⟩
    refine callW_rough loop_Loop_Clear.Φ rfl (body_q (Nat.le_of_ble_eq_true rfl) (fun env he h0 => ?_))
    have g0 := h0 0 (by simp)
    have g1 := h0 1 (by simp)
    change eget env 0 = .ptr l 0 at g0
    change eget env 1 = .int .i64 n at g1
    clear h0
    simp [loop_Loop_Clear.c] at he
    simp [loop_Loop_Clear.c, loop_Loop_Clear.r0, loop_Loop_Clear.r1, loop_Loop_Clear.r3, loop_Loop_Clear.r4, loop_Loop_Clear.r5, g0, g1, he, okV, fV_eq, evNilchk, evEqn, eqnV, nilOf, hbx, hc9, hix, placeI, V.cells]
  | some i =>
    have hi := place_lt hp
    rw [hp] at hix
    obtain ⟨h2, hh2⟩ : ∃ h2, h2 = h1 ++ boxes (L.tm.take (i + 1)) := ⟨_, rfl⟩
    have hr2 := hr1.ext (boxes (L.tm.take (i + 1)))
    rw [← hh2] at hr2
    simp only [← hh2] at hix
    obtain ⟨v', h3, hdl, hs3, hlen3, hsame⟩ := delete_spec hr2.s9 (by simpa using htm) (i := i) (by simpa using hi)
    have hc92 := hr2.c9
    have hl3 : h3[l]? = some (.cells (cellsL v L)) := by rw [hsame l (hr2.nl (by decide))]; exact hr2.1
    obtain ⟨p1, p2, p3⟩ := hr2.put (i := 9) (by decide) (L' := clearL L n) (v' := v') (o' := f 9) hl3
      (by simp only [cont, if_true, szi, clearL, hp, List.map_append, List.map_take, List.map_drop]; exact hs3)
      (hr2.nl (by decide)) (fun k _ hk => by simp only [cont, if_neg hk, clearL, hp]) (fun w => by simp only [cellsL, clearL, hp]) (by omega)
      (fun j _ _ hj => hsame j hj) (fun id hid => .inl hid)
    refine ⟨_, _, ?_, ⟨_, p2⟩, Fr.trans (h1 := h1) (f1 := f) (by rw [hh1]; exact Fr.ext _ _ _ _) (Fr.trans (h1 := h2) (f1 := f) (by rw [hh2]; exact Fr.ext _ _ _ _) p3)⟩
    refine callW_rough loop_Loop_Clear.Φ rfl (body_q (Nat.le_of_ble_eq_true rfl) (fun env he h0 => ?_))
    have g0 := h0 0 (by simp)
    have g1 := h0 1 (by simp)
    change eget env 0 = .ptr l 0 at g0
    change eget env 1 = .int .i64 n at g1
    clear h0
    simp [loop_Loop_Clear.c] at he
    have hn : ¬ ((i : Int) < 0) := by omega
    have hw : IntKind.i64.wrap ((i : Int) + 1) = (i : Int) + 1 := by rw [Ev.wrap64] <;> omega
    simp [loop_Loop_Clear.c, loop_Loop_Clear.r0, loop_Loop_Clear.r1, loop_Loop_Clear.r3, loop_Loop_Clear.r4, loop_Loop_Clear.r6, loop_Loop_Clear.r7, g0, g1, he, okV, fV_eq, evNilchk, evEqn, eqnV, nilOf, hbx, hc9, hix, placeI, V.cells, hn, hw, hc92, hdl, p1]
end Go.Proofs.Lp
