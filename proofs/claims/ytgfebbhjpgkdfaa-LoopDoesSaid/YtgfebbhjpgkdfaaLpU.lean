/- The program's loop: Close. No conditions. -/
import Derived.Test.YtgfebbhjpgkdfaaLpT
namespace Go.Proofs.Lp
open Go Go.Ev
set_option linter.unusedVariables false
set_option linter.unusedSimpArgs false

/-- The heap within Close: the box, the answer, the loop's cells. -/
def HS (h : Heap) (l : Nat) (C : List V) (b : Bool) : Heap := (h ++ [Ob.cells [.ptr l 0], Ob.cells [.bool b]]).set l (.cells C)

section
variable {h : Heap} {l : Nat} {C : List V} {b : Bool}
theorem HS.get (hl : l < h.length) : (HS h l C b)[l]? = some (.cells C) := by
  unfold HS
  rw [List.getElem?_set_self (by simp; omega)]
theorem HS.at (hl : l < h.length) (off : Nat) (ho : off ≤ C.length) : cellsAt (HS h l C b) (.ptr l off) = some (C.drop off) := by
  simp [cellsAt, HS.get hl]
theorem HS.box (hl : l < h.length) : cellsAt (HS h l C b) (.ptr h.length 0) = some [.ptr l 0] := by
  have : (HS h l C b)[h.length]? = some (.cells [.ptr l 0]) := by
    unfold HS
    rw [List.getElem?_set_ne (by omega)]
    simp
  simp [cellsAt, this]
theorem HS.ans (hl : l < h.length) : cellsAt (HS h l C b) (.ptr (h.length + 1) 0) = some [.bool b] := by
  have : (HS h l C b)[h.length + 1]? = some (.cells [.bool b]) := by
    unfold HS
    rw [List.getElem?_set_ne (by omega)]
    simp
  simp [cellsAt, this]
theorem HS.store (hl : l < h.length) {off : Nat} {x : V} (ho : off < C.length) (hx : x.isCell = true) (hc : x.cells = [x]) : evStoreV (HS h l C b) 1 (.ptr l off) x = some (V.non, HS h l (C.set off x) b) := by
  rw [store_cell (HS.get hl) ho hx hc]
  simp [HS]
theorem HS.told (hl : l < h.length) (c : Bool) : evStoreV (HS h l C b) 1 (.ptr (h.length + 1) 0) (.bool c) = some (V.non, HS h l C c) := by
  have : (HS h l C b)[h.length + 1]? = some (.cells [.bool b]) := by
    unfold HS
    rw [List.getElem?_set_ne (by omega)]
    simp
  rw [store_cell this (by simp) rfl rfl]
  unfold HS
  rw [List.set_comm _ _ (by omega)]
  simp [List.set_append]
end

theorem yes59 {h : Heap} {l off : Nat} {n : Int} {r : List V} (hc : cellsAt h (.ptr l off) = some (.int .u32 n :: r)) : callW Φ sync_atomic_Bool_Load [.ptr l off] h = some (.bool (n != 0), h) := by
  refine callW_rough sync_atomic_Bool_Load.Φ rfl (body_q (Nat.le_of_ble_eq_true rfl) (fun env he h0 => ?_))
  have g0 := h0 0 (by simp)
  change eget env 0 = .ptr l off at g0
  clear h0
  simp [primYes] at he
  simp [primYes, g0, he, evAtld, hc, okV, fV_eq]

theorem close1_spec {h : Heap} {l : Nat} (hl : l < h.length) (v : Nat → V) (a g d m s c : V) :
    callW Φ (.fn (.func 50) [] [.ptr (h.length + 1) 0, .ptr h.length 0]) [] (HS h l [v 0, v 1, v 2, v 3, v 4, v 5, v 6, v 7, v 8, v 9, a, g, d, m, s, c] false) =
      some (.tup [], HS h l [.nils, .nils, .nils, .nils, .nils, .nils, .nils, .nils, .nils, .nils, a, g, d, m, s, .bool true] true) := by
  have e0 := HS.told (C := [v 0, v 1, v 2, v 3, v 4, v 5, v 6, v 7, v 8, v 9, a, g, d, m, s, c]) (b := false) hl true
  have x1 := HS.box (C := [v 0, v 1, v 2, v 3, v 4, v 5, v 6, v 7, v 8, v 9, a, g, d, m, s, c]) (b := true) hl
  have e1 : evStoreV (HS h l [v 0, v 1, v 2, v 3, v 4, v 5, v 6, v 7, v 8, v 9, a, g, d, m, s, c] true) 1 (.ptr l 15) (.bool true) = some (V.non, HS h l [v 0, v 1, v 2, v 3, v 4, v 5, v 6, v 7, v 8, v 9, a, g, d, m, s, .bool true] true) := HS.store (C := [v 0, v 1, v 2, v 3, v 4, v 5, v 6, v 7, v 8, v 9, a, g, d, m, s, c]) (b := true) (off := 15) (x := .bool true) hl (by simp) rfl rfl
  have x2 := HS.box (C := [v 0, v 1, v 2, v 3, v 4, v 5, v 6, v 7, v 8, v 9, a, g, d, m, s, .bool true]) (b := true) hl
  have e2 : evStoreV (HS h l [v 0, v 1, v 2, v 3, v 4, v 5, v 6, v 7, v 8, v 9, a, g, d, m, s, .bool true] true) 1 (.ptr l 0) (.nils) = some (V.non, HS h l [.nils, v 1, v 2, v 3, v 4, v 5, v 6, v 7, v 8, v 9, a, g, d, m, s, .bool true] true) := HS.store (C := [v 0, v 1, v 2, v 3, v 4, v 5, v 6, v 7, v 8, v 9, a, g, d, m, s, .bool true]) (b := true) (off := 0) (x := .nils) hl (by simp) rfl rfl
  have x3 := HS.box (C := [.nils, v 1, v 2, v 3, v 4, v 5, v 6, v 7, v 8, v 9, a, g, d, m, s, .bool true]) (b := true) hl
  have e3 : evStoreV (HS h l [.nils, v 1, v 2, v 3, v 4, v 5, v 6, v 7, v 8, v 9, a, g, d, m, s, .bool true] true) 8 (.ptr l 1) (.agg [.nils, .nils, .nils, .nils, .nils, .nils, .nils, .nils]) =
      some (V.non, HS h l [.nils, .nils, .nils, .nils, .nils, .nils, .nils, .nils, .nils, v 9, a, g, d, m, s, .bool true] true) := by
    have hg := HS.get (C := [.nils, v 1, v 2, v 3, v 4, v 5, v 6, v 7, v 8, v 9, a, g, d, m, s, .bool true]) (b := true) hl
    simp [evStoreV, V.cells, V.isCell, evStore, hg, setRange]
    simp [HS]
  have x4 := HS.box (C := [.nils, .nils, .nils, .nils, .nils, .nils, .nils, .nils, .nils, v 9, a, g, d, m, s, .bool true]) (b := true) hl
  have e4 : evStoreV (HS h l [.nils, .nils, .nils, .nils, .nils, .nils, .nils, .nils, .nils, v 9, a, g, d, m, s, .bool true] true) 1 (.ptr l 9) (.nils) = some (V.non, HS h l [.nils, .nils, .nils, .nils, .nils, .nils, .nils, .nils, .nils, .nils, a, g, d, m, s, .bool true] true) := HS.store (C := [.nils, .nils, .nils, .nils, .nils, .nils, .nils, .nils, .nils, v 9, a, g, d, m, s, .bool true]) (b := true) (off := 9) (x := .nils) hl (by simp) rfl rfl
  have b2 : ∀ H, evBuild H [.nils] [] = some (.agg [.nils], H) := fun _ => rfl
  have b3 : ∀ H, evBuild H [.nils, .nils, .nils, .nils, .nils, .nils, .nils, .nils] [] = some (.agg [.nils, .nils, .nils, .nils, .nils, .nils, .nils, .nils], H) := fun _ => rfl
  have e2' : ∀ H H' : Heap, evStoreV H 1 (.ptr l 0) .nils = some (V.non, H') → evStoreV H 1 (.ptr l 0) (.agg [.nils]) = some (V.non, H') := fun H H' hh => by
    simpa [evStoreV, V.cells, V.isCell] using hh
  have e2 := e2' _ _ e2
  refine callW_rough loop_Loop_Close_1.Φ rfl (body_q (Nat.le_of_ble_eq_true rfl) (fun env he h0 => ?_))
  have g0 := h0 0 (by simp)
  have g1 := h0 1 (by simp)
  change eget env 0 = .ptr (h.length + 1) 0 at g0
  change eget env 1 = .ptr h.length 0 at g1
  clear h0
  simp [loop_Loop_Close_1.c] at he
  simp [loop_Loop_Close_1.c, loop_Loop_Close_1.r0, loop_Loop_Close_1.r1, loop_Loop_Close_1.r2, loop_Loop_Close_1.r3, loop_Loop_Close_1.r4, g0, g1, he, okV, fV_eq, evNilchk, faddrV, e0, x1, e1, x2, e2, b2, x3, b3, e3, x4, e4]

theorem slow_spec {h : Heap} {l : Nat} (hl : l < h.length) (v : Nat → V) (a g s c : V) :
    callW Φ sync_Once_doSlow [.ptr l 12, .fn (.func 50) [] [.ptr (h.length + 1) 0, .ptr h.length 0]] (HS h l [v 0, v 1, v 2, v 3, v 4, v 5, v 6, v 7, v 8, v 9, a, g, .int .u32 0, .int .i32 0, s, c] false) =
      some (.tup [], HS h l [.nils, .nils, .nils, .nils, .nils, .nils, .nils, .nils, .nils, .nils, a, g, .int .u32 1, .int .i32 0, s, .bool true] true) := by
  have c1 := close1_spec hl v a g (.int .u32 0) (.int .i32 1) s c
  have e0 : evOnceIn (HS h l [v 0, v 1, v 2, v 3, v 4, v 5, v 6, v 7, v 8, v 9, a, g, .int .u32 0, .int .i32 0, s, c] false) (.ptr l 12) (.fn (.func 50) [] [.ptr (h.length + 1) 0, .ptr h.length 0]) =
      some (V.non, HS h l [v 0, v 1, v 2, v 3, v 4, v 5, v 6, v 7, v 8, v 9, a, g, .int .u32 0, .int .i32 1, s, c] false) := by
    have hs : evStoreV (HS h l [v 0, v 1, v 2, v 3, v 4, v 5, v 6, v 7, v 8, v 9, a, g, .int .u32 0, .int .i32 0, s, c] false) 1 (.ptr l 13) (.int .i32 1) = some (V.non, HS h l [v 0, v 1, v 2, v 3, v 4, v 5, v 6, v 7, v 8, v 9, a, g, .int .u32 0, .int .i32 1, s, c] false) := HS.store (C := [v 0, v 1, v 2, v 3, v 4, v 5, v 6, v 7, v 8, v 9, a, g, .int .u32 0, .int .i32 0, s, c]) (b := false) (off := 13) (x := .int .i32 1) hl (by simp) rfl rfl
    have ha : cellsAt (HS h l [v 0, v 1, v 2, v 3, v 4, v 5, v 6, v 7, v 8, v 9, a, g, .int .u32 0, .int .i32 0, s, c] false) (.ptr l 12) = some [.int .u32 0, .int .i32 0, s, c] := HS.at (C := [v 0, v 1, v 2, v 3, v 4, v 5, v 6, v 7, v 8, v 9, a, g, .int .u32 0, .int .i32 0, s, c]) (b := false) hl 12 (by simp)
    simp [evOnceIn, ha, hs]
  have e1 : evOnceOut (HS h l [.nils, .nils, .nils, .nils, .nils, .nils, .nils, .nils, .nils, .nils, a, g, .int .u32 0, .int .i32 1, s, .bool true] true) (.ptr l 12) =
      some (V.non, HS h l [.nils, .nils, .nils, .nils, .nils, .nils, .nils, .nils, .nils, .nils, a, g, .int .u32 1, .int .i32 0, s, .bool true] true) := by
    have ha : cellsAt (HS h l [.nils, .nils, .nils, .nils, .nils, .nils, .nils, .nils, .nils, .nils, a, g, .int .u32 0, .int .i32 1, s, .bool true] true) (.ptr l 12) = some [.int .u32 0, .int .i32 1, s, .bool true] := HS.at (C := [.nils, .nils, .nils, .nils, .nils, .nils, .nils, .nils, .nils, .nils, a, g, .int .u32 0, .int .i32 1, s, .bool true]) (b := true) hl 12 (by simp)
    have h1 : evStoreV (HS h l [.nils, .nils, .nils, .nils, .nils, .nils, .nils, .nils, .nils, .nils, a, g, .int .u32 0, .int .i32 1, s, .bool true] true) 1 (.ptr l 12) (.int .u32 1) = some (V.non, HS h l [.nils, .nils, .nils, .nils, .nils, .nils, .nils, .nils, .nils, .nils, a, g, .int .u32 1, .int .i32 1, s, .bool true] true) := HS.store (C := [.nils, .nils, .nils, .nils, .nils, .nils, .nils, .nils, .nils, .nils, a, g, .int .u32 0, .int .i32 1, s, .bool true]) (b := true) (off := 12) (x := .int .u32 1) hl (by simp) rfl rfl
    have h2 : evStoreV (HS h l [.nils, .nils, .nils, .nils, .nils, .nils, .nils, .nils, .nils, .nils, a, g, .int .u32 1, .int .i32 1, s, .bool true] true) 1 (.ptr l 13) (.int .i32 0) = some (V.non, HS h l [.nils, .nils, .nils, .nils, .nils, .nils, .nils, .nils, .nils, .nils, a, g, .int .u32 1, .int .i32 0, s, .bool true] true) := HS.store (C := [.nils, .nils, .nils, .nils, .nils, .nils, .nils, .nils, .nils, .nils, a, g, .int .u32 1, .int .i32 1, s, .bool true]) (b := true) (off := 13) (x := .int .i32 0) hl (by simp) rfl rfl
    simp [evOnceOut, ha, h1, h2]
  refine callW_rough sync_Once_doSlow.Φ rfl (body_q (Nat.le_of_ble_eq_true rfl) (fun env he h0 => ?_))
  have g0 := h0 0 (by simp)
  have g1 := h0 1 (by simp)
  change eget env 0 = .ptr l 12 at g0
  change eget env 1 = .fn (.func 50) [] [.ptr (h.length + 1) 0, .ptr h.length 0] at g1
  clear h0
  simp [primSlow] at he
  simp [primSlow, g0, g1, he, e0, c1, e1]

/-- Closed: nothing waits any more. -/
def closeL (L : LS) : LS := if L.closed then L else ⟨fun _ => [], [], L.clock, L.given, true⟩

theorem close_spec {h : Heap} {l : Nat} {L : LS} {f : Nat → Option Nat} (hr : Rep h l L f) :
    ∃ h' f', callW Φ loop_Loop_Close [.ptr l 0] h = some (.bool (!L.closed), h') ∧ Rep h' l (closeL L) f' ∧ Fr h h' l f f' := by
  obtain ⟨v, hr⟩ := hr
  have hl := (List.getElem?_eq_some_iff.1 hr.1).1
  have hHS : ∀ b, h ++ [Ob.cells [.ptr l 0], Ob.cells [.bool b]] = HS h l (cellsL v L) b := fun b => by
    unfold HS
    apply List.ext_getElem?
    intro j
    by_cases hj : j = l
    · subst hj
      rw [List.getElem?_set_self (by simp; omega), List.getElem?_append_left hl]
      exact hr.1
    · rw [List.getElem?_set_ne (Ne.symm hj)]
  have hb : evBox h [.ptr l 0] = some (.ptr h.length 0, h ++ [.cells [.ptr l 0]]) := by simp [evBox, V.isCell]
  have hc0 : cellsAt (h ++ [Ob.cells [.ptr l 0]]) (.ptr h.length 0) = some [.ptr l 0] := by simp [cellsAt]
  have hst : evStoreV (HS h l (cellsL v L) false) 1 (.ptr (h.length + 1) 0) (.bool false) = some (V.non, HS h l (cellsL v L) false) := HS.told hl false
  have hbx := HS.box (C := cellsL v L) (b := false) hl
  have h12 := HS.at (C := cellsL v L) (b := false) hl 12 (by rw [cells_len]; omega)
  have hy := yes59 (h := HS h l (cellsL v L) false) (l := l) (off := 12) (n := if L.closed then 1 else 0) h12
  -- Once.Do
  have honce : callW Φ sync_Once_Do [.ptr l 12, .fn (.func 50) [] [.ptr (h.length + 1) 0, .ptr h.length 0]] (HS h l (cellsL v L) false) =
      some (.tup [], if L.closed then HS h l (cellsL v L) false else HS h l [.nils, .nils, .nils, .nils, .nils, .nils, .nils, .nils, .nils, .nils, .int .i64 L.clock, .int .i64 L.given, .int .u32 1, .int .i32 0, .int .u32 0, .bool true] true) := by
    refine callW_rough sync_Once_Do.Φ rfl (body_q (Nat.le_of_ble_eq_true rfl) (fun env he h0 => ?_))
    have g0 := h0 0 (by simp)
    have g1 := h0 1 (by simp)
    change eget env 0 = .ptr l 12 at g0
    change eget env 1 = .fn (.func 50) [] [.ptr (h.length + 1) 0, .ptr h.length 0] at g1
    clear h0
    simp [sync_Once_Do.c] at he
    cases hcl : L.closed with
    | true =>
      rw [hcl] at hy
      simp [sync_Once_Do.c, sync_Once_Do.r0, g0, g1, he, okV, fV_eq, evNilchk, faddrV, hy]
    | false =>
      rw [hcl] at hy
      have hs := slow_spec hl v (.int .i64 L.clock) (.int .i64 L.given) (.int .u32 0) (.bool false)
      have ec : cellsL v L = [v 0, v 1, v 2, v 3, v 4, v 5, v 6, v 7, v 8, v 9, .int .i64 L.clock, .int .i64 L.given, .int .u32 0, .int .i32 0, .int .u32 0, .bool false] := by simp [cellsL, hcl]
      rw [← ec] at hs
      simp [sync_Once_Do.c, sync_Once_Do.r0, sync_Once_Do.r1, g0, g1, he, okV, fV_eq, evNilchk, faddrV, hy, hs]
  have hgo : ∀ (H : Heap) (b : Bool), callW Φ sync_Once_Do [.ptr l 12, .fn (.func 50) [] [.ptr (h.length + 1) 0, .ptr h.length 0]] (HS h l (cellsL v L) false) = some (.tup [], H) → cellsAt H (.ptr (h.length + 1) 0) = some [.bool b] →
      callW Φ loop_Loop_Close [.ptr l 0] h = some (.bool b, H) := by
    intro H b ho hb2
    refine callW_rough loop_Loop_Close.Φ rfl (body_q (Nat.le_of_ble_eq_true rfl) (fun env he h0 => ?_))
    have g0 := h0 0 (by simp)
    change eget env 0 = .ptr l 0 at g0
    clear h0
    simp [loop_Loop_Close.c] at he
    simp [loop_Loop_Close.c, loop_Loop_Close.r0, loop_Loop_Close.r1, loop_Loop_Close.r3, loop_Loop_Close.r4, loop_Loop_Close.r5, g0, he, okV, fV_eq, evNilchk, evEqn, eqnV, nilOf, V.cells, hb, hc0, hHS, hst, hbx, faddrV, ho, hb2]
  cases hcl : L.closed with
  | true =>
    simp only [hcl, if_true] at honce
    refine ⟨_, f, hgo _ false honce (HS.ans hl), ?_, ?_⟩
    · simp only [closeL, hcl, if_true]
      rw [← hHS]
      exact ⟨v, hr.ext _⟩
    · rw [← hHS]
      exact Fr.ext _ _ _ _
  | false =>
    simp only [hcl, Bool.false_eq_true, if_false] at honce
    refine ⟨_, fun _ => none, hgo _ true honce (HS.ans hl), ⟨fun _ => .nils, ?_, ?_, ?_⟩, ?_, ?_, ?_⟩
    · rw [HS.get hl]
      simp [closeL, hcl, cellsL]
    · intro i hi
      exact .inl ⟨rfl, by simp [cont, closeL, hcl], rfl⟩
    · intro i j id _ _ hh
      cases hh
    · simp [HS]
    · intro j hj hno
      unfold HS
      rw [List.getElem?_set_ne (fun e => hno (.inl e.symm)), List.getElem?_append_left hj]
    · intro j hj
      rcases hj with rfl | ⟨i, _, hh⟩
      · exact .inl (.inl rfl)
      · cases hh
end Go.Proofs.Lp
