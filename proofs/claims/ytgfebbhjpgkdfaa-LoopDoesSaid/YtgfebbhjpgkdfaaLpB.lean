/- The program's loop: what it stands for, and its small calls. No conditions. -/
import Derived.Test.YtgfebbhjpgkdfaaLpA
import Derived.Test.YtgfebbhjpgkdfaaLpD
namespace Go.Proofs.Lp
open Go Go.Ev
set_option linter.unusedVariables false
set_option linter.unusedSimpArgs false

/-- A loop: what waits (0: microtasks; i + 1: tasks of source i), timers, the clock. -/
structure LS where
  q : Nat → List Int
  tm : List Tm
  clock : Int
  given : Int
  closed : Bool

def cont (L : LS) (i : Nat) : List (List V) := if i = 9 then L.tm.map cT else (L.q i).map cI
def szi (i : Nat) : Nat := if i = 9 then 3 else 1
def cellsL (v : Nat → V) (L : LS) : List V := [v 0, v 1, v 2, v 3, v 4, v 5, v 6, v 7, v 8, v 9, .int .i64 L.clock, .int .i64 L.given, .int .u32 (if L.closed then 1 else 0), .int .i32 0, .int .u32 0, .bool L.closed]

def RepV (h : Heap) (l : Nat) (L : LS) (f : Nat → Option Nat) (v : Nat → V) : Prop :=
  h[l]? = some (.cells (cellsL v L)) ∧ (∀ i, i < 10 → SL h (szi i) (v i) (f i) (cont L i)) ∧ ∀ i j id, i < 10 → j < 10 → f i = some id → f j = some id → i = j
def Rep (h : Heap) (l : Nat) (L : LS) (f : Nat → Option Nat) : Prop := ∃ v, RepV h l L f v
def own (l : Nat) (f : Nat → Option Nat) (j : Nat) : Prop := j = l ∨ ∃ i, i < 10 ∧ f i = some j
structure Fr (h h' : Heap) (l : Nat) (f f' : Nat → Option Nat) : Prop where
  len : h.length ≤ h'.length
  rest : ∀ j, j < h.length → ¬ own l f j → h'[j]? = h[j]?
  new : ∀ j, own l f' j → own l f j ∨ h.length ≤ j

theorem Fr.refl (h : Heap) (l : Nat) (f : Nat → Option Nat) : Fr h h l f f := ⟨Nat.le_refl _, fun _ _ _ => rfl, fun _ h => .inl h⟩
theorem Fr.trans {h h1 h2 : Heap} {l : Nat} {f f1 f2 : Nat → Option Nat} (a : Fr h h1 l f f1) (b : Fr h1 h2 l f1 f2) : Fr h h2 l f f2 := by
  refine ⟨Nat.le_trans a.len b.len, fun j hj hn => ?_, fun j hj => ?_⟩
  · rw [b.rest j (Nat.lt_of_lt_of_le hj a.len) (fun ho => ?_), a.rest j hj hn]
    rcases a.new j ho with h | h
    · exact hn h
    · omega
  · rcases b.new j hj with h | h
    · exact a.new j h
    · exact .inr (Nat.le_trans a.len h)

theorem Rep.mono {h h' : Heap} {l : Nat} {L : LS} {f : Nat → Option Nat} (hr : Rep h l L f) (hh : ∀ j, own l f j → h'[j]? = h[j]?) : Rep h' l L f := by
  obtain ⟨v, h1, h2, h3⟩ := hr
  exact ⟨v, by rw [hh l (.inl rfl)]; exact h1, fun i hi => (h2 i hi).mono (fun id hid => hh id (.inr ⟨i, hi, hid⟩)), h3⟩

theorem Rep.lt {h : Heap} {l : Nat} {L : LS} {f : Nat → Option Nat} (hr : Rep h l L f) {j : Nat} (hj : own l f j) : j < h.length := by
  obtain ⟨v, h1, h2, h3⟩ := hr
  rcases hj with rfl | ⟨i, hi, hf⟩
  · exact (List.getElem?_eq_some_iff.1 h1).1
  · exact (h2 i hi).lt hf

theorem cells_get (v : Nat → V) (L : LS) {i : Nat} (hi : i < 10) : (cellsL v L)[i]? = some (v i) := by
  rcases i with _ | _ | _ | _ | _ | _ | _ | _ | _ | _ | i <;> first | rfl | omega
theorem cells_len (v : Nat → V) (L : LS) : (cellsL v L).length = 16 := rfl
def upv (v : Nat → V) (i : Nat) (x : V) : Nat → V := fun k => if k = i then x else v k
theorem cells_set (v : Nat → V) (L : LS) (x : V) {i : Nat} (hi : i < 10) : (cellsL v L).set i x = cellsL (upv v i x) L := by
  rcases i with _ | _ | _ | _ | _ | _ | _ | _ | _ | _ | i <;> first | rfl | omega

/-- One of the lists is another one. -/
theorem RepV.upd {h h' : Heap} {l : Nat} {L L' : LS} {f : Nat → Option Nat} {v : Nat → V} (hr : RepV h l L f v) {i : Nat} (hi : i < 10) {v' : V} {o' : Option Nat}
    (hl : h'[l]? = some (.cells (cellsL (upv v i v') L'))) (hs : SL h' (szi i) v' o' (cont L' i)) (hc : ∀ k, k < 10 → k ≠ i → cont L' k = cont L k)
    (hlen : h.length ≤ h'.length) (hrest : ∀ j, j < h.length → j ≠ l → f i ≠ some j → h'[j]? = h[j]?) (hnew : ∀ id, o' = some id → f i = some id ∨ h.length ≤ id) :
    RepV h' l L' (fun k => if k = i then o' else f k) (upv v i v') ∧ Fr h h' l f (fun k => if k = i then o' else f k) := by
  obtain ⟨h1, h2, h3⟩ := hr
  have hfl : ∀ k, k < 10 → ∀ id, f k = some id → id < h.length := fun k hk id hid => (h2 k hk).lt hid
  have hne : ∀ k, k < 10 → ∀ id, f k = some id → id ≠ l := fun k hk id hid e => by
    subst e
    rcases h2 k hk with ⟨_, _, q⟩ | ⟨id', ep, pre, post, q, _, q2, _⟩
    · rw [q] at hid; cases hid
    · rw [q] at hid; cases hid
      rw [h1] at q2; cases q2
  refine ⟨⟨hl, fun k hk => ?_, fun a b id ha hb hfa hfb => ?_⟩, hlen, fun j hj hno => hrest j hj (fun e => hno (.inl e)) (fun e => hno (.inr ⟨i, hi, e⟩)), fun j hj => ?_⟩
  · by_cases e : k = i
    · subst e
      simp only [upv, if_true]
      exact hs
    · simp only [upv, if_neg e, hc k hk e]
      exact (h2 k hk).mono (fun id hid => hrest id (hfl k hk id hid) (hne k hk id hid) (fun q => e (h3 k i id hk hi hid q)))
  · by_cases ea : a = i
    · by_cases eb : b = i
      · rw [ea, eb]
      · simp only [if_pos ea, if_neg eb] at hfa hfb
        rcases hnew id hfa with q | q
        · exact absurd (h3 b i id hb hi hfb q) eb
        · have := hfl b hb id hfb; omega
    · by_cases eb : b = i
      · simp only [if_neg ea, if_pos eb] at hfa hfb
        rcases hnew id hfb with q | q
        · exact absurd (h3 a i id ha hi hfa q) ea
        · have := hfl a ha id hfa; omega
      · simp only [if_neg ea, if_neg eb] at hfa hfb
        exact h3 a b id ha hb hfa hfb
  · rcases hj with rfl | ⟨k, hk, hf⟩
    · exact .inl (.inl rfl)
    · by_cases e : k = i
      · simp only [if_pos e] at hf
        rcases hnew j hf with q | q
        · exact .inl (.inr ⟨i, hi, q⟩)
        · exact .inr q
      · simp only [if_neg e] at hf
        exact .inl (.inr ⟨k, hk, hf⟩)

/-- New: nothing waits. -/
def LS.new : LS := ⟨fun _ => [], [], 0, 0, false⟩
theorem new_spec (h : Heap) : ∃ f, callW Φ loop_New [] h = some (.ptr h.length 0, h ++ [.cells (cellsL (fun _ => .nils) LS.new)]) ∧ Rep (h ++ [.cells (cellsL (fun _ => .nils) LS.new)]) h.length LS.new f ∧ ∀ j, own h.length f j → h.length ≤ j := by
  refine ⟨fun _ => none, ?_, ⟨fun _ => .nils, by simp, fun i hi => .inl ⟨rfl, by simp [cont, LS.new], rfl⟩, fun i j id _ _ h => by cases h⟩, fun j hj => ?_⟩
  · refine callW_rough loop_New.Φ rfl (body_q (Nat.le_of_ble_eq_true rfl) (fun env he h0 => ?_))
    simp [loop_New.c] at he
    simp [loop_New.c, loop_New.r0, loop_New.r1, he, evBuild, placeParts, V.cells, V.isCell, evBox, cellsL, LS.new]
  · rcases hj with rfl | ⟨i, _, h⟩
    · exact Nat.le_refl _
    · cases h

/-- How many wait. -/
def sumq (L : LS) : Nat → Nat
  | 0 => 0
  | i + 1 => sumq L i + (L.q (i + 1)).length
def tot (L : LS) : Nat := (L.q 0).length + L.tm.length + sumq L 8

theorem sumq_le (L : LS) : ∀ {i j : Nat}, i ≤ j → sumq L i ≤ sumq L j
  | i, 0, h => by
    obtain rfl : i = 0 := by omega
    exact Nat.le_refl _
  | i, j + 1, h => by
    by_cases e : i = j + 1
    · subst e; exact Nat.le_refl _
    · have := sumq_le L (i := i) (j := j) (by omega)
      simp only [sumq]; omega
theorem q_le (L : LS) {i : Nat} (hi : i < 8) : (L.q (i + 1)).length ≤ sumq L 8 := by
  have := sumq_le L (i := i + 1) (j := 8) (by omega)
  simp only [sumq] at this ⊢; omega

set_option maxHeartbeats 2000000 in
theorem waits_spec {h : Heap} {l : Nat} {L : LS} {f : Nat → Option Nat} {v : Nat → V} (hr : RepV h l L f v) (ht : tot L < 2 ^ 40) : callW Φ loop_Loop_waits [.ptr l 0] h = some (.int .i64 (tot L), h) := by
  obtain ⟨hl, hs, hd⟩ := hr
  have hm := len_spec (off := 0) hl (cells_get v L (i := 0) (by decide)) (by simpa [szi] using hs 0 (by decide))
  have hlen : ∀ i, i < 8 → callW Φ loop_queue_int_len [.ptr l (i + 1)] h = some (.int .i64 ((L.q (i + 1)).length : Int), h) := fun i hi => by
    have := len_spec (off := i + 1) hl (cells_get v L (i := i + 1) (by omega)) (xs := cont L (i + 1)) (by have := hs (i + 1) (by omega); rwa [show szi (i + 1) = 1 by simp [szi]; omega] at this)
    rw [this]
    simp [cont, show ¬ (i + 1 = 9) by omega]
  have h9 := (hs 9 (by decide)).len h
  have hc9 : cellsAt h (.ptr l 9) = some ([v 9, .int .i64 L.clock, .int .i64 L.given, .int .u32 (if L.closed then 1 else 0), .int .i32 0, .int .u32 0, .bool L.closed]) := by simp [cellsAt, hl, cellsL]
  have t0 : (cont L 0).length = (L.q 0).length := by simp [cont]
  have t9 : (cont L 9).length = L.tm.length := by simp [cont]
  have hw0 : IntKind.i64.wrap (((L.q 0).length : Int) + (L.tm.length : Int)) = (((L.q 0).length + L.tm.length : Nat) : Int) := by unfold tot at ht; rw [Ev.wrap64] <;> omega
  rw [t0] at hm
  rw [t9] at h9
  refine callW_rough loop_Loop_waits.Φ rfl (body_q (Nat.le_of_ble_eq_true rfl) (fun env he h0 => ?_))
  have g0 := h0 0 (by simp)
  change eget env 0 = .ptr l 0 at g0
  clear h0
  simp [loop_Loop_waits.c] at he
  simp [loop_Loop_waits.c, loop_Loop_waits.r0, he]
  refine kDraw2 loop_Loop_waits.r1.ord ?_
  simp [loop_Loop_waits.r1, List.filterMap_cons, g0, he, evNilchk, okV, fV_eq, hm, hc9, h9, hw0, List.set_comm]
  simp [loop_Loop_waits.r2]
  refine kLoop (fun m s => ∃ i : Nat, m = 8 - i ∧ i ≤ 8 ∧ s.env.length = 28 ∧ eget s.env 0 = .ptr l 0 ∧ eget s.env 15 = .int .i64 i ∧ eget s.env 3 = .int .i64 (((L.q 0).length + L.tm.length + sumq L i : Nat) : Int) ∧ s.marks = [] ∧ s.heap = h) 8 ⟨0, by simp [g0, he, sumq]⟩ ?_
  rintro m ⟨e, mk, hp⟩ ⟨i, rfl, hi, he, k0, k15, k3, hm, hh⟩
  simp only at he k0 k15 k3 hm hh
  subst hm hh
  by_cases hlt : i < 8
  · have hw1 : IntKind.i64.wrap ((i : Int) + 1) = ((i + 1 : Nat) : Int) := by rw [Ev.wrap64] <;> omega
    have hsum : sumq L i + (L.q (i + 1)).length ≤ sumq L 8 := sumq_le L (i := i + 1) (j := 8) (by omega)
    have hw2 : IntKind.i64.wrap ((((L.q 0).length + L.tm.length + sumq L i : Nat) : Int) + ((L.q (i + 1)).length : Int)) = (((L.q 0).length + L.tm.length + sumq L (i + 1) : Nat) : Int) := by
      unfold tot at ht
      have : sumq L (i + 1) = sumq L i + (L.q (i + 1)).length := rfl
      rw [this, Ev.wrap64] <;> omega
    have hi8 : (i : Int) < 8 := by omega
    have h0i : (0 : Int) ≤ (i : Int) := by omega
    have hia : evIaddrA hp 8 1 (.ptr l 1) (.int .i64 i) = some (.ptr l (i + 1), hp) := by
      simp [evIaddrA, hi8, okV, fV_eq, Nat.add_comm]
    simp [loop_Loop_waits.b7, loop_Loop_waits.r3, loop_Loop_waits.r4, loop_Loop_waits.r5, loop_Loop_waits.r6, k0, k15, k3, he, hi8, hia, hlen i hlt, okV, fV_eq, evNilchk]
    exact ⟨8 - (i + 1), by omega, i + 1, rfl, by omega, by simpa using hw1, by simpa using hw2⟩
  · have : i = 8 := by omega
    subst this
    simp [loop_Loop_waits.b7, loop_Loop_waits.r3, loop_Loop_waits.r8, k0, k15, k3, he, okV, fV_eq, tot]

/-- Why nothing more may wait. -/
def faultV (L : LS) (ok : Bool) : Int := if L.closed then 15 else if ok = false then 2 else if 4096 ≤ tot L then 3 else 0

theorem fault_spec {h : Heap} {l : Nat} {L : LS} {f : Nat → Option Nat} {v : Nat → V} (hr : RepV h l L f v) (ht : tot L < 2 ^ 40) (ok : Bool) :
    callW Φ loop_Loop_fault [.ptr l 0, .bool ok] h = some (.int .i64 (faultV L ok), h) := by
  have hw := waits_spec hr ht
  obtain ⟨hl, hs, hd⟩ := hr
  have hc : cellsAt h (.ptr l 15) = some [.bool L.closed] := by simp [cellsAt, hl, cellsL]
  refine callW_rough loop_Loop_fault.Φ rfl (body_q (Nat.le_of_ble_eq_true rfl) (fun env he h0 => ?_))
  have g0 := h0 0 (by simp)
  have g1 := h0 1 (by simp)
  change eget env 0 = .ptr l 0 at g0
  change eget env 1 = .bool ok at g1
  clear h0
  simp [loop_Loop_fault.c] at he
  cases hcl : L.closed with
  | true =>
    rw [hcl] at hc
    simp [loop_Loop_fault.c, loop_Loop_fault.r0, loop_Loop_fault.r1, loop_Loop_fault.r3, loop_Loop_fault.r4, g0, g1, he, okV, fV_eq, evNilchk, evEqn, eqnV, nilOf, hc, faultV, hcl]
  | false =>
    rw [hcl] at hc
    cases ok with
    | false =>
      simp [loop_Loop_fault.c, loop_Loop_fault.r0, loop_Loop_fault.r1, loop_Loop_fault.r3, loop_Loop_fault.r5, loop_Loop_fault.r6, g0, g1, he, okV, fV_eq, evNilchk, evEqn, eqnV, nilOf, hc, faultV, hcl]
    | true =>
      by_cases ht2 : 4096 ≤ tot L
      · have hd : decide ((tot L : Int) ≥ 4096) = true := by simp; omega
        have hd2 : (4096 : Int) ≤ (tot L : Int) := by omega
        simp [loop_Loop_fault.c, loop_Loop_fault.r0, loop_Loop_fault.r1, loop_Loop_fault.r3, loop_Loop_fault.r5, loop_Loop_fault.r7, loop_Loop_fault.r8, g0, g1, he, okV, fV_eq, evNilchk, evEqn, eqnV, nilOf, hc, hw, hd2, faultV, hcl, ht2]
      · have hd2 : ¬ (4096 : Int) ≤ (tot L : Int) := by omega
        simp [loop_Loop_fault.c, loop_Loop_fault.r0, loop_Loop_fault.r1, loop_Loop_fault.r3, loop_Loop_fault.r5, loop_Loop_fault.r7, loop_Loop_fault.r9, g0, g1, he, okV, fV_eq, evNilchk, evEqn, eqnV, nilOf, hc, hw, hd2, faultV, hcl, ht2]

def upq (L : LS) (i : Nat) (l : List Int) : LS := { L with q := fun k => if k = i then l else L.q k }

theorem put_rep {h : Heap} {l : Nat} {L : LS} {f : Nat → Option Nat} {v : Nat → V} (hr : RepV h l L f v) {i : Nat} (hi : i < 9) (hroom : (L.q i).length < 2 ^ 40) (x : Int) :
    ∃ h' f', callW Φ loop_queue_int_put [.ptr l i, .int .i64 x] h = some (.tup [], h') ∧ Rep h' l (upq L i (L.q i ++ [x])) f' ∧ Fr h h' l f f' := by
  have h9 : ¬ (i = 9) := by omega
  have hsi := hr.2.1 i (by omega)
  rw [show szi i = 1 by simp [szi, h9]] at hsi
  obtain ⟨v', o', h', hc, hl', hs', hlen, hrest, hnew⟩ := put_spec hr.1 (cells_get v L (by omega)) hsi (by simpa [cont, h9] using hroom) x
  rw [cells_set v L v' (by omega)] at hl'
  obtain ⟨r1, r2⟩ := RepV.upd hr (i := i) (by omega) (L' := upq L i (L.q i ++ [x])) (v' := v') (o' := o') hl' (by rw [show szi i = 1 by simp [szi, h9]]; simpa [cont, h9, upq] using hs')
    (fun k hk hne => by simp [cont, upq, hne]) hlen hrest hnew
  exact ⟨h', _, hc, ⟨_, r1⟩, r2⟩

def taskL (L : LS) (source x : Int) : LS := if faultV L (decide (0 ≤ source ∧ source < 8)) = 0 then upq L (source.toNat + 1) (L.q (source.toNat + 1) ++ [x]) else L
def microL (L : LS) (x : Int) : LS := if faultV L true = 0 then upq L 0 (L.q 0 ++ [x]) else L

theorem task_spec {h : Heap} {l : Nat} {L : LS} {f : Nat → Option Nat} (hr : Rep h l L f) (ht : tot L < 2 ^ 40) (source x : Int) :
    ∃ h' f', callW Φ loop_Loop_Task [.ptr l 0, .int .i64 source, .int .i64 x] h = some (.int .i64 (faultV L (decide (0 ≤ source ∧ source < 8))), h') ∧ Rep h' l (taskL L source x) f' ∧ Fr h h' l f f' := by
  obtain ⟨v, hr⟩ := hr
  have hf := fault_spec hr ht (decide (0 ≤ source ∧ source < 8))
  by_cases hz : faultV L (decide (0 ≤ source ∧ source < 8)) = 0
  · have hs : 0 ≤ source ∧ source < 8 := by
      unfold faultV at hz
      split at hz
      · cases hz
      · split at hz
        · cases hz
        · rename_i hd; simpa using hd
    obtain ⟨i, rfl⟩ := Int.eq_ofNat_of_zero_le hs.1
    obtain ⟨h', f', hc, hr', hfr⟩ := put_rep hr (i := i + 1) (by omega) (by have := q_le L (i := i) (by omega); unfold tot at ht; omega) x
    refine ⟨h', f', ?_, ?_, hfr⟩
    · refine callW_rough loop_Loop_Task.Φ rfl (body_q (Nat.le_of_ble_eq_true rfl) (fun env he h0 => ?_))
      have g0 := h0 0 (by simp)
      have g1 := h0 1 (by simp)
      have g2 := h0 2 (by simp)
      change eget env 0 = .ptr l 0 at g0
      change eget env 1 = .int .i64 i at g1
      change eget env 2 = .int .i64 x at g2
      clear h0
      simp [loop_Loop_Task.c] at he
      have hi8 : (i : Int) < 8 := hs.2
      have hia : evIaddrA h 8 1 (.ptr l 1) (.int .i64 i) = some (.ptr l (i + 1), h) := by simp [evIaddrA, hi8, okV, fV_eq, Nat.add_comm]
      simp only [hs, and_self, decide_true] at hz hf ⊢
      rw [hz] at hf
      simp [loop_Loop_Task.c, loop_Loop_Task.r0, loop_Loop_Task.r1, loop_Loop_Task.r2, loop_Loop_Task.r3, loop_Loop_Task.r4, g0, g1, g2, he, okV, fV_eq, evNilchk, evPick, hi8, hf, hz, hia, hc]
    · simp only [taskL, if_pos hz, Int.toNat_natCast]
      exact hr'
  · refine ⟨h, f, ?_, by simp only [taskL, if_neg hz]; exact ⟨v, hr⟩, .refl _ _ _⟩
    refine callW_rough loop_Loop_Task.Φ rfl (body_q (Nat.le_of_ble_eq_true rfl) (fun env he h0 => ?_))
    have g0 := h0 0 (by simp)
    have g1 := h0 1 (by simp)
    have g2 := h0 2 (by simp)
    change eget env 0 = .ptr l 0 at g0
    change eget env 1 = .int .i64 source at g1
    change eget env 2 = .int .i64 x at g2
    clear h0
    simp [loop_Loop_Task.c] at he
    have hzb : (faultV L (decide (0 ≤ source ∧ source < 8)) == 0) = false := by simpa using hz
    by_cases a : 0 ≤ source
    · have e1 : decide (0 ≤ source ∧ source < 8) = decide (source < 8) := by simp [a]
      rw [e1] at hf hzb ⊢
      simp [loop_Loop_Task.c, loop_Loop_Task.r0, loop_Loop_Task.r1, loop_Loop_Task.r2, loop_Loop_Task.r4, g0, g1, g2, he, okV, fV_eq, evNilchk, evPick, a, hf, hzb]
    · have e1 : decide (0 ≤ source ∧ source < 8) = false := by simp [a]
      rw [e1] at hf hzb ⊢
      simp [loop_Loop_Task.c, loop_Loop_Task.r0, loop_Loop_Task.r1, loop_Loop_Task.r2, loop_Loop_Task.r4, g0, g1, g2, he, okV, fV_eq, evNilchk, evPick, a, hf, hzb]

theorem micro_spec {h : Heap} {l : Nat} {L : LS} {f : Nat → Option Nat} (hr : Rep h l L f) (ht : tot L < 2 ^ 40) (x : Int) :
    ∃ h' f', callW Φ loop_Loop_Micro [.ptr l 0, .int .i64 x] h = some (.int .i64 (faultV L true), h') ∧ Rep h' l (microL L x) f' ∧ Fr h h' l f f' := by
  obtain ⟨v, hr⟩ := hr
  have hf := fault_spec hr ht true
  by_cases hz : faultV L true = 0
  · obtain ⟨h', f', hc, hr', hfr⟩ := put_rep hr (i := 0) (by omega) (by unfold tot at ht; omega) x
    refine ⟨h', f', ?_, by simp only [microL, if_pos hz]; exact hr', hfr⟩
    refine callW_rough loop_Loop_Micro.Φ rfl (body_q (Nat.le_of_ble_eq_true rfl) (fun env he h0 => ?_))
    have g0 := h0 0 (by simp)
    have g1 := h0 1 (by simp)
    change eget env 0 = .ptr l 0 at g0
    change eget env 1 = .int .i64 x at g1
    clear h0
    simp [loop_Loop_Micro.c] at he
    rw [hz] at hf
    simp [loop_Loop_Micro.c, loop_Loop_Micro.r0, loop_Loop_Micro.r1, loop_Loop_Micro.r2, loop_Loop_Micro.r3, loop_Loop_Micro.r4, g0, g1, he, okV, fV_eq, evNilchk, hf, hz, hc]
  · refine ⟨h, f, ?_, by simp only [microL, if_neg hz]; exact ⟨v, hr⟩, .refl _ _ _⟩
    refine callW_rough loop_Loop_Micro.Φ rfl (body_q (Nat.le_of_ble_eq_true rfl) (fun env he h0 => ?_))
    have g0 := h0 0 (by simp)
    have g1 := h0 1 (by simp)
    change eget env 0 = .ptr l 0 at g0
    change eget env 1 = .int .i64 x at g1
    clear h0
    simp [loop_Loop_Micro.c] at he
    have hzb : (faultV L true == 0) = false := by simpa using hz
    simp [loop_Loop_Micro.c, loop_Loop_Micro.r0, loop_Loop_Micro.r1, loop_Loop_Micro.r2, loop_Loop_Micro.r4, g0, g1, he, okV, fV_eq, evNilchk, hf, hzb]
end Go.Proofs.Lp
