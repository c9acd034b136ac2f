/- The program's loop: Fork. No conditions. -/
import Derived.Test.YtgfebbhjpgkdfaaLpFc
namespace Go.Proofs.Lp
open Go Go.Ev
set_option linter.unusedVariables false
set_option linter.unusedSimpArgs false

theorem isC_nils : V.isCell .nils = true := rfl
theorem isC_int (k : IntKind) (n : Int) : V.isCell (.int k n) = true := rfl
theorem isC_bool (b : Bool) : V.isCell (.bool b) = true := rfl
theorem cel_agg (l : List V) : V.cells (.agg l) = l := rfl
theorem cel_int (k : IntKind) (n : Int) : V.cells (.int k n) = [.int k n] := rfl

set_option maxHeartbeats 8000000 in
set_option maxRecDepth 8000 in
theorem fork1 {h : Heap} {l : Nat} {L : LS} {f : Nat → Option Nat} (hr : Rep h l L f) (ht : tot L < 2 ^ 40)
    {env : List V} (he : env.length = 52) (g0 : eget env 0 = .ptr l 0) :
    WK (callW Φ) none (fun e s' => e = .normal ∧ (∃ m fm, eget s'.env 3 = .ptr m 0 ∧ Rep s'.heap m (forkL L 0) fm ∧ (∀ j, j < h.length → s'.heap[j]? = h[j]?) ∧ ∀ j, own m fm j → h.length ≤ j) ∧ s'.marks = [] ∧ s'.env.length = 52 ∧ eget s'.env 0 = .ptr l 0)
      [.c (fst (snd (snd loop_Loop_Fork.c.body)))] { env := env, marks := [], heap := h } := by
  obtain ⟨v, hr⟩ := hr
  have hq0 : (L.q 0).length ≤ tot L := by unfold tot; omega
  have hqt : L.tm.length ≤ tot L := by unfold tot; omega
  have hll := (List.getElem?_eq_some_iff.1 hr.1).1
  obtain ⟨v0, o0, h1, c0, s0, n0, r0, w0⟩ := own_spec (off := 0) hr.1 (cells_get v L (i := 0) (by decide)) (hr.sq (i := 0) (by decide)) (by rw [List.length_map]; omega)
  have hr1 := hr.mono r0
  obtain ⟨v9, o9, h2, c9, s9, n9, r9, w9⟩ := clone3_spec hr1.s9 (by rw [List.length_map]; omega)
  have hr2 := hr1.mono r9
  have t0 := hr.c9
  have t1 := hr1.c9
  have k0 : cellsAt h (.ptr l 10) = some [.int .i64 L.clock, .int .i64 L.given, .int .u32 (if L.closed then 1 else 0), .int .i32 0, .int .u32 0, .bool L.closed] := by simp [cellsAt, hr.1, cellsL]
  have k1 : cellsAt h1 (.ptr l 10) = some [.int .i64 L.clock, .int .i64 L.given, .int .u32 (if L.closed then 1 else 0), .int .i32 0, .int .u32 0, .bool L.closed] := by simp [cellsAt, hr1.1, cellsL]
  have k2 : cellsAt h2 (.ptr l 10) = some [.int .i64 L.clock, .int .i64 L.given, .int .u32 (if L.closed then 1 else 0), .int .i32 0, .int .u32 0, .bool L.closed] := by simp [cellsAt, hr2.1, cellsL]
  obtain ⟨C, hC⟩ : ∃ C : List V, C = [v0, .nils, .nils, .nils, .nils, .nils, .nils, .nils, .nils, v9, .int .i64 L.clock, .int .i64 0, .int .u32 0, .int .i32 0, .int .u32 0, .bool false] := ⟨_, rfl⟩
  have hb : evBuild h2 [.nils, .nils, .nils, .nils, .nils, .nils, .nils, .nils, .nils, .nils, .int .i64 0, .int .i64 0, .int .u32 0, .int .i32 0, .int .u32 0, .bool false] [(0, 1, .agg [v0]), (9, 1, v9), (10, 1, .int .i64 L.clock)] = some (.agg C, h2) := by
    rw [hC]
    simp [evBuild, placeParts, cel_agg, cel_int, isC_nils, isC_int, isC_bool, s0.cell.1, s9.cell.1, s9.cell.2, setRange]
  have hx : evBox h2 C = some (.ptr h2.length 0, h2 ++ [Ob.cells C]) := by
    rw [hC]
    simp [evBox, isC_nils, isC_int, isC_bool, s0.cell.1, s9.cell.1]
  have hCc : (V.agg C).cells = C := rfl
  have hrep : Rep (h2 ++ [Ob.cells C]) h2.length (forkL L 0) (fun k => if k = 0 then o0 else if k = 9 then o9 else none) := by
    refine ⟨fun k => if k = 0 then v0 else if k = 9 then v9 else .nils, by rw [hC]; simp [cellsL, forkL], fun i hi => ?_, fun i j id hi hj hfi hfj => ?_⟩
    · have keep : ∀ {sz v o xs}, SL h2 sz v o xs → SL (h2 ++ [Ob.cells C]) sz v o xs := fun s => s.mono fun id hid => by rw [List.getElem?_append_left (s.lt hid)]
      by_cases e0 : i = 0
      · subst e0
        simp only [if_true]
        exact keep (s0.mono fun id hid => r9 id (s0.lt hid))
      · by_cases e9 : i = 9
        · subst e9
          simp only [if_true]
          exact keep s9
        · simp only [if_neg e0, if_neg e9]
          have : ¬ i ≤ 0 := by omega
          exact .inl ⟨rfl, by simp [cont, e9, forkL, e0], rfl⟩
    · have key : ∀ i id, (if i = 0 then o0 else if i = 9 then o9 else none) = some id → (i = 0 ∧ o0 = some id) ∨ (i = 9 ∧ o9 = some id) := fun i id h => by
        by_cases e0 : i = 0
        · rw [if_pos e0] at h; exact .inl ⟨e0, h⟩
        · rw [if_neg e0] at h
          by_cases e9 : i = 9
          · rw [if_pos e9] at h; exact .inr ⟨e9, h⟩
          · rw [if_neg e9] at h; cases h
      rcases key i id hfi with ⟨a1, a2⟩ | ⟨a1, a2⟩ <;> rcases key j id hfj with ⟨b1, b2⟩ | ⟨b1, b2⟩
      · omega
      · have := s0.lt a2; have := w9 id b2; omega
      · have := s0.lt b2; have := w9 id a2; omega
      · omega
  have hfin : (∀ j, j < h.length → (h2 ++ [Ob.cells C])[j]? = h[j]?) ∧ ∀ j, own h2.length (fun k => if k = 0 then o0 else if k = 9 then o9 else none) j → h.length ≤ j := by
    refine ⟨fun j hj => by rw [List.getElem?_append_left (by omega), r9 j (by omega), r0 j hj], fun j hj => ?_⟩
    rcases hj with rfl | ⟨i, hi, hf⟩
    · omega
    · simp only at hf
      by_cases e0 : i = 0
      · rw [if_pos e0] at hf; exact w0 j hf
      · rw [if_neg e0] at hf
        by_cases e9 : i = 9
        · rw [if_pos e9] at hf; have := w9 j hf; omega
        · rw [if_neg e9] at hf; cases hf
  simp only [fst, snd, loop_Loop_Fork.c]
  refine kDraw2 loop_Loop_Fork.r3.ord ?_
  simp (config := { maxSteps := 5000000 }) [loop_Loop_Fork.r3, List.filterMap_cons, g0, he, okV, fV_eq, evNilchk, faddrV, c0, c9, t0, t1, k0, k1, k2, hb, hx, hCc, ofCells]
  refine ⟨?_, _, hrep, hfin.1, hfin.2⟩
  repeat' apply And.intro
  all_goals
    simp only [set_puts, puts_puts, List.cons_append, List.nil_append]
    exact puts_ext _ rfl rfl rfl rfl

set_option maxHeartbeats 8000000 in
set_option maxRecDepth 8000 in
theorem fork_spec {h : Heap} {l : Nat} {L : LS} {f : Nat → Option Nat} (hr : Rep h l L f) (ht : tot L < 2 ^ 40) (hsh : L.closed = true → L.tm = [] ∧ idle L) :
    ∃ m h' g, callW Φ loop_Loop_Fork [.ptr l 0] h = some (.ptr m 0, h') ∧ h.length ≤ m ∧ Rep h' m L g ∧ (∀ j, j < h.length → h'[j]? = h[j]?) ∧ ∀ j, own m g j → h.length ≤ j := by
  suffices hgo : ∃ r h', callW Φ loop_Loop_Fork [.ptr l 0] h = some (r, h') ∧ FkP h L r h' by
    obtain ⟨r, h', h1, m, g, rfl, h2⟩ := hgo
    exact ⟨m, h', g, h1, h2⟩
  refine call_x loop_Loop_Fork.Φ rfl (Nat.le_of_ble_eq_true rfl) (fun env he g => ?_)
  have g0 := g 0 (by simp)
  change eget env 0 = .ptr l 0 at g0
  clear g
  simp [loop_Loop_Fork.c] at he
  simp [loop_Loop_Fork.c, loop_Loop_Fork.r0, loop_Loop_Fork.r1, g0, he, okV, fV_eq, evEqn, eqnV, nilOf]
  refine kNormal (fork1 hr ht ?_ ?_) ?_
  · simp [he]
  · simp [g0]
  rintro ⟨e', mk, H⟩ ⟨⟨m, fm, k3, hm, hk, ho⟩, hmk, he', k0⟩
  simp only at k3 hm hk hmk he' k0
  obtain rfl := hmk
  have := fork2 (P := FkP h L) (fun r h' q => q) hr ht hsh hm hk ho he' k0 k3
  simpa only [fst, snd, loop_Loop_Fork.c, kSeq, kRegion] using this
end Go.Proofs.Lp
