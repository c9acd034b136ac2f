/- The program's loop: Do, Close with the rest. No conditions. -/
import Derived.Test.YtgfebbhjpgkdfaaLpU
namespace Go.Proofs.Lp
open Go Go.Ev
set_option linter.unusedVariables false
set_option linter.unusedSimpArgs false

/-- What a step answers, and where the loop stands then. -/
def doA (L : LS) (x : Step) : (Int × (Int × Int × Int) × Int) × LS :=
  if x.kind = 7 then ((if L.closed then 0 else 1, (0, 0, 0), 0), closeL L) else doR L x

set_option maxHeartbeats 4000000 in
set_option maxRecDepth 8000 in
theorem do_close {h : Heap} {l : Nat} {L : LS} {f : Nat → Option Nat} (hr : Rep h l L f) (ht : tot L < 2 ^ 40) (hg0 : 0 ≤ L.given) (hg : L.given < 2 ^ 62) (hc0 : 0 ≤ L.clock) (hcm : L.clock ≤ 1125899906842624) (x : Step) (h7 : x.kind = 7) :
    ∃ h' f', callW Φ loop_Loop_Do [.ptr l 0, .agg (cS x)] h = some (.tup [.int .i64 (doA L x).1.1, .agg (cN (doA L x).1.2.1), .int .i64 (doA L x).1.2.2], h') ∧ Rep h' l (doA L x).2 f' ∧ Fr h h' l f f' := by
  obtain ⟨v, hr⟩ := hr
  obtain ⟨P, hP⟩ : ∃ P : V → Heap → Prop, P = fun r h' => r = .tup [.int .i64 (doA L x).1.1, .agg (cN (doA L x).1.2.1), .int .i64 (doA L x).1.2.2] ∧ ∃ f', Rep h' l (doA L x).2 f' ∧ Fr h h' l f f' := ⟨_, rfl⟩
  suffices hgo : ∃ r h', callW Φ loop_Loop_Do [.ptr l 0, .agg (cS x)] h = some (r, h') ∧ P r h' by
    obtain ⟨r, h', h1, h2⟩ := hgo
    rw [hP] at h2
    obtain ⟨rfl, f', h3, h4⟩ := h2
    exact ⟨h', f', h1, h3, h4⟩
  have hll := (List.getElem?_eq_some_iff.1 hr.1).1
  obtain ⟨h0, hh0⟩ : ∃ h0, h0 = h ++ [Ob.cells (cS x), Ob.cells [.int .u8 0, .int .i64 0, .int .i64 0]] := ⟨_, rfl⟩
  have hr0v := hr.ext [Ob.cells (cS x), Ob.cells [.int .u8 0, .int .i64 0, .int .i64 0]]
  have hf0 := Fr.ext h l f [Ob.cells (cS x), Ob.cells [.int .u8 0, .int .i64 0, .int .i64 0]]
  rw [← hh0] at hr0v hf0
  have hr0 : Rep h0 l L f := ⟨v, hr0v⟩
  have hl0 : h0.length = h.length + 2 := by rw [hh0]; simp
  have hz0 : h0[h.length + 1]? = some (.cells [.int .u8 0, .int .i64 0, .int .i64 0]) := by rw [hh0]; simp
  have hx0 : ∀ off, cellsAt h0 (.ptr h.length off) = some ((cS x).drop off) := fun off => by rw [hh0]; simp [cellsAt]
  have hno : ∀ j, h.length ≤ j → ¬ own l f j := fun j hj ho => by
    have := Rep.lt ⟨v, hr⟩ ho
    omega
  have fin : ∀ (hp : Heap) (a b c : Int), hp[h.length + 1]? = some (.cells [.int .u8 0, .int .i64 0, .int .i64 0]) →
      evStoreV hp 3 (.ptr (h.length + 1) 0) (.agg [.int .u8 a, .int .i64 b, .int .i64 c]) = some (V.non, hp.set (h.length + 1) (.cells (cN (a, b, c)))) ∧
      cellsAt (hp.set (h.length + 1) (.cells (cN (a, b, c)))) (.ptr (h.length + 1) 0) = some [.int .u8 a, .int .i64 b, .int .i64 c] := by
    intro hp a b c hc
    have hlt : h.length + 1 < hp.length := (List.getElem?_eq_some_iff.1 hc).1
    exact ⟨by simp [evStoreV, evStore, hc, V.cells, V.isCell, setRange, cN], by simp [cellsAt, hlt, cN]⟩
  have fin2 : ∀ (hp : Heap) (L' : LS) (f' : Nat → Option Nat) (n : Int) (t : Int × Int × Int) (w : Int), Rep hp l L' f' → Fr h0 hp l f f' → doA L x = ((n, t, w), L') →
      hp[h.length + 1]? = some (.cells [.int .u8 0, .int .i64 0, .int .i64 0]) ∧ P (.tup [.int .i64 n, .agg [.int .u8 t.1, .int .i64 t.2.1, .int .i64 t.2.2], .int .i64 w]) (hp.set (h.length + 1) (.cells (cN t))) := by
    intro hp L' f' n t w hr' hfr hn
    have hno' : ¬ own l f' (h.length + 1) := fun ho => by
      rcases hfr.new _ ho with q | q
      · exact hno _ (by omega) q
      · omega
    refine ⟨by rw [hfr.rest _ (by omega) (hno _ (by omega))]; exact hz0, ?_⟩
    rw [hP]
    refine ⟨by rw [hn]; rfl, f', ?_, ?_⟩
    · rw [hn]
      exact hr'.mono (fun j hj => by rw [List.getElem?_set_ne (fun e => hno' (by rw [e]; exact hj))])
    · have hfr' := hf0.trans hfr
      exact ⟨by simpa using hfr'.len, fun j hj hnj => by rw [List.getElem?_set_ne (by omega)]; exact hfr'.rest j hj hnj, hfr'.new⟩
  have hbx : evBox h (cS x) = some (.ptr h.length 0, h ++ [Ob.cells (cS x)]) := by simp [evBox, cS, V.isCell]
  have hb0 : ∀ H, evBuild H [.int .u8 0, .int .i64 0, .int .i64 0] [] = some (.agg [.int .u8 0, .int .i64 0, .int .i64 0], H) := fun _ => rfl
  refine call_x loop_Loop_Do.Φ rfl (Nat.le_of_ble_eq_true rfl) (fun env he g => ?_)
  have g0 := g 0 (by simp)
  have g1 := g 1 (by simp)
  change eget env 0 = .ptr l 0 at g0
  change eget env 1 = .agg (cS x) at g1
  clear g
  simp [loop_Loop_Do.c] at he
  simp only [cS] at hbx hx0 g1 hh0
  simp [loop_Loop_Do.c, loop_Loop_Do.r0, loop_Loop_Do.r1, loop_Loop_Do.r3, g0, g1, he, okV, fV_eq, evNilchk, evEqn, eqnV, nilOf, V.cells, hbx, ← hh0, hx0, faddrV]
  have k : ∀ n : Int, n ≠ 7 → ¬ x.kind = n := fun n hn e => hn (by rw [← e, h7])
  have b : ∀ n : Int, n ≠ 7 → (x.kind == n) = false := fun n hn => by simpa using k n hn
  obtain ⟨h1, f1, hc, hr1, hfr1⟩ := close_spec hr0
  have hn : doA L x = ((if L.closed then 0 else 1, (0, 0, 0), 0), closeL L) := by simp only [doA, if_pos h7]
  obtain ⟨hz, hp⟩ := fin2 h1 _ f1 _ _ _ hr1 hfr1 hn
  obtain ⟨s1, s2⟩ := fin h1 0 0 0 hz
  have hy := yes_spec (!L.closed) h1
  have hyn : (if (!L.closed) = true then (1 : Int) else 0) = if L.closed then 0 else 1 := by cases L.closed <;> rfl
  rw [hyn] at hy
  simp [loop_Loop_Do.r4, loop_Loop_Do.r6, loop_Loop_Do.r8, loop_Loop_Do.r11, loop_Loop_Do.r13, loop_Loop_Do.r16, loop_Loop_Do.r18, loop_Loop_Do.r19, g0, he, okV, fV_eq, hx0, faddrV, evExt, h7, hc, hy, hb0, s1, s2, ofCells]
  simpa using hp

theorem do_all {h : Heap} {l : Nat} {L : LS} {f : Nat → Option Nat} (hr : Rep h l L f) (ht : tot L < 2 ^ 40) (hg0 : 0 ≤ L.given) (hg : L.given < 2 ^ 62) (hc0 : 0 ≤ L.clock) (hcm : L.clock ≤ 1125899906842624) (x : Step) :
    ∃ h' f', callW Φ loop_Loop_Do [.ptr l 0, .agg (cS x)] h = some (.tup [.int .i64 (doA L x).1.1, .agg (cN (doA L x).1.2.1), .int .i64 (doA L x).1.2.2], h') ∧ Rep h' l (doA L x).2 f' ∧ Fr h h' l f f' := by
  by_cases h7 : x.kind = 7
  · exact do_close hr ht hg0 hg hc0 hcm x h7
  · have := do_spec hr ht hg0 hg hc0 hcm x h7
    simpa only [doA, if_neg h7] using this
end Go.Proofs.Lp
