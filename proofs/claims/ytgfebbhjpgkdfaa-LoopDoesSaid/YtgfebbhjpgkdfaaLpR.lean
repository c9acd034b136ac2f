/- The program's loop: Waiting, Do. No conditions. -/
import Derived.Test.YtgfebbhjpgkdfaaLpP
namespace Go.Proofs.Lp
open Go Go.Ev
set_option linter.unusedVariables false
set_option linter.unusedSimpArgs false

theorem yes_spec (b : Bool) (h : Heap) : callW Φ loop_yes [.bool b] h = some (.int .i64 (if b then 1 else 0), h) := by
  refine callW_flat (args := [.bool b]) (r := .int .i64 (if b then 1 else 0)) (h2 := []) loop_yes.Φ rfl rfl ?_ rfl
  refine body_q (Nat.le_of_ble_eq_true rfl) (fun env he h0 => ?_)
  have g0 := h0 0 (by simp)
  change eget env 0 = .bool b at g0
  clear h0
  simp [loop_yes.c] at he
  cases b with
  | true => simp [loop_yes.c, loop_yes.r0, loop_yes.r1, loop_yes.r2, g0, he, okV, fV_eq]
  | false => simp [loop_yes.c, loop_yes.r0, loop_yes.r1, loop_yes.r3, g0, he, okV, fV_eq]

/-- A step. -/
structure Step where
  kind : Int
  source : Int
  id : Int
  ms : Int
  level : Int
  timer : Int
def cS (x : Step) : List V := [.int .u8 x.kind, .int .i64 x.source, .int .i64 x.id, .int .i64 x.ms, .int .i64 x.level, .int .i64 x.timer]

/-- What a step answers, and where the loop stands then; but for Close. -/
def doR (L : LS) (x : Step) : (Int × (Int × Int × Int) × Int) × LS :=
  if x.kind = 1 then ((0, (0, 0, 0), faultV L (decide (0 ≤ x.source ∧ x.source < 8))), taskL L x.source x.id)
  else if x.kind = 2 then ((0, (0, 0, 0), faultV L true), microL L x.id)
  else if x.kind = 3 then (((afterV L x.ms x.level).1, (0, 0, 0), (afterV L x.ms x.level).2), afterL L x.ms x.level x.id)
  else if x.kind = 4 then ((if (place x.timer L.tm).isSome then 1 else 0, (0, 0, 0), 0), clearL L x.timer)
  else if x.kind = 5 then ((advN L x.ms, (0, 0, 0), advV L x.ms), advL L x.ms)
  else if x.kind = 6 then ((0, (nextR L x.source).1, 0), (nextR L x.source).2)
  else ((0, (0, 0, 0), 23), L)

set_option maxHeartbeats 4000000 in
set_option maxRecDepth 8000 in
theorem do_spec {h : Heap} {l : Nat} {L : LS} {f : Nat → Option Nat} (hr : Rep h l L f) (ht : tot L < 2 ^ 40) (hg0 : 0 ≤ L.given) (hg : L.given < 2 ^ 62) (hc0 : 0 ≤ L.clock) (hcm : L.clock ≤ 1125899906842624) (x : Step) (h7 : x.kind ≠ 7) :
    ∃ h' f', callW Φ loop_Loop_Do [.ptr l 0, .agg (cS x)] h = some (.tup [.int .i64 (doR L x).1.1, .agg (cN (doR L x).1.2.1), .int .i64 (doR L x).1.2.2], h') ∧ Rep h' l (doR L x).2 f' ∧ Fr h h' l f f' := by
  obtain ⟨v, hr⟩ := hr
  obtain ⟨P, hP⟩ : ∃ P : V → Heap → Prop, P = fun r h' => r = .tup [.int .i64 (doR L x).1.1, .agg (cN (doR L x).1.2.1), .int .i64 (doR L x).1.2.2] ∧ ∃ f', Rep h' l (doR L x).2 f' ∧ Fr h h' l f f' := ⟨_, rfl⟩
  suffices hgo : ∃ r h', callW Φ loop_Loop_Do [.ptr l 0, .agg (cS x)] h = some (r, h') ∧ P r h' by
    obtain ⟨r, h', h1, h2⟩ := hgo
    rw [hP] at h2
    obtain ⟨rfl, f', h3, h4⟩ := h2
    exact ⟨h', f', h1, h3, h4⟩
  have hll := (List.getElem?_eq_some_iff.1 hr.1).1
  obtain ⟨h0, hh0⟩ : ∃ h0, h0 = h ++ [Ob.cells (cS x), Ob.cells [.int .u8 0, .int .i64 0, .int .i64 0]] := ⟨_, rfl⟩
  have hr0v := hr.ext [Ob.cells (cS x), Ob.cells [.int .u8 0, .int .i64 0, .int .i64 0]]
  have hf0 := Fr.ext h l f [Ob.cells (cS x), Ob.cells [.int .u8 0, .int .i64 0, .int .i64 0]]
  rw [← hh0] at hr0v hf0
  have hr0 : Rep h0 l L f := ⟨v, hr0v⟩
  have hl0 : h0.length = h.length + 2 := by rw [hh0]; simp
  have hz0 : h0[h.length + 1]? = some (.cells [.int .u8 0, .int .i64 0, .int .i64 0]) := by rw [hh0]; simp
  have hx0 : ∀ off, cellsAt h0 (.ptr h.length off) = some ((cS x).drop off) := fun off => by rw [hh0]; simp [cellsAt]
  have hno : ∀ j, h.length ≤ j → ¬ own l f j := fun j hj ho => by
    have := Rep.lt ⟨v, hr⟩ ho
    omega
  have fin : ∀ (hp : Heap) (a b c : Int), hp[h.length + 1]? = some (.cells [.int .u8 0, .int .i64 0, .int .i64 0]) →
      evStoreV hp 3 (.ptr (h.length + 1) 0) (.agg [.int .u8 a, .int .i64 b, .int .i64 c]) = some (V.non, hp.set (h.length + 1) (.cells (cN (a, b, c)))) ∧
      cellsAt (hp.set (h.length + 1) (.cells (cN (a, b, c)))) (.ptr (h.length + 1) 0) = some [.int .u8 a, .int .i64 b, .int .i64 c] := by
    intro hp a b c hc
    have hlt : h.length + 1 < hp.length := (List.getElem?_eq_some_iff.1 hc).1
    exact ⟨by simp [evStoreV, evStore, hc, V.cells, V.isCell, setRange, cN], by simp [cellsAt, hlt, cN]⟩
  have fin2 : ∀ (hp : Heap) (L' : LS) (f' : Nat → Option Nat) (n : Int) (t : Int × Int × Int) (w : Int), Rep hp l L' f' → Fr h0 hp l f f' → doR L x = ((n, t, w), L') →
      hp[h.length + 1]? = some (.cells [.int .u8 0, .int .i64 0, .int .i64 0]) ∧ P (.tup [.int .i64 n, .agg [.int .u8 t.1, .int .i64 t.2.1, .int .i64 t.2.2], .int .i64 w]) (hp.set (h.length + 1) (.cells (cN t))) := by
    intro hp L' f' n t w hr' hfr hn
    have hno' : ¬ own l f' (h.length + 1) := fun ho => by
      rcases hfr.new _ ho with q | q
      · exact hno _ (by omega) q
      · omega
    refine ⟨by rw [hfr.rest _ (by omega) (hno _ (by omega))]; exact hz0, ?_⟩
    rw [hP]
    refine ⟨by rw [hn]; rfl, f', ?_, ?_⟩
    · rw [hn]
      exact hr'.mono (fun j hj => by rw [List.getElem?_set_ne (fun e => hno' (by rw [e]; exact hj))])
    · have hfr' := hf0.trans hfr
      exact ⟨by simpa using hfr'.len, fun j hj hnj => by rw [List.getElem?_set_ne (by omega)]; exact hfr'.rest j hj hnj, hfr'.new⟩
  have hbx : evBox h (cS x) = some (.ptr h.length 0, h ++ [Ob.cells (cS x)]) := by simp [evBox, cS, V.isCell]
  have hb0 : ∀ H, evBuild H [.int .u8 0, .int .i64 0, .int .i64 0] [] = some (.agg [.int .u8 0, .int .i64 0, .int .i64 0], H) := fun _ => rfl
  refine call_x loop_Loop_Do.Φ rfl (Nat.le_of_ble_eq_true rfl) (fun env he g => ?_)
  have g0 := g 0 (by simp)
  have g1 := g 1 (by simp)
  change eget env 0 = .ptr l 0 at g0
  change eget env 1 = .agg (cS x) at g1
  clear g
  simp [loop_Loop_Do.c] at he
  simp only [cS] at hbx hx0 g1 hh0
  simp [loop_Loop_Do.c, loop_Loop_Do.r0, loop_Loop_Do.r1, loop_Loop_Do.r3, g0, g1, he, okV, fV_eq, evNilchk, evEqn, eqnV, nilOf, V.cells, hbx, ← hh0, hx0, faddrV]
  by_cases k1 : x.kind = 1
  · obtain ⟨h1, f1, hc, hr1, hfr1⟩ := task_spec hr0 ht x.source x.id
    have hn : doR L x = ((0, (0, 0, 0), faultV L (decide (0 ≤ x.source ∧ x.source < 8))), taskL L x.source x.id) := by simp only [doR, if_pos k1]
    obtain ⟨hz, hp⟩ := fin2 h1 _ f1 _ _ _ hr1 hfr1 hn
    obtain ⟨s1, s2⟩ := fin h1 0 0 0 hz
    have hd : (decide (0 ≤ x.source) && decide (x.source < 8)) = decide (0 ≤ x.source ∧ x.source < 8) := by simp
    simp [loop_Loop_Do.r4, loop_Loop_Do.r5, g0, he, okV, fV_eq, hx0, faddrV, k1, hc, hb0, s1, s2, ofCells]
    simpa using hp
  have b1 : (x.kind == 1) = false := by simpa using k1
  by_cases k2 : x.kind = 2
  · obtain ⟨h1, f1, hc, hr1, hfr1⟩ := micro_spec hr0 ht x.id
    have hn : doR L x = ((0, (0, 0, 0), faultV L true), microL L x.id) := by simp only [doR, if_neg k1, if_pos k2]
    obtain ⟨hz, hp⟩ := fin2 h1 _ f1 _ _ _ hr1 hfr1 hn
    obtain ⟨s1, s2⟩ := fin h1 0 0 0 hz
    simp [loop_Loop_Do.r4, loop_Loop_Do.r6, loop_Loop_Do.r7, g0, he, okV, fV_eq, hx0, faddrV, evExt, k1, b1, k2, hc, hb0, s1, s2, ofCells]
    simpa using hp
  have b2 : (x.kind == 2) = false := by simpa using k2
  by_cases k3 : x.kind = 3
  · obtain ⟨h1, f1, hc, hr1, hfr1⟩ := after_spec hr0 ht hg0 hg hc0 hcm x.ms x.level x.id
    have hn : doR L x = (((afterV L x.ms x.level).1, (0, 0, 0), (afterV L x.ms x.level).2), afterL L x.ms x.level x.id) := by simp only [doR, if_neg k1, if_neg k2, if_pos k3]
    obtain ⟨hz, hp⟩ := fin2 h1 _ f1 _ _ _ hr1 hfr1 hn
    obtain ⟨s1, s2⟩ := fin h1 0 0 0 hz
    simp [loop_Loop_Do.r4, loop_Loop_Do.r6, loop_Loop_Do.r8, loop_Loop_Do.r9, loop_Loop_Do.r10, g0, he, okV, fV_eq, hx0, faddrV, evExt, k1, b1, k2, b2, k3, hc, hb0, s1, s2, ofCells]
    simpa using hp
  have b3 : (x.kind == 3) = false := by simpa using k3
  by_cases k4 : x.kind = 4
  · obtain ⟨h1, f1, hc, hr1, hfr1⟩ := clear_spec hr0 ht x.timer
    have hn : doR L x = ((if (place x.timer L.tm).isSome then 1 else 0, (0, 0, 0), 0), clearL L x.timer) := by simp only [doR, if_neg k1, if_neg k2, if_neg k3, if_pos k4]
    obtain ⟨hz, hp⟩ := fin2 h1 _ f1 _ _ _ hr1 hfr1 hn
    obtain ⟨s1, s2⟩ := fin h1 0 0 0 hz
    have hy := yes_spec (place x.timer L.tm).isSome h1
    simp [loop_Loop_Do.r4, loop_Loop_Do.r6, loop_Loop_Do.r8, loop_Loop_Do.r11, loop_Loop_Do.r12, g0, he, okV, fV_eq, hx0, faddrV, evExt, k1, b1, k2, b2, k3, b3, k4, hc, hy, hb0, s1, s2, ofCells]
    simpa using hp
  have b4 : (x.kind == 4) = false := by simpa using k4
  by_cases k5 : x.kind = 5
  · obtain ⟨h1, f1, hc, hr1, hfr1⟩ := advance_spec hr0 ht hc0 hcm x.ms
    have hn : doR L x = ((advN L x.ms, (0, 0, 0), advV L x.ms), advL L x.ms) := by simp only [doR, if_neg k1, if_neg k2, if_neg k3, if_neg k4, if_pos k5]
    obtain ⟨hz, hp⟩ := fin2 h1 _ f1 _ _ _ hr1 hfr1 hn
    obtain ⟨s1, s2⟩ := fin h1 0 0 0 hz
    simp [loop_Loop_Do.r4, loop_Loop_Do.r6, loop_Loop_Do.r8, loop_Loop_Do.r11, loop_Loop_Do.r13, loop_Loop_Do.r14, loop_Loop_Do.r15, g0, he, okV, fV_eq, hx0, faddrV, evExt, k1, b1, k2, b2, k3, b3, k4, b4, k5, hc, hb0, s1, s2, ofCells]
    simpa using hp
  have b5 : (x.kind == 5) = false := by simpa using k5
  by_cases k6 : x.kind = 6
  · obtain ⟨h1, f1, hc, hr1, hfr1⟩ := next_spec hr0 ht x.source
    have hn : doR L x = ((0, (nextR L x.source).1, 0), (nextR L x.source).2) := by simp only [doR, if_neg k1, if_neg k2, if_neg k3, if_neg k4, if_neg k5, if_pos k6]
    obtain ⟨hz, hp⟩ := fin2 h1 _ f1 _ _ _ hr1 hfr1 hn
    obtain ⟨s1, s2⟩ := fin h1 (nextR L x.source).1.1 (nextR L x.source).1.2.1 (nextR L x.source).1.2.2 hz
    simp only [cN] at hc
    simp [loop_Loop_Do.r4, loop_Loop_Do.r6, loop_Loop_Do.r8, loop_Loop_Do.r11, loop_Loop_Do.r13, loop_Loop_Do.r16, loop_Loop_Do.r17, g0, he, okV, fV_eq, hx0, faddrV, evExt, k1, b1, k2, b2, k3, b3, k4, b4, k5, b5, k6, hc, hb0, s1, s2, ofCells]
    simpa using hp
  have b6 : (x.kind == 6) = false := by simpa using k6
  have b7 : (x.kind == 7) = false := by simpa using h7
  have hn : doR L x = ((0, (0, 0, 0), 23), L) := by simp only [doR, if_neg k1, if_neg k2, if_neg k3, if_neg k4, if_neg k5, if_neg k6]
  obtain ⟨hz, hp⟩ := fin2 h0 _ f _ _ _ hr0 (.refl _ _ _) hn
  obtain ⟨s1, s2⟩ := fin h0 0 0 0 hz
  simp [loop_Loop_Do.r4, loop_Loop_Do.r6, loop_Loop_Do.r8, loop_Loop_Do.r11, loop_Loop_Do.r13, loop_Loop_Do.r16, loop_Loop_Do.r18, loop_Loop_Do.r20, g0, he, okV, fV_eq, hx0, faddrV, k1, b1, k2, b2, k3, b3, k4, b4, k5, b5, k6, b6, h7, b7, hb0, s1, s2, ofCells]
  simpa using hp
end Go.Proofs.Lp
