/- The walk of LoopNil: its end, a closed loop. No conditions. -/
import Derived.Test.YtgfebbhjpgkdfaaLpW
namespace Go.Proofs.Lp
open Go Go.Ev
set_option linter.unusedVariables false
set_option linter.unusedSimpArgs false

/-- Closed, and nothing waits. -/
structure Shut (L : LS) : Prop where
  closed : L.closed = true
  tm : L.tm = []
  q : idle L
  c0 : 0 ≤ L.clock
  cm : L.clock ≤ 1125899906842624
  g0 : 0 ≤ L.given
  gm : L.given < 2 ^ 62

theorem Ok.shutL {n : Int} {L : LS} (h : Ok n L) (hn : n < 2 ^ 62) : Shut (closeL L) := by
  unfold closeL
  have := h.gn
  split
  · rename_i hc
    obtain ⟨h1, h2⟩ := h.shut hc
    exact ⟨hc, h1, h2, h.c0, h.cm, h.g0, by omega⟩
  · exact ⟨rfl, rfl, fun _ => rfl, h.c0, h.cm, h.g0, by simp only; omega⟩

theorem Shut.fault {L : LS} (h : Shut L) (b : Bool) : faultV L b = 15 := by simp [faultV, h.closed]
theorem Shut.tot {L : LS} (h : Shut L) : tot L = 0 := by rw [idle_tot h.q, h.tm]; rfl

set_option maxHeartbeats 8000000 in
set_option maxRecDepth 8000 in
theorem nil3 {P : V → Heap → Prop} (hP : ∀ h, P (.bool true) h) {hp : Heap} {l : Nat} {L : LS} {f : Nat → Option Nat} (hr : Rep hp l L f) {n : Int} (hok : Ok n L) (hn : n < 2 ^ 62)
    {env : List V} (he : env.length = 201) (g18 : eget env 18 = .ptr l 0) :
    WK (callW Φ) none (FinX [.tmp 4] P) [.o law27_LoopNil.r18, .c (snd (snd (snd (snd (snd (snd (snd (snd (snd (snd (snd (snd law27_LoopNil.c.body))))))))))))] { env := env, marks := [], heap := hp } := by
  have hs := hok.shutL hn
  obtain ⟨L1, hL1⟩ : ∃ L1, L1 = closeL L := ⟨_, rfl⟩
  rw [← hL1] at hs
  have ht : tot L1 < 2 ^ 40 := by rw [hs.tot]; decide
  obtain ⟨h1, f1, c1, r1, _⟩ := close_spec hr
  rw [← hL1] at r1
  have cnow := now_spec r1
  obtain ⟨h2, f2, c2, r2, _⟩ := after_spec r1 ht hs.g0 hs.gm hs.c0 hs.cm 1 0 1
  have e2 : afterV L1 1 0 = (0, 15) := by simp [afterV, hs.fault]
  have l2 : afterL L1 1 0 1 = L1 := by simp [afterL, hs.fault]
  rw [e2] at c2
  rw [l2] at r2
  obtain ⟨h3, f3, c3, r3, _⟩ := advance_spec r2 ht hs.c0 hs.cm 1
  have e3 : advV L1 1 = 15 := by simp [advV, hs.closed]
  have e3' : advN L1 1 = 0 := by simp [advN, e3]
  have l3 : advL L1 1 = L1 := by simp [advL, e3]
  rw [e3, e3'] at c3
  rw [l3] at r3
  have c4 := waiting_spec r3 ht
  have s8 : sumq L1 8 = 0 := by have := hs.tot; unfold tot at this; omega
  rw [s8, hs.tm, hs.q 0] at c4
  obtain ⟨h5, f5, c5, r5, _⟩ := close_spec r3
  have l5 : closeL L1 = L1 := by simp [closeL, hs.closed]
  rw [hs.closed] at c5
  rw [l5] at r5
  obtain ⟨h6, f6, c6, r6, _⟩ := task_spec r5 ht 0 1
  have l6 : taskL L1 0 1 = L1 := by simp [taskL, hs.fault]
  rw [hs.fault] at c6
  rw [l6] at r6
  obtain ⟨h7, f7, c7, r7, _⟩ := micro_spec r6 ht 1
  have l7 : microL L1 1 = L1 := by simp [microL, hs.fault]
  rw [hs.fault] at c7
  rw [l7] at r7
  obtain ⟨h8, f8, c8, r8, _⟩ := next_spec r7 ht 1
  rw [idle_next hs.q] at c8 r8
  simp only [cN] at c8 r8
  have cnow8 := now_spec r8
  have q : evEqc h8 false (.cons 0 none (.leaf .i) (.cons 1 none (.leaf .i) (.cons 2 none (.leaf .i) .nil))) (.agg [.int .u8 0, .int .i64 0, .int .i64 0]) (.agg [.int .u8 0, .int .i64 0, .int .i64 0]) = some (.bool true, h8) := by
    simp [evEqc, eqdV, ofCells, cellEq, okV, fV_eq]
  have b3 : evBuild h8 [.int .u8 0, .int .i64 0, .int .i64 0] [] = some (.agg [.int .u8 0, .int .i64 0, .int .i64 0], h8) := rfl
  simp at c4 c5
  have w0 : IntKind.i64.wrap 0 = 0 := by decide
  simp only [snd, law27_LoopNil.c]
  simp [law27_LoopNil.r18, law27_LoopNil.r19, law27_LoopNil.r20, law27_LoopNil.r21, law27_LoopNil.r22, g18, he, okV, fV_eq, evExt, c1, cnow, c2, c3, c4]
  simp (config := { maxSteps := 2000000 }) [law27_LoopNil.r23, g18, he, okV, fV_eq, evPick, c5, c6, c7, c8, q, b3, cnow8, w0, hP]
end Go.Proofs.Lp
