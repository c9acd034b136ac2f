/- The book's loop: Do, its ways. The book's loop: Do, handed back. No conditions. -/
import Derived.Test.YtgfebbhjpgkdfaaLpGo
namespace Go.Proofs.Lp
open Go Go.Ev
set_option linter.unusedVariables false
set_option linter.unusedSimpArgs false

/-- What the book answers to a step, and where it stands then. -/
def refA (s : LS) (x : Step) : (Int × (Int × Int × Int) × Int) × LS :=
  if x.kind = 1 ∨ x.kind = 2 ∨ x.kind = 3 then ((putN s x, (0, 0, 0), putV s x), putS s x)
  else if x.kind = 4 then ((if (place x.timer s.tm).isSome then 1 else 0, (0, 0, 0), 0), clearL s x.timer)
  else if x.kind = 5 then (if s.closed then ((0, (0, 0, 0), 15), s) else ((advSN s x.ms, (0, 0, 0), advSV s x.ms), advS s x.ms))
  else if x.kind = 6 then ((0, (nextR s x.source).1, 0), (nextR s x.source).2)
  else if x.kind = 7 then ((if s.closed then 0 else 1, (0, 0, 0), 0), ⟨fun _ => [], [], s.clock, s.given, true⟩)
  else ((0, (0, 0, 0), 23), s)

/-- The boxes of Do. -/
structure Bd (H : Heap) (B : Nat) (x : Step) (oT ep : Nat) (s : LS) (f : Nat → Option Nat) (v : Nat → V) (t : Int × Int × Int) : Prop where
  r : RS H oT ep s f v
  kx : H[1]? = some (.cells (cS x))
  k2 : H[2]? = some (.cells [.bool false, .int .i64 0, .int .i64 0, .nils, .nils, .nils])
  k3 : H[3]? = some (.cells [.int .u8 0, .int .i64 0, .int .i64 0])
  kb : H[B]? = some (.cells (cellsS oT ep s v))
  kt : H[B + 1]? = some (.cells (cN t))
  hB : 4 ≤ B

abbrev doSw : Cc := snd (fst (snd (snd (snd (snd (snd ref27_Do.c.body))))))

theorem Bd.kc {H H2 : Heap} {B : Nat} {x : Step} {oT ep : Nat} {s : LS} {f : Nat → Option Nat} {v : Nat → V} {t : Int × Int × Int} (d : Bd H B x oT ep s f v t) (k : Kc H H2) {oT' ep' : Nat} {s' : LS} {f' : Nat → Option Nat} {v' : Nat → V} (r : RS H2 oT' ep' s' f' v') :
    evStoreV H2 6 (.ptr B 0) (.agg (cellsS oT' ep' s' v')) = some (V.non, H2.set B (.cells (cellsS oT' ep' s' v'))) ∧ Bd (H2.set B (.cells (cellsS oT' ep' s' v'))) B x oT' ep' s' f' v' t := by
  have kb := k _ _ d.kb
  have := d.hB
  refine ⟨store6 (ds := cellsS oT' ep' s' v') kb rfl (cellsS_cell r s' oT' ep'), r.set kb, ?_, ?_, ?_, List.getElem?_set_self (List.getElem?_eq_some_iff.1 kb).1, ?_, d.hB⟩
  · rw [List.getElem?_set_ne (by omega)]; exact k _ _ d.kx
  · rw [List.getElem?_set_ne (by omega)]; exact k _ _ d.k2
  · rw [List.getElem?_set_ne (by omega)]; exact k _ _ d.k3
  · rw [List.getElem?_set_ne (by omega)]; exact k _ _ d.kt
theorem Bd.turn {H : Heap} {B : Nat} {x : Step} {oT ep : Nat} {s : LS} {f : Nat → Option Nat} {v : Nat → V} {t : Int × Int × Int} (d : Bd H B x oT ep s f v t) (t' : Int × Int × Int) :
    evStoreV H 3 (.ptr (B + 1) 0) (.agg (cN t')) = some (V.non, H.set (B + 1) (.cells (cN t'))) ∧ Bd (H.set (B + 1) (.cells (cN t'))) B x oT ep s f v t' := by
  have := d.hB
  refine ⟨store6 (ds := cN t') d.kt rfl rfl, d.r.set d.kt, ?_, ?_, ?_, ?_, List.getElem?_set_self (List.getElem?_eq_some_iff.1 d.kt).1, d.hB⟩
  · rw [List.getElem?_set_ne (by omega)]; exact d.kx
  · rw [List.getElem?_set_ne (by omega)]; exact d.k2
  · rw [List.getElem?_set_ne (by omega)]; exact d.k3
  · rw [List.getElem?_set_ne (by omega)]; exact d.kb

def DoI (B : Nat) (x : Step) (a : (Int × (Int × Int × Int) × Int) × LS) (s' : St) : Prop :=
  (∃ oT ep f v, Bd s'.heap B x oT ep a.2 f v a.1.2.1) ∧ s'.marks = [] ∧ s'.env.length = 74 ∧ eget s'.env 4 = .ptr 2 0 ∧ eget s'.env 6 = .ptr 3 0 ∧ eget s'.env 8 = .ptr B 0 ∧ eget s'.env 9 = .int .i64 a.1.1 ∧ eget s'.env 10 = .int .i64 a.1.2.2 ∧ eget s'.env 11 = .ptr (B + 1) 0

set_option maxHeartbeats 16000000 in
set_option maxRecDepth 8000 in
theorem do_switch {H : Heap} {B : Nat} {x : Step} {oT ep : Nat} {s : LS} {f : Nat → Option Nat} {v : Nat → V} (d : Bd H B x oT ep s f v (0, 0, 0)) (ht : tot s < 2 ^ 39) (hg0 : 0 ≤ s.given) (hg : s.given < 2 ^ 62) (hc0 : 0 ≤ s.clock) (hcm : s.clock ≤ 1125899906842624)
    {env : List V} (he : env.length = 74) (g3 : eget env 3 = .ptr 1 0) (g4 : eget env 4 = .ptr 2 0) (g6 : eget env 6 = .ptr 3 0) (g8 : eget env 8 = .ptr B 0) (g9 : eget env 9 = .int .i64 0) (g10 : eget env 10 = .int .i64 0) (g11 : eget env 11 = .ptr (B + 1) 0) (g16 : eget env 16 = .int .u8 x.kind) :
    WK (callW Φ) none (fun e s' => e = .normal ∧ DoI B x (refA s x) s') [.c doSw] { env := env, marks := [], heap := H } := by
  have z0 := pt_at d.kb 0
  have zx := pt_at d.kx 0
  have z5 := pt_at d.kx 5
  have z3 := pt_at d.kx 3
  have z1 := pt_at d.kx 1
  obtain ⟨D, hD⟩ : ∃ D, D = cellsS oT ep s v := ⟨_, rfl⟩
  have hDl : D.length = 6 := by rw [hD]; rfl
  have hDt : List.take 6 D = D := by rw [← hDl]; exact List.take_length
  obtain ⟨X, hX⟩ : ∃ X, X = cS x := ⟨_, rfl⟩
  have hXl : X.length = 6 := by rw [hX]; rfl
  have hXt : List.take 6 X = X := by rw [← hXl]; exact List.take_length
  have zc : ∃ z, D = .bool s.closed :: .int .i64 s.clock :: .int .i64 s.given :: z := ⟨_, by rw [hD]; rfl⟩
  obtain ⟨Z, hZ⟩ := zc
  simp only [List.drop_zero] at z0 zx
  simp only [cS, List.drop_zero, List.drop_succ_cons] at z5 z3 z1
  rw [← hD] at z0
  rw [← hX] at zx
  simp only [doSw, fst, snd, ref27_Do.c]
  by_cases k123 : x.kind = 1 ∨ x.kind = 2 ∨ x.kind = 3
  · obtain ⟨f', v', h', c, r', K'⟩ := put_spec2 d.r (by omega) hg0 hg hc0 hcm k123
    obtain ⟨st, d'⟩ := d.kc K' r'
    have ha : refA s x = ((putN s x, (0, 0, 0), putV s x), putS s x) := by simp only [refA, if_pos k123]
    rw [← hD, ← hX] at c
    rw [ha]
    obtain ⟨D', hD'⟩ : ∃ D', D' = cellsS oT ep (putS s x) v' := ⟨_, rfl⟩
    rw [← hD'] at c st
    rcases k123 with k | k | k
    · have b1 : (x.kind == 1) = true := by simp [k]
      simp (config := { maxSteps := 5000000 }) [ref27_Do.r6, ref27_Do.r9, g3, g4, g6, g8, g9, g10, g11, g16, he, okV, fV_eq, b1, z0, zx, hDl, hDt, hXl, hXt, c, evExt, st, ofCells, DoI]
      exact ⟨oT, ep, f', v', by rw [hD']; exact d'⟩
    · have b1 : (x.kind == 1) = false := by simp [k]
      have b2 : (x.kind == 2) = true := by simp [k]
      simp (config := { maxSteps := 5000000 }) [ref27_Do.r6, ref27_Do.r7, ref27_Do.r9, g3, g4, g6, g8, g9, g10, g11, g16, he, okV, fV_eq, b1, b2, z0, zx, hDl, hDt, hXl, hXt, c, evExt, st, ofCells, DoI]
      exact ⟨oT, ep, f', v', by rw [hD']; exact d'⟩
    · have b1 : (x.kind == 1) = false := by simp [k]
      have b2 : (x.kind == 2) = false := by simp [k]
      have b3 : (x.kind == 3) = true := by simp [k]
      simp (config := { maxSteps := 5000000 }) [ref27_Do.r6, ref27_Do.r7, ref27_Do.r8, ref27_Do.r9, g3, g4, g6, g8, g9, g10, g11, g16, he, okV, fV_eq, b1, b2, b3, z0, zx, hDl, hDt, hXl, hXt, c, evExt, st, ofCells, DoI]
      exact ⟨oT, ep, f', v', by rw [hD']; exact d'⟩
  have n1 : ¬ x.kind = 1 := fun q => k123 (.inl q)
  have n2 : ¬ x.kind = 2 := fun q => k123 (.inr (.inl q))
  have n3 : ¬ x.kind = 3 := fun q => k123 (.inr (.inr q))
  have b1 : (x.kind == 1) = false := by simp [n1]
  have b2 : (x.kind == 2) = false := by simp [n2]
  have b3 : (x.kind == 3) = false := by simp [n3]
  by_cases k4 : x.kind = 4
  · obtain ⟨f', v', h', c, r', K'⟩ := clearOne_spec d.r (by omega) x.timer
    obtain ⟨st, d'⟩ := d.kc K' r'
    have ha : refA s x = ((if (place x.timer s.tm).isSome then 1 else 0, (0, 0, 0), 0), clearL s x.timer) := by simp only [refA, if_neg k123, if_pos k4]
    have b4 : (x.kind == 4) = true := by simp [k4]
    rw [ha]
    obtain ⟨N, hN⟩ : ∃ N : Int, N = if (place x.timer s.tm).isSome then 1 else 0 := ⟨_, rfl⟩
    rw [← hD, ← hN] at c
    rw [← hN]
    obtain ⟨D', hD'⟩ : ∃ D', D' = cellsS oT ep (clearL s x.timer) v' := ⟨_, rfl⟩
    rw [← hD'] at c st
    simp (config := { maxSteps := 5000000 }) [ref27_Do.r6, ref27_Do.r7, ref27_Do.r8, ref27_Do.r10, ref27_Do.r11, g3, g4, g6, g8, g9, g10, g11, g16, he, okV, fV_eq, faddr_ptr, b1, b2, b3, b4, z0, z5, hDl, hDt, c, evExt, st, ofCells, DoI]
    exact ⟨oT, ep, f', v', by rw [hD']; exact d'⟩
  have b4 : (x.kind == 4) = false := by simp [k4]
  by_cases k5 : x.kind = 5
  · have b5 : (x.kind == 5) = true := by simp [k5]
    cases hcl : s.closed with
    | true =>
      have ha : refA s x = ((0, (0, 0, 0), 15), s) := by simp only [refA, if_neg k123, if_neg k4, if_pos k5, hcl, if_true]
      rw [ha]
      rw [hcl] at hZ
      have zz : cellsAt H (.ptr B 0) = some (.bool true :: .int .i64 s.clock :: .int .i64 s.given :: Z) := by rw [z0, hZ]
      simp (config := { maxSteps := 5000000 }) [ref27_Do.r6, ref27_Do.r7, ref27_Do.r8, ref27_Do.r10, ref27_Do.r12, ref27_Do.r13, ref27_Do.r14, g3, g4, g6, g8, g9, g10, g11, g16, he, okV, fV_eq, faddr_ptr, b1, b2, b3, b4, b5, zz, ofCells, DoI]
      exact ⟨oT, ep, f, v, d⟩
    | false =>
      obtain ⟨f', v', h', c, r', K'⟩ := advance_spec2 d.r ht hc0 hcm x.ms
      obtain ⟨st, d'⟩ := d.kc K' r'
      have ha : refA s x = ((advSN s x.ms, (0, 0, 0), advSV s x.ms), advS s x.ms) := by simp [refA, if_neg k123, if_neg k4, if_pos k5, hcl]
      rw [ha]
      rw [hcl] at hZ
      have zz : cellsAt H (.ptr B 0) = some (.bool false :: .int .i64 s.clock :: .int .i64 s.given :: Z) := by rw [z0, hZ]
      have hZl : ∃ a b c, Z = [a, b, c] := by
        rw [hZ] at hDl
        simp at hDl
        match Z, hDl with
        | [a, b, c], _ => exact ⟨a, b, c, rfl⟩
      obtain ⟨Za, Zb, Zc, hZl⟩ := hZl
      rw [hZl] at hZ zz
      rw [← hD, hZ] at c
      obtain ⟨D', hD'⟩ : ∃ D', D' = cellsS oT ep (advS s x.ms) v' := ⟨_, rfl⟩
      rw [← hD'] at c st
      simp (config := { maxSteps := 5000000 }) [ref27_Do.r6, ref27_Do.r7, ref27_Do.r8, ref27_Do.r10, ref27_Do.r12, ref27_Do.r13, ref27_Do.r14, ref27_Do.r15, g3, g4, g6, g8, g9, g10, g11, g16, he, okV, fV_eq, faddr_ptr, b1, b2, b3, b4, b5, zz, z3, c, evExt, st, ofCells, DoI]
      exact ⟨oT, ep, f', v', by rw [hD']; exact d'⟩
  have b5 : (x.kind == 5) = false := by simp [k5]
  by_cases k6 : x.kind = 6
  · obtain ⟨f', v', h', c, r', K'⟩ := next_spec2 d.r x.source
    obtain ⟨st, d'⟩ := d.kc K' r'
    obtain ⟨st2, d2⟩ := d'.turn (nextR s x.source).1
    have ha : refA s x = ((0, (nextR s x.source).1, 0), (nextR s x.source).2) := by simp only [refA, if_neg k123, if_neg k4, if_neg k5, if_pos k6]
    have b6 : (x.kind == 6) = true := by simp [k6]
    rw [ha]
    rw [← hD] at c
    obtain ⟨D', hD'⟩ : ∃ D', D' = cellsS oT ep (nextR s x.source).2 v' := ⟨_, rfl⟩
    rw [← hD'] at c st st2
    obtain ⟨T', hT'⟩ : ∃ T', T' = cN (nextR s x.source).1 := ⟨_, rfl⟩
    rw [← hT'] at c st2
    obtain ⟨h2, hh2⟩ : ∃ h2, h2 = h'.set B (.cells D') := ⟨_, rfl⟩
    rw [← hh2] at st st2
    simp (config := { maxSteps := 5000000 }) [ref27_Do.r6, ref27_Do.r7, ref27_Do.r8, ref27_Do.r10, ref27_Do.r12, ref27_Do.r16, ref27_Do.r17, g3, g4, g6, g8, g9, g10, g11, g16, he, okV, fV_eq, faddr_ptr, b1, b2, b3, b4, b5, b6, z0, z1, hDl, hDt, c, evExt, st, st2, ofCells, DoI]
    refine ⟨oT, ep, f', v', ?_⟩
    rw [hh2, hD', hT']
    exact d2
  have b6 : (x.kind == 6) = false := by simp [k6]
  by_cases k7 : x.kind = 7
  · have b7 : (x.kind == 7) = true := by simp [k7]
    have ha : refA s x = ((if s.closed then 0 else 1, (0, 0, 0), 0), ⟨fun _ => [], [], s.clock, s.given, true⟩) := by simp only [refA, if_neg k123, if_neg k4, if_neg k5, if_neg k6, if_pos k7]
    obtain ⟨S, hS⟩ : ∃ S : LS, S = ⟨fun _ => [], [], s.clock, s.given, true⟩ := ⟨_, rfl⟩
    rw [ha, ← hS]
    obtain ⟨H2, hH2⟩ : ∃ H2 : Heap, H2 = H ++ [Ob.row 1 (rowT fun _ => .nils) 0 true] := ⟨_, rfl⟩
    have K2 : Kc H H2 := by rw [hH2]; exact .ext _ _
    have r2 : RS H2 H.length 0 S (fun _ => none) (fun _ => .nils) := by
      refine ⟨by rw [hH2]; simp, fun i hi => .inl ⟨rfl, ?_, rfl⟩, fun i j id _ _ h => (by cases h), fun i _ h => (by cases h)⟩
      rw [hS]
      simp [cont2]
    obtain ⟨st, d'⟩ := d.kc K2 r2
    have hmk : evMks H [.nils] 1 24 (.int .i64 8) (.int .i64 8) = some (.sl H.length 0 0 8, H2) := by
      rw [hH2]
      simp [evMks, rowT, okV, fV_eq, fNat_eq, roomB, newOb]
      rfl
    have hbd : evBuild H2 [.bool false, .int .i64 0, .int .i64 0, .nils, .nils, .nils] [(0, 1, .bool true), (1, 1, .int .i64 s.clock), (2, 1, .int .i64 s.given), (4, 1, .sl H.length 0 0 8)] = some (.agg (cellsS H.length 0 S fun _ => .nils), H2) := by
      rw [hS]
      simp [evBuild, placeParts, V.cells, V.isCell, setRange, cellsS]
    obtain ⟨D', hD'⟩ : ∃ D', D' = cellsS H.length 0 S fun _ => .nils := ⟨_, rfl⟩
    rw [← hD'] at st hbd
    have y1 : cellsAt H (.ptr B 1) = some (.int .i64 s.clock :: .int .i64 s.given :: Z) := by
      have := pt_at d.kb 1
      rw [← hD, hZ] at this
      exact this
    have y2 : cellsAt H (.ptr B 2) = some (.int .i64 s.given :: Z) := by
      have := pt_at d.kb 2
      rw [← hD, hZ] at this
      exact this
    have fin : ∃ oT ep f v, Bd (H2.set B (.cells D')) B x oT ep S f v (0, 0, 0) := ⟨_, _, _, _, by rw [hD']; exact d'⟩
    cases hcl : s.closed with
    | true =>
      rw [hcl] at hZ
      have zz : cellsAt H (.ptr B 0) = some (.bool true :: .int .i64 s.clock :: .int .i64 s.given :: Z) := by rw [z0, hZ]
      simp (config := { maxSteps := 5000000 }) [ref27_Do.r6, ref27_Do.r7, ref27_Do.r8, ref27_Do.r10, ref27_Do.r12, ref27_Do.r16, ref27_Do.r18, ref27_Do.r19, g3, g4, g6, g8, g9, g10, g11, g16, he, okV, fV_eq, faddr_ptr, b1, b2, b3, b4, b5, b6, b7, zz, ofCells]
      refine kDraw1 ref27_Do.r21.ord ?_
      simp (config := { maxSteps := 5000000 }) [ref27_Do.r21, List.filterMap_cons, g3, g4, g6, g8, g9, g10, g11, g16, he, okV, fV_eq, faddr_ptr, y1, y2, hmk, hbd, st, ofCells, DoI]
      exact fin
    | false =>
      rw [hcl] at hZ
      have zz : cellsAt H (.ptr B 0) = some (.bool false :: .int .i64 s.clock :: .int .i64 s.given :: Z) := by rw [z0, hZ]
      simp (config := { maxSteps := 5000000 }) [ref27_Do.r6, ref27_Do.r7, ref27_Do.r8, ref27_Do.r10, ref27_Do.r12, ref27_Do.r16, ref27_Do.r18, ref27_Do.r19, ref27_Do.r20, g3, g4, g6, g8, g9, g10, g11, g16, he, okV, fV_eq, faddr_ptr, b1, b2, b3, b4, b5, b6, b7, zz, ofCells]
      refine kDraw1 ref27_Do.r21.ord ?_
      simp (config := { maxSteps := 5000000 }) [ref27_Do.r21, List.filterMap_cons, g3, g4, g6, g8, g9, g10, g11, g16, he, okV, fV_eq, faddr_ptr, y1, y2, hmk, hbd, st, ofCells, DoI]
      exact fin
  have b7 : (x.kind == 7) = false := by simp [k7]
  have ha : refA s x = ((0, (0, 0, 0), 23), s) := by simp only [refA, if_neg k123, if_neg k4, if_neg k5, if_neg k6, if_neg k7]
  rw [ha]
  simp (config := { maxSteps := 5000000 }) [ref27_Do.r6, ref27_Do.r7, ref27_Do.r8, ref27_Do.r10, ref27_Do.r12, ref27_Do.r16, ref27_Do.r18, ref27_Do.r22, g3, g4, g6, g8, g9, g10, g11, g16, he, okV, fV_eq, faddr_ptr, b1, b2, b3, b4, b5, b6, b7, DoI]
  exact ⟨oT, ep, f, v, d⟩
end Go.Proofs.Lp

namespace Go.Proofs.Lp
open Go Go.Ev
set_option linter.unusedVariables false
set_option linter.unusedSimpArgs false

/-- A slice by itself. -/
theorem SL.fz {h : Heap} {sz : Nat} {v : V} {o : Option Nat} {xs : List (List V)} (hs : SL h sz v o xs) (d : Nat) :
    ∃ h', Go.Ev.fz (d + 2) h v = some (.arr xs, h') ∧ h'.length = h.length ∧ ∀ j, o ≠ some j → h'[j]? = h[j]? := by
  rcases hs with ⟨rfl, rfl, rfl⟩ | ⟨id, ep, pre, post, rfl, rfl, hr, hp⟩
  · exact ⟨h, rfl, rfl, fun _ _ => rfl⟩
  · have := fz_sl (d := d) (off := pre.length) (len := xs.length) hr (by simp) (fun e he => (hp e he).2.2)
    have e1 : List.take xs.length (List.drop pre.length (pre ++ xs ++ post)) = xs := by
      rw [List.append_assoc, List.drop_left' rfl, List.take_left' rfl]
    rw [e1] at this
    exact ⟨h.set id (.row sz (pre ++ xs ++ post) ep false), this, by simp, fun j hj => by rw [List.getElem?_set_ne (fun e => hj (by rw [e]))]⟩

/-- A row of slices by itself. -/
theorem fz_rows {v : Nat → V} {f : Nat → Option Nat} {g : Nat → List (List V)} (d : Nat) : ∀ (ks : List Nat) (h : Heap), (∀ k ∈ ks, SL h 1 (v k) (f k) (g k)) → ks.Nodup → (∀ a b id, a ∈ ks → b ∈ ks → f a = some id → f b = some id → a = b) →
    ∃ h', mapH (mapH (Go.Ev.fz (d + 2))) h (ks.map fun k => [v k]) = some (ks.map fun k => [V.arr (g k)], h') ∧ h'.length = h.length ∧ ∀ j, (∀ k ∈ ks, f k ≠ some j) → h'[j]? = h[j]?
  | [], h, _, _, _ => ⟨h, rfl, rfl, fun _ _ => rfl⟩
  | k :: ks, h, hs, hn, ha => by
    obtain ⟨h1, e1, l1, k1⟩ := (hs k (by simp)).fz d
    rw [List.nodup_cons] at hn
    obtain ⟨h2, e2, l2, k2⟩ := fz_rows d ks h1 (fun k' hk' => (hs k' (by simp [hk'])).mono fun id hid => k1 id (fun e => hn.1 (by rw [ha k k' id (by simp) (by simp [hk']) e hid]; exact hk'))) hn.2
      (fun a b id ha' hb' => ha a b id (by simp [ha']) (by simp [hb']))
    refine ⟨h2, ?_, by omega, fun j hj => by rw [k2 j (fun k' hk' => hj k' (by simp [hk'])), k1 j (hj k (by simp))]⟩
    simp only [List.map_cons, mapH, e1, e2]

theorem RS.fz {h : Heap} {oT ep : Nat} {s : LS} {f : Nat → Option Nat} {v : Nat → V} (r : RS h oT ep s f v) (d : Nat) : ∃ h', Go.Ev.fz (d + 5) h (.agg (cellsS oT ep s v)) = some (.agg (cellsF s), h') := by
  have s0 := r.sq (i := 0) (by omega)
  obtain ⟨h1, e1, l1, k1⟩ := s0.fz (d + 2)
  have hrow1 : h1[oT]? = some (.row 1 (rowT v) ep true) := by rw [k1 oT (r.ne 0 (by omega))]; exact r.row
  have hT1 := (List.getElem?_eq_some_iff.1 hrow1).1
  obtain ⟨h1', hh1'⟩ : ∃ h1', h1' = h1.set oT (.row 1 (rowT v) ep false) := ⟨_, rfl⟩
  have k1' : ∀ j, f 0 ≠ some j → oT ≠ j → h1'[j]? = h[j]? := fun j hj hT => by rw [hh1', List.getElem?_set_ne hT, k1 j hj]
  have hks : ∀ k ∈ (List.range 8).map (· + 1), 1 ≤ k ∧ k < 9 := fun k hk => by
    obtain ⟨i, hi, rfl⟩ := List.mem_map.1 hk
    have := List.mem_range.1 hi
    omega
  obtain ⟨h2, e2, l2, k2⟩ := fz_rows (v := v) (f := f) (g := fun k => (s.q k).map cI) (d + 1) ((List.range 8).map (· + 1)) h1' (fun k hk => by
      have := hks k hk
      exact (r.sq (i := k) (by omega)).mono fun id hid => k1' id (fun e => by have := r.apart 0 k id (by omega) (by omega) e hid; omega) (fun e => r.ne k (by omega) (by rw [hid, e]))) (by decide)
    (fun a b id ha hb hfa hfb => r.apart a b id (by have := hks a ha; omega) (by have := hks b hb; omega) hfa hfb)
  have e2' : Go.Ev.fz (d + 4) h1 (.sl oT ep 0 8) = some (.arr (tA s), h2) := by
    have er : ((rowT v).drop 0).take 8 = ((List.range 8).map (· + 1)).map fun k => [v k] := by rfl
    have et : tA s = ((List.range 8).map (· + 1)).map fun k => [V.arr ((s.q k).map cI)] := by rfl
    show (match h1[oT]? with
      | some (.row z xs cur _) =>
        if ep = cur ∧ 0 + 8 ≤ xs.length then
          (mapH (mapH (Go.Ev.fz (d + 3))) (h1.set oT (.row z xs cur false)) ((xs.drop 0).take 8)).map fun (p : List (List V) × Heap) => (V.arr p.1, p.2)
        else none
      | _ => none) = _
    rw [hrow1]
    simp only [rowT_len, Nat.zero_add, Nat.le_refl, and_self, if_true]
    rw [er, ← hh1', e2, et]
    rfl
  have s9 : SL h2 3 (v 9) (f 9) (s.tm.map cR) := r.s9.mono fun id hid => by
    rw [k2 id (fun k hk e => by have := hks k hk; have := r.apart k 9 id (by omega) (by omega) e hid; omega), k1' id (fun e => by have := r.apart 0 9 id (by omega) (by omega) e hid; omega) (fun e => r.ne 9 (by omega) (by rw [hid, e]))]
  obtain ⟨h3, e3, l3, k3⟩ := s9.fz (d + 2)
  refine ⟨h3, ?_⟩
  show (mapH (Go.Ev.fz (d + 4)) h (cellsS oT ep s v)).map (fun p => (V.agg p.1, p.2)) = _
  have eb : Go.Ev.fz (d + 4) h (.bool s.closed) = some (.bool s.closed, h) := rfl
  have ec : Go.Ev.fz (d + 4) h (.int .i64 s.clock) = some (.int .i64 s.clock, h) := rfl
  have eg : Go.Ev.fz (d + 4) h (.int .i64 s.given) = some (.int .i64 s.given, h) := rfl
  simp only [cellsS, mapH, eb, ec, eg, e1, e2', e3]
  rfl

theorem fz_do {h : Heap} {oT ep : Nat} {s : LS} {f : Nat → Option Nat} {v : Nat → V} (r : RS h oT ep s f v) (n : Int) (t : Int × Int × Int) (w : Int) :
    ∃ h', Go.Ev.fz fzDepth h (.tup [.agg (cellsS oT ep s v), .int .i64 n, .agg (cN t), .int .i64 w]) = some (.tup [.agg (cellsF s), .int .i64 n, .agg (cN t), .int .i64 w], h') := by
  obtain ⟨h1, e1⟩ := r.fz 58
  refine ⟨h1, ?_⟩
  show (mapH (Go.Ev.fz 63) h [.agg (cellsS oT ep s v), .int .i64 n, .agg (cN t), .int .i64 w]).map (fun p => (V.tup p.1, p.2)) = _
  have e1' : Go.Ev.fz 63 h (.agg (cellsS oT ep s v)) = some (.agg (cellsF s), h1) := e1
  have e2 : Go.Ev.fz 63 h1 (.int .i64 n) = some (.int .i64 n, h1) := rfl
  have e3 : Go.Ev.fz 63 h1 (.agg (cN t)) = some (.agg (cN t), h1) := rfl
  have e4 : Go.Ev.fz 63 h1 (.int .i64 w) = some (.int .i64 w, h1) := rfl
  simp only [mapH, e1', e2, e3, e4]
  rfl

set_option maxHeartbeats 8000000 in
set_option maxRecDepth 8000 in
theorem do_end {P : V → Heap → Prop} {B : Nat} {x : Step} {a : (Int × (Int × Int × Int) × Int) × LS} {H : Heap} {oT ep : Nat} {f : Nat → Option Nat} {v : Nat → V} (d : Bd H B x oT ep a.2 f v a.1.2.1)
    (hP : ∀ H', RS H' oT ep a.2 f v → P (.tup [.agg (cellsS oT ep a.2 v), .int .i64 a.1.1, .agg (cN a.1.2.1), .int .i64 a.1.2.2]) H')
    {env : List V} (he : env.length = 74) (g4 : eget env 4 = .ptr 2 0) (g6 : eget env 6 = .ptr 3 0) (g8 : eget env 8 = .ptr B 0) (g9 : eget env 9 = .int .i64 a.1.1) (g10 : eget env 10 = .int .i64 a.1.2.2) (g11 : eget env 11 = .ptr (B + 1) 0) :
    WK (callW Φ) none (FinX [.cell 4 (some 6), .tmp 5, .cell 6 (some 3), .tmp 7] P) [.c (snd (snd (snd (snd (snd (snd ref27_Do.c.body))))))] { env := env, marks := [], heap := H } := by
  have hB := d.hB
  have z0 := pt_at d.kb 0
  have zt := pt_at d.kt 0
  have st := store6 (ds := cellsS oT ep a.2 v) d.k2 rfl (cellsS_cell d.r a.2 oT ep)
  have l2 := (List.getElem?_eq_some_iff.1 d.k2).1
  have k3' : (H.set 2 (.cells (cellsS oT ep a.2 v)))[3]? = some (.cells [.int .u8 0, .int .i64 0, .int .i64 0]) := by rw [List.getElem?_set_ne (by omega)]; exact d.k3
  have k2' : (H.set 2 (.cells (cellsS oT ep a.2 v)))[2]? = some (.cells (cellsS oT ep a.2 v)) := List.getElem?_set_self l2
  have kt' : (H.set 2 (.cells (cellsS oT ep a.2 v)))[B + 1]? = some (.cells (cN a.1.2.1)) := by rw [List.getElem?_set_ne (by omega)]; exact d.kt
  have zt' := pt_at kt' 0
  have st2 := store6 (ds := cN a.1.2.1) k3' rfl rfl
  have r1 := d.r.set (cs' := cellsS oT ep a.2 v) d.k2
  have r2 := r1.set (cs' := cN a.1.2.1) k3'
  obtain ⟨H1, hH1⟩ : ∃ H1, H1 = H.set 2 (.cells (cellsS oT ep a.2 v)) := ⟨_, rfl⟩
  rw [← hH1] at st k3' k2' kt' zt' st2 r2
  have l3 := (List.getElem?_eq_some_iff.1 k3').1
  obtain ⟨H2, hH2⟩ : ∃ H2, H2 = H1.set 3 (.cells (cN a.1.2.1)) := ⟨_, rfl⟩
  have y2 := pt_at (h := H2) (a := 2) (cs := cellsS oT ep a.2 v) (by rw [hH2, List.getElem?_set_ne (by omega)]; exact k2') 0
  have y3 := pt_at (h := H2) (a := 3) (cs := cN a.1.2.1) (by rw [hH2, List.getElem?_set_self l3]) 0
  rw [← hH2] at st2 r2
  have hfin := hP H2 r2
  obtain ⟨D, hD⟩ : ∃ D, D = cellsS oT ep a.2 v := ⟨_, rfl⟩
  have hDl : D.length = 6 := by rw [hD]; rfl
  have hDt : List.take 6 D = D := by rw [← hDl]; exact List.take_length
  obtain ⟨T, hT⟩ : ∃ T, T = cN a.1.2.1 := ⟨_, rfl⟩
  have hTl : T.length = 3 := by rw [hT]; rfl
  have hTt : List.take 3 T = T := by rw [← hTl]; exact List.take_length
  rw [← hD] at z0 st y2 hfin
  rw [← hT] at zt zt' st2 y3 hfin
  rw [hDl] at st
  rw [hTl] at st2
  simp only [List.drop_zero] at z0 zt zt' y2 y3
  simp only [snd, ref27_Do.c, kSeq]
  refine kDraw2 ref27_Do.r23.ord ?_
  simp (config := { maxSteps := 5000000 }) [ref27_Do.r23, List.filterMap_cons, g4, g6, g8, g9, g10, g11, he, okV, fV_eq, z0, zt, zt', st, st2, y2, y3, hDl, hDt, hTl, hTt, hfin, ofCells]
  repeat' apply And.intro
  all_goals
    simp only [set_puts, puts_puts, List.cons_append, List.nil_append]
    exact puts_ext _ rfl rfl rfl rfl

set_option maxHeartbeats 8000000 in
set_option maxRecDepth 8000 in
/-- The book's answer to a step. -/
theorem ref_do (h : Heap) {s : LS} (ht : tot s < 2 ^ 39) (hg0 : 0 ≤ s.given) (hg : s.given < 2 ^ 62) (hc0 : 0 ≤ s.clock) (hcm : s.clock ≤ 1125899906842624) (x : Step) :
    callW Φ ref27_Do [.agg (cellsF s), .agg (cS x)] h = some (.tup [.agg (cellsF (refA s x).2), .int .i64 (refA s x).1.1, .agg (cN (refA s x).1.2.1), .int .i64 (refA s x).1.2.2], h) := by
  obtain ⟨P, hP⟩ : ∃ P : V → Heap → Prop, P = fun y h' => ∃ h3, Go.Ev.fz fzDepth h' y = some (.tup [.agg (cellsF (refA s x).2), .int .i64 (refA s x).1.1, .agg (cN (refA s x).1.2.1), .int .i64 (refA s x).1.2.2], h3) := ⟨_, rfl⟩
  suffices hgo : ∃ r h', evBodyW (callW Φ) ref27_Do.c [.agg (cellsF s), .agg (cS x)] [] = some (r, h') ∧ P r h' by
    obtain ⟨r, h', h1, h2⟩ := hgo
    rw [hP] at h2
    obtain ⟨h3, h2⟩ := h2
    exact callW_tree (args := [.agg (cellsF s), .agg (cS x)]) ref27_Do.Φ rfl (by rfl) h1 h2
  -- the front's heap
  obtain ⟨H0, hH0⟩ : ∃ H0 : Heap, H0 = [Ob.cells (cellsF s), Ob.cells (cS x), Ob.cells [.bool false, .int .i64 0, .int .i64 0, .nils, .nils, .nils], Ob.cells [.int .u8 0, .int .i64 0, .int .i64 0]] := ⟨_, rfl⟩
  have y0 : H0[0]? = some (.cells (cellsF s)) := by rw [hH0]; rfl
  have y1 : H0[1]? = some (.cells (cS x)) := by rw [hH0]; rfl
  have y2 : H0[2]? = some (.cells [.bool false, .int .i64 0, .int .i64 0, .nils, .nils, .nils]) := by rw [hH0]; rfl
  have y3 : H0[3]? = some (.cells [.int .u8 0, .int .i64 0, .int .i64 0]) := by rw [hH0]; rfl
  obtain ⟨H1, oT, ep, f, v, hcp, r1, K1⟩ := copy_spec H0 s (by omega)
  obtain ⟨B, hB⟩ : ∃ B, B = H1.length := ⟨_, rfl⟩
  have hBl : 4 ≤ B := by
    have := (List.getElem?_eq_some_iff.1 (K1 _ _ y3)).1
    omega
  obtain ⟨H2, hH2⟩ : ∃ H2, H2 = H1 ++ [Ob.cells (cellsS oT ep s v)] := ⟨_, rfl⟩
  have st1 : evStoreV (H1 ++ [Ob.cells [.bool false, .int .i64 0, .int .i64 0, .nils, .nils, .nils]]) 6 (.ptr B 0) (.agg (cellsS oT ep s v)) = some (V.non, H2) := by
    have := store6 (h := H1 ++ [Ob.cells [.bool false, .int .i64 0, .int .i64 0, .nils, .nils, .nils]]) (b := B) (cs := [.bool false, .int .i64 0, .int .i64 0, .nils, .nils, .nils]) (ds := cellsS oT ep s v) (by rw [hB]; simp) rfl (cellsS_cell r1 s oT ep)
    have e6 : (cellsS oT ep s v).length = 6 := rfl
    rw [e6] at this
    rw [this, hH2, hB]
    simp
  have l2 : H2.length = B + 1 := by rw [hH2, hB]; simp
  obtain ⟨H3, hH3⟩ : ∃ H3, H3 = H2 ++ [Ob.cells (cN (0, 0, 0))] := ⟨_, rfl⟩
  have st2 : evStoreV (H2 ++ [Ob.cells [.int .u8 0, .int .i64 0, .int .i64 0]]) 3 (.ptr (B + 1) 0) (.agg [.int .u8 0, .int .i64 0, .int .i64 0]) = some (V.non, H3) := by
    have := store6 (h := H2 ++ [Ob.cells [.int .u8 0, .int .i64 0, .int .i64 0]]) (b := B + 1) (cs := [.int .u8 0, .int .i64 0, .int .i64 0]) (ds := [.int .u8 0, .int .i64 0, .int .i64 0]) (by rw [← l2]; simp) rfl rfl
    have e3 : ([.int .u8 0, .int .i64 0, .int .i64 0] : List V).length = 3 := rfl
    rw [e3] at this
    rw [this, hH3, ← l2]
    simp [cN]
  have K3 : Kc H1 H3 := by rw [hH3, hH2]; exact (Kc.ext _ _).trans (.ext _ _)
  have d : Bd H3 B x oT ep s f v (0, 0, 0) := by
    refine ⟨by rw [hH3, hH2]; exact (r1.ext _).ext _, K3 _ _ (K1 _ _ y1), K3 _ _ (K1 _ _ y2), K3 _ _ (K1 _ _ y3), ?_, ?_, hBl⟩
    · rw [hH3, List.getElem?_append_left (by omega), hH2, hB]; simp
    · rw [hH3, ← l2]; simp
  have z0 := pt_at y0 0
  have zx := pt_at d.kx 0
  simp only [cS, List.drop_zero, List.drop_succ_cons] at z0 zx
  refine body_x (Nat.le_of_ble_eq_true rfl) (fun env he g => ?_)
  have g0 := g 0 (by simp)
  have g1 := g 1 (by simp)
  change eget env 0 = .agg (cellsF s) at g0
  change eget env 1 = .agg (cS x) at g1
  clear g
  simp [ref27_Do.c] at he
  have hb0 : evBox [] (cellsF s) = some (.ptr 0 0, [Ob.cells (cellsF s)]) := by simp [evBox, cellsF, V.isCell]
  have hb1 : evBox [Ob.cells (cellsF s)] (cS x) = some (.ptr 1 0, [Ob.cells (cellsF s), Ob.cells (cS x)]) := by simp [evBox, cS, V.isCell]
  have hv0 : (V.agg (cellsF s)).cells = cellsF s := rfl
  have hv1 : (V.agg (cS x)).cells = cS x := rfl
  obtain ⟨F, hF⟩ : ∃ F, F = cellsF s := ⟨_, rfl⟩
  have hFl : F.length = 6 := by rw [hF]; rfl
  have hFt : List.take 6 F = F := by rw [← hFl]; exact List.take_length
  obtain ⟨X, hX⟩ : ∃ X, X = cS x := ⟨_, rfl⟩
  obtain ⟨D, hD⟩ : ∃ D, D = cellsS oT ep s v := ⟨_, rfl⟩
  rw [← hF] at g0 hb0 hb1 hv0 z0 hcp hH0
  rw [← hX] at g1 hb1 hv1 hH0
  rw [← hD] at hcp st1
  have main : ∀ e : List V, e.length = 74 → eget e 3 = .ptr 1 0 → eget e 4 = .ptr 2 0 → eget e 6 = .ptr 3 0 → eget e 8 = .ptr B 0 → eget e 9 = .int .i64 0 → eget e 10 = .int .i64 0 → eget e 11 = .ptr (B + 1) 0 → eget e 16 = .int .u8 x.kind →
      WK (callW Φ) none (FinX [.cell 4 (some 6), .tmp 5, .cell 6 (some 3), .tmp 7] P) [.c doSw, .c (snd (snd (snd (snd (snd (snd ref27_Do.c.body))))))] { env := e, marks := [], heap := H3 } := by
    intro e he g3 g4 g6 g8 g9 g10 g11 g16
    refine kNormal (do_switch d ht hg0 hg hc0 hcm he g3 g4 g6 g8 g9 g10 g11 g16) ?_
    rintro ⟨e', mk, H'⟩ ⟨⟨oT', ep', f', v', d'⟩, hmk, he', k4, k6, k8, k9, k10, k11⟩
    simp only at d' hmk he' k4 k6 k8 k9 k10 k11
    obtain rfl := hmk
    refine do_end d' (fun H'' r'' => ?_) he' k4 k6 k8 k9 k10 k11
    rw [hP]
    exact fz_do r'' _ _ _
  simp only [doSw, fst, snd, ref27_Do.c, kSeq, kRegion, kBlock] at main ⊢
  have hH0' : [Ob.cells F, Ob.cells X] ++ [Ob.cells [.bool false, .int .i64 0, .int .i64 0, .nils, .nils, .nils]] ++ [Ob.cells [.int .u8 0, .int .i64 0, .int .i64 0]] = H0 := by rw [hH0]; rfl
  have hb3 : evBuild H2 [.int .u8 0, .int .i64 0, .int .i64 0] [] = some (.agg [.int .u8 0, .int .i64 0, .int .i64 0], H2) := rfl
  simp (config := { maxSteps := 5000000 }) [ref27_Do.r0, ref27_Do.r1, ref27_Do.r2, ref27_Do.r3, ref27_Do.r4, ref27_Do.r5, g0, g1, he, okV, fV_eq, hv0, hv1, hb0, hb1, ← hH0, z0, hFl, hFt, hcp, ← hB, st1, hb3, l2, st2, faddr_ptr, zx, ofCells]
  refine main _ ?_ ?_ ?_ ?_ ?_ ?_ ?_ ?_ ?_ <;> simp [he]

set_option maxHeartbeats 8000000 in
set_option maxRecDepth 8000 in
theorem ref_new (h : Heap) : callW Φ ref27_New [] h = some (.agg (cellsF LS.new), h) := by
  obtain ⟨H0, hH0⟩ : ∃ H0 : Heap, H0 = [Ob.cells [.bool false, .int .i64 0, .int .i64 0, .nils, .nils, .nils]] := ⟨_, rfl⟩
  obtain ⟨H1, hH1⟩ : ∃ H1 : Heap, H1 = H0 ++ [Ob.row 1 (rowT fun _ => .nils) 0 true] := ⟨_, rfl⟩
  have r1 : RS H1 1 0 LS.new (fun _ => none) (fun _ => .nils) := by
    refine ⟨by rw [hH1, hH0]; rfl, fun i hi => .inl ⟨rfl, ?_, rfl⟩, fun i j id _ _ h => (by cases h), fun i _ h => (by cases h)⟩
    simp [cont2, LS.new]
  have hmk : evMks H0 [.nils] 1 24 (.int .i64 8) (.int .i64 8) = some (.sl 1 0 0 8, H1) := by
    rw [hH1, hH0]
    simp [evMks, rowT, okV, fV_eq, fNat_eq, roomB, newOb]
    rfl
  have k0 : H1[0]? = some (.cells [.bool false, .int .i64 0, .int .i64 0, .nils, .nils, .nils]) := by rw [hH1, hH0]; rfl
  have st := store6 (ds := cellsS 1 0 LS.new fun _ => .nils) k0 rfl (cellsS_cell r1 LS.new 1 0)
  have r2 := r1.set (cs' := cellsS 1 0 LS.new fun _ => .nils) k0
  obtain ⟨H2, hH2⟩ : ∃ H2, H2 = H1.set 0 (.cells (cellsS 1 0 LS.new fun _ => .nils)) := ⟨_, rfl⟩
  rw [← hH2] at st r2
  have k2 : H2[0]? = some (.cells (cellsS 1 0 LS.new fun _ => .nils)) := by rw [hH2, List.getElem?_set_self (List.getElem?_eq_some_iff.1 k0).1]
  have y0 := pt_at k2 0
  have hbd : evBuild H1 [.bool false, .int .i64 0, .int .i64 0, .nils, .nils, .nils] [(4, 1, .sl 1 0 0 8)] = some (.agg (cellsS 1 0 LS.new fun _ => .nils), H1) := by
    simp [evBuild, placeParts, V.cells, V.isCell, setRange, cellsS, LS.new]
  obtain ⟨D, hD⟩ : ∃ D, D = cellsS 1 0 LS.new fun _ => .nils := ⟨_, rfl⟩
  have hDl : D.length = 6 := by rw [hD]; rfl
  have hDt : List.take 6 D = D := by rw [← hDl]; exact List.take_length
  rw [← hD] at st y0 hbd
  rw [hDl] at st
  have hb : evBodyW (callW Φ) ref27_New.c [] [] = some (.agg D, H2) := by
    refine body_q (Nat.le_of_ble_eq_true rfl) (fun env he g => ?_)
    clear g
    simp [ref27_New.c] at he
    have hH0' : ([] : Heap) ++ [Ob.cells [.bool false, .int .i64 0, .int .i64 0, .nils, .nils, .nils]] = H0 := by rw [hH0]; rfl
    simp only [List.drop_zero] at y0
    simp [ref27_New.c, ref27_New.r0, ref27_New.r1, he, okV, fV_eq, ← hH0, hmk, hbd, st, y0, hDl, hDt, ofCells]
  obtain ⟨h3, e3⟩ := r2.fz 59
  rw [← hD] at e3
  exact callW_tree (args := []) ref27_New.Φ rfl rfl hb e3
end Go.Proofs.Lp
