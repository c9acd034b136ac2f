/- The program's loop: Advance. No conditions. -/
import Derived.Test.YtgfebbhjpgkdfaaLpH
namespace Go.Proofs.Lp
open Go Go.Ev
set_option linter.unusedVariables false
set_option linter.unusedSimpArgs false

theorem mid_zero (L : LS) (c : Int) : midL L c 0 = clkL L c := by
  simp only [midL, upq, clkL, List.take_zero, List.map_nil, List.append_nil]
  congr 1
  funext k
  split
  · rename_i h; rw [h]
  · rfl
theorem mid_step {L : LS} {c : Int} {i : Nat} {t : Tm} (h : L.tm[i]? = some t) : midL L c (i + 1) = upq (midL L c i) 1 ((midL L c i).q 1 ++ [t.id]) := by
  simp only [midL, upq, clkL, if_true, List.take_add_one, h, Option.toList_some, List.map_append, List.map_cons, List.map_nil, List.append_assoc]
  congr 1
  funext k
  split <;> rfl

set_option maxHeartbeats 4000000 in
theorem advance_spec {h : Heap} {l : Nat} {L : LS} {f : Nat → Option Nat} (hr : Rep h l L f) (ht : tot L < 2 ^ 40) (hc0 : 0 ≤ L.clock) (hcm : L.clock ≤ 1125899906842624) (ms : Int) :
    ∃ h' f', callW Φ loop_Loop_Advance [.ptr l 0, .int .i64 ms] h = some (.tup [.int .i64 (advN L ms), .int .i64 (advV L ms)], h') ∧ Rep h' l (advL L ms) f' ∧ Fr h h' l f f' := by
  obtain ⟨v, hr⟩ := hr
  have hq1 : (L.q 1).length + L.tm.length < 2 ^ 40 := by have := q_le L (i := 0) (by decide); unfold tot at ht; simp only [Nat.zero_add] at this; omega
  have c15 : cellsAt h (.ptr l 15) = some [.bool L.closed] := by simp [cellsAt, hr.1, cellsL]
  have c10 : cellsAt h (.ptr l 10) = some [.int .i64 L.clock, .int .i64 L.given, .int .u32 (if L.closed then 1 else 0), .int .i32 0, .int .u32 0, .bool L.closed] := by simp [cellsAt, hr.1, cellsL]
  have hws : IntKind.i64.wrap (1125899906842624 - L.clock) = 1125899906842624 - L.clock := by rw [Ev.wrap64] <;> omega
  obtain ⟨P, hP⟩ : ∃ P : V → Heap → Prop, P = fun r h' => r = .tup [.int .i64 (advN L ms), .int .i64 (advV L ms)] ∧ ∃ f', Rep h' l (advL L ms) f' ∧ Fr h h' l f f' := ⟨_, rfl⟩
  suffices hgo : ∃ r h', callW Φ loop_Loop_Advance [.ptr l 0, .int .i64 ms] h = some (r, h') ∧ P r h' by
    obtain ⟨r, h', h1, h2⟩ := hgo
    rw [hP] at h2
    obtain ⟨rfl, f', h3, h4⟩ := h2
    exact ⟨h', f', h1, h3, h4⟩
  refine call_x loop_Loop_Advance.Φ rfl (Nat.le_of_ble_eq_true rfl) (fun env he h0 => ?_)
  have g0 := h0 0 (by simp)
  have g1 := h0 1 (by simp)
  change eget env 0 = .ptr l 0 at g0
  change eget env 1 = .int .i64 ms at g1
  clear h0
  simp [loop_Loop_Advance.c] at he
  cases hcl : L.closed with
  | true =>
    rw [hcl] at c15
    have hv : advV L ms = 15 := by simp [advV, hcl]
    have hp : P (.tup [.int .i64 0, .int .i64 15]) h := by
      rw [hP]
      exact ⟨by simp [advN, hv], f, by simp only [advL, hv]; exact ⟨v, hr⟩, .refl _ _ _⟩
    simp [loop_Loop_Advance.c, loop_Loop_Advance.r0, loop_Loop_Advance.r1, loop_Loop_Advance.r3, loop_Loop_Advance.r4, g0, g1, he, okV, fV_eq, evNilchk, evEqn, eqnV, nilOf, c15, hp]
  | false =>
    rw [hcl] at c15
    by_cases hms : ms < 0
    · have hv : advV L ms = 2 := by simp [advV, hcl, hms]
      have hp : P (.tup [.int .i64 0, .int .i64 2]) h := by
        rw [hP]
        exact ⟨by simp [advN, hv], f, by simp only [advL, hv]; exact ⟨v, hr⟩, .refl _ _ _⟩
      simp [loop_Loop_Advance.c, loop_Loop_Advance.r0, loop_Loop_Advance.r1, loop_Loop_Advance.r3, loop_Loop_Advance.r5, loop_Loop_Advance.r6, g0, g1, he, okV, fV_eq, evNilchk, evEqn, eqnV, nilOf, evPick, c15, hms, hp]
    · by_cases hbig : ms > 1125899906842624 - L.clock
      · have hv : advV L ms = 2 := by simp [advV, hcl, hbig]
        have hp : P (.tup [.int .i64 0, .int .i64 2]) h := by
          rw [hP]
          exact ⟨by simp [advN, hv], f, by simp only [advL, hv]; exact ⟨v, hr⟩, .refl _ _ _⟩
        simp [loop_Loop_Advance.c, loop_Loop_Advance.r0, loop_Loop_Advance.r1, loop_Loop_Advance.r3, loop_Loop_Advance.r5, loop_Loop_Advance.r6, g0, g1, he, okV, fV_eq, evNilchk, evEqn, eqnV, nilOf, evPick, c15, c10, hws, hms, hbig, hp]
      · have hv : advV L ms = 0 := by simp [advV, hcl, hbig, hms]
        obtain ⟨c, hc⟩ : ∃ c, c = L.clock + ms := ⟨_, rfl⟩
        have hwc : IntKind.i64.wrap (L.clock + ms) = c := by rw [hc, Ev.wrap64] <;> omega
        obtain ⟨r1, r2⟩ := hr.scal (L' := clkL L c) (fun k _ => rfl)
        obtain ⟨h1, hh1⟩ : ∃ h1, h1 = h.set l (.cells (cellsL v (clkL L c))) := ⟨_, rfl⟩
        rw [← hh1] at r1 r2
        have hst : evStoreV h 1 (.ptr l 10) (.int .i64 c) = some (V.non, h1) := by
          have := store_cell hr.1 (off := 10) (x := .int .i64 c) (by rw [cells_len]; omega) rfl rfl
          rw [this, hh1]
          rfl
        simp [loop_Loop_Advance.c, loop_Loop_Advance.r0, loop_Loop_Advance.r1, loop_Loop_Advance.r3, loop_Loop_Advance.r5, loop_Loop_Advance.r7, loop_Loop_Advance.r8, g0, g1, he, okV, fV_eq, evNilchk, evEqn, eqnV, nilOf, evPick, c15, c10, hws, hms, hbig, hwc, hst]
        refine kLoop (fun m s => ∃ i : Nat, m = L.tm.length - i ∧ i ≤ L.tm.length ∧ s.env.length = 83 ∧ eget s.env 0 = .ptr l 0 ∧ eget s.env 6 = .int .i64 i ∧ ripe c L.tm = i + ripe c (L.tm.drop i) ∧ s.marks = [] ∧ ∃ f', Rep s.heap l (midL L c i) f' ∧ Fr h s.heap l f f') L.tm.length ⟨0, by
          simp [g0, he]
          rw [mid_zero]
          exact ⟨f, ⟨v, r1⟩, r2⟩⟩ ?_
        rintro m ⟨e, mk, hp⟩ ⟨i, rfl, hi, he, k0, k6, hrp, hm, f', ⟨w, hrw⟩, hfr⟩
        simp only at he k0 k6 hm hrw hfr
        subst hm
        have cw := hrw.c9
        have sw : SL hp 3 (w 9) (f' 9) (L.tm.map cT) := hrw.s9
        have hlw := sw.len hp
        rw [List.length_map] at hlw
        have cw10 : cellsAt hp (.ptr l 10) = some [.int .i64 c, .int .i64 L.given, .int .u32 (if L.closed then 1 else 0), .int .i32 0, .int .u32 0, .bool L.closed] := by simp [cellsAt, hrw.1, cellsL, midL, upq, clkL]
        have stop : ripe c (L.tm.drop i) = 0 → ∀ e : List V, e.length = 83 → eget e 0 = .ptr l 0 → eget e 6 = .int .i64 i →
            WK (callW Φ) none (FinX [.tmp 4, .tmp 5] P) [.o loop_Loop_Advance.r13, .c (.seq (.region loop_Loop_Advance.r14) .ret)] { env := e, marks := [], heap := hp } := by
          intro hz e he k0 k6
          rw [hz, Nat.add_zero] at hrp
          obtain ⟨v1, hsl, hs1⟩ := sw.drop (i := i) (by simpa using hi)
          obtain ⟨v2, o2, h2, hcl2, hs2, hl2, hrest2, hnew2⟩ := clone3_spec hs1 (by simp; omega)
          have hll : l < hp.length := (List.getElem?_eq_some_iff.1 hrw.1).1
          obtain ⟨p1, p2, p3⟩ := hrw.put (i := 9) (by decide) (L' := advL L ms) (v' := v2) (o' := o2) (by rw [hrest2 l hll]; exact hrw.1)
            (by
              simp only [cont, if_true, szi, advL, if_pos hv, ← hc, hrp, List.map_drop]
              exact hs2)
            (fun e => by have := hnew2 _ e; omega) (fun k _ hk => by simp only [cont, if_neg hk, advL, if_pos hv, ← hc, hrp]) (fun w => by simp only [cellsL, advL, if_pos hv, ← hc, hrp, midL, upq, clkL]; rfl) hl2
            (fun j hj _ _ => hrest2 j hj) (fun id hid => .inr (hnew2 id hid))
          have hpp : P (.tup [.int .i64 i, .int .i64 0]) (h2.set l (.cells (cellsL (upv w 9 v2) (midL L c i)))) := by
            rw [hP]
            exact ⟨by simp [advN, hv, ← hc, hrp], _, ⟨_, p2⟩, hfr.trans p3⟩
          simp [loop_Loop_Advance.r13, loop_Loop_Advance.r14, k0, k6, he, okV, fV_eq, evNilchk, cw, sliceV, hsl, hcl2, p1, hpp]
        simp only [loop_Loop_Advance.b12, kSeq]
        refine kDraw1 loop_Loop_Advance.r9.ord ?_
        by_cases hlt : i < L.tm.length
        · obtain ⟨t, htt⟩ : ∃ t, L.tm[i]? = some t := ⟨_, List.getElem?_eq_getElem hlt⟩
          obtain ⟨id1, ep1, k1, ha, ho, hcl⟩ := sw.at (i := i) (e := cT t) (by rw [List.getElem?_map, htt]; rfl)
          have hcd1 := hcl 1
          have hcd2 := hcl 2
          simp only [cT, List.drop_succ_cons, List.drop_zero] at hcd1 hcd2
          have hi1 : (i : Int) < (L.tm.length : Int) := by omega
          have hdr : L.tm.drop i = t :: L.tm.drop (i + 1) := by
            obtain ⟨h1, h2⟩ := List.getElem?_eq_some_iff.1 htt
            rw [← h2]
            exact List.drop_eq_getElem_cons h1
          have hw1 : IntKind.i64.wrap ((i : Int) + 1) = ((i + 1 : Nat) : Int) := by rw [Ev.wrap64] <;> omega
          by_cases hdue : t.due ≤ c
          · simp [loop_Loop_Advance.r9, List.filterMap_cons, k0, k6, he, okV, fV_eq, evNilchk, evPick, cw, hlw, hi1, ha, hcd1, faddrV, cw10, hdue]
            refine kDraw1 loop_Loop_Advance.r10.ord ?_
            obtain ⟨h2, f2, hput, hr2, hfr2⟩ := put_rep hrw (i := 1) (by decide) (by simp [midL, upq, clkL]; omega) t.id
            have hia : evIaddrA hp 8 1 (.ptr l 1) (.int .i64 0) = some (.ptr l 1, hp) := by simp [evIaddrA, okV, fV_eq]
            simp [loop_Loop_Advance.r10, loop_Loop_Advance.r11, List.filterMap_cons, k0, k6, he, okV, fV_eq, evNilchk, cw, ha, hcd2, faddrV, hia, hput]
            refine ⟨L.tm.length - (i + 1), by omega, i + 1, rfl, by omega, by simpa using hw1, ?_, f2, ?_, hfr.trans hfr2⟩
            · rw [hrp, hdr]; simp only [ripe, if_pos hdue]; omega
            · rw [mid_step htt]; exact hr2
          · simp [loop_Loop_Advance.r9, List.filterMap_cons, k0, k6, he, okV, fV_eq, evNilchk, evPick, cw, hlw, hi1, ha, hcd1, faddrV, cw10, hdue]
            refine stop (by rw [hdr]; simp only [ripe, if_neg hdue]) _ ?_ ?_ ?_ <;> simp [he, k0, k6]
        · have : i = L.tm.length := by omega
          subst this
          simp [loop_Loop_Advance.r9, List.filterMap_cons, k0, k6, he, okV, fV_eq, evNilchk, evPick, cw, hlw]
          refine stop (by rw [List.drop_length]; rfl) _ ?_ ?_ ?_ <;> simp [he, k0, k6]
end Go.Proofs.Lp
