/- LoopTimers. No conditions. -/
import Derived.Test.YtgfebbhjpgkdfaaLpO
namespace Go.Proofs.Lp
open Go Go.Ev
set_option linter.unusedVariables false
set_option linter.unusedSimpArgs false

set_option maxHeartbeats 8000000 in
set_option maxRecDepth 8000 in
theorem timers_spec (W G : List Int) (on : Int) (hG : G.length < 2 ^ 63) (h : Heap) : callW Φ law27_LoopTimers [.arr (W.map cI), .arr (G.map cI), .int .i64 on] h = some (.bool true, h) := by
  obtain ⟨P, hPd⟩ : ∃ P : V → Heap → Prop, P = fun r h' => r = .bool true := ⟨_, rfl⟩
  have hP : ∀ h, P (.bool true) h := fun h => by rw [hPd]
  have hflat : ∀ X : List Int, flatN2 (.arr (X.map cI)) = true := fun X => by
    simp [flatN2, flatN, scalN, scal, cI]
  suffices hgo : ∃ r h', evBodyW (callW Φ) law27_LoopTimers.c [.arr (W.map cI), .arr (G.map cI), .int .i64 on] [] = some (r, h') ∧ P r h' by
    obtain ⟨r, h', h1, h2⟩ := hgo
    rw [hPd] at h2
    subst h2
    exact callW_flat (args := [.arr (W.map cI), .arr (G.map cI), .int .i64 on]) law27_LoopTimers.Φ rfl (by simp only [List.all_cons, List.all_nil, hflat, Bool.and_true, Bool.true_and]; rfl) h1 rfl
  refine body_x (Nat.le_of_ble_eq_true rfl) (fun env he g => ?_)
  have g0 := g 0 (by simp)
  have g1 := g 1 (by simp)
  have g2 := g 2 (by simp)
  change eget env 0 = .arr (W.map cI) at g0
  change eget env 1 = .arr (G.map cI) at g1
  change eget env 2 = .int .i64 on at g2
  clear g
  simp [law27_LoopTimers.c] at he
  obtain ⟨f0, hc0, hr0, _⟩ := new_spec []
  simp only [List.length_nil, List.nil_append] at hc0 hr0
  obtain ⟨h0, hh0⟩ : ∃ h0 : Heap, h0 = [Ob.cells (cellsL (fun _ => V.nils) LS.new)] := ⟨_, rfl⟩
  rw [← hh0] at hc0 hr0
  have hlv := lives_spec []
  have hlnW : ∀ h, evLen h .l (.arr (W.map cI)) = some (.int .i64 W.length, h) := fun h => by simp [evLen, lenV, fNat_eq]
  simp [law27_LoopTimers.c, law27_LoopTimers.r0, law27_LoopTimers.r1, law27_LoopTimers.r3, law27_LoopTimers.r4, g0, g1, g2, he, okV, fV_eq, hlv, hc0, hlnW]
  refine kLoop (fun m s => ∃ i : Nat, m = W.length - i ∧ i ≤ W.length ∧ s.env.length = 206 ∧ eget s.env 0 = .arr (W.map cI) ∧ eget s.env 1 = .arr (G.map cI) ∧ eget s.env 2 = .int .i64 on ∧ eget s.env 7 = .ptr 0 0 ∧ eget s.env 28 = .arr (W.map cI) ∧ eget s.env 29 = .int .i64 W.length ∧ eget s.env 30 = .int .i64 i ∧ s.marks = [] ∧ i ≤ 4096 ∧
      ∃ L f, Rep s.heap 0 L f ∧ idle L ∧ L.clock = 0 ∧ L.closed = false ∧ L.given = i ∧ L.tm.length = i ∧ J W i (fun _ => false) L.tm) W.length ⟨0, by
      simp [g0, g1, g2, he]
      exact ⟨LS.new, ⟨f0, hr0⟩, fun _ => rfl, rfl, rfl, rfl, rfl, J.zero W⟩⟩ ?_
  rintro m ⟨e, mk, hq⟩ ⟨i, rfl, hi, he, k0, k1, k2, k7, k28, k29, k30, hm, hi4, L, f, hr, hid, hc, hcl, hgv, htl, hJ⟩
  simp only at he k0 k1 k2 k7 k28 k29 k30 hm hr
  obtain rfl := hm
  have htot : tot L = i := by rw [idle_tot hid, htl]
  by_cases hlti : i < W.length
  · obtain ⟨w, hw⟩ : ∃ w, W[i]? = some w := ⟨_, List.getElem?_eq_getElem hlti⟩
    have hwd : W.getD i 0 = w := by simp [List.getD_eq_getElem?_getD, hw]
    have haW := arr_at (h := hq) (sz := 1) (k := .i64) (xs := W.map cI) (i := i) (e := cI w) (by rw [List.getElem?_map, hw]; rfl) rfl
    simp only [cI] at haW
    have hi1 : (i : Int) < (W.length : Int) := by omega
    have hw1' : IntKind.i64.wrap ((i : Int) + 1) = (i : Int) + 1 := by rw [Ev.wrap64] <;> omega
    obtain ⟨h2, f2, hcall, hr2, hfr⟩ := after_spec hr (by omega) (by omega) (by omega) (by omega) (by omega) w 0 i
    by_cases hz : faultV L (afterOk w 0) = 0
    · have hok : w ≤ 1125899906842624 ∧ i < 4096 := by
        simp only [faultV, hcl, Bool.false_eq_true, if_false] at hz
        split at hz
        · cases hz
        · rename_i h1
          split at hz
          · cases hz
          · rename_i h2
            simp [afterOk] at h1
            omega
      have hv : afterV L w 0 = ((i : Int) + 1, 0) := by simp only [afterV, if_pos hz, hgv]
      have ht : afterT L w 0 i = tk W i := by
        have : waitV w 0 = max w 0 := rfl
        simp only [afterT, tk, hgv, hc, this, hwd, Int.zero_add]
        congr 1
        omega
      have hL2 : afterL L w 0 i = { L with given := L.given + 1, tm := L.tm.take (spot L.tm (tk W i).due L.tm.length) ++ [tk W i] ++ L.tm.drop (spot L.tm (tk W i).due L.tm.length) } := by
        simp only [afterL, if_pos hz, ht]
      rw [hv] at hcall
      rw [hL2] at hr2
      simp [law27_LoopTimers.b13, law27_LoopTimers.r5, law27_LoopTimers.r6, law27_LoopTimers.r7, law27_LoopTimers.r8, law27_LoopTimers.r10, law27_LoopTimers.r12, k0, k1, k2, k7, k28, k29, k30, he, okV, fV_eq, hi1, haW, hcall, evExt, hw1']
      refine ⟨W.length - (i + 1), by omega, i + 1, rfl, by omega, by omega, by omega, _, ⟨f2, hr2⟩, hid, hc, hcl, ?_, ?_, hJ.ins⟩
      · simp only [hgv]; omega
      · have := spot_le L.tm (tk W i).due L.tm.length
        simp
        omega
    · have hv : afterV L w 0 = (0, faultV L (afterOk w 0)) := by simp only [afterV, if_neg hz]
      rw [hv] at hcall
      by_cases hbig : w > 1125899906842624
      · have hf : faultV L (afterOk w 0) = 2 := by
          have : afterOk w 0 = false := by simp [afterOk]; omega
          simp [faultV, hcl, this]
        rw [hf] at hcall
        simp [law27_LoopTimers.b13, law27_LoopTimers.r5, law27_LoopTimers.r6, law27_LoopTimers.r7, law27_LoopTimers.r8, law27_LoopTimers.r9, k0, k1, k2, k7, k28, k29, k30, he, okV, fV_eq, hi1, haW, hcall, evExt, evPick, hbig, hP]
      · have hok : afterOk w 0 = true := by simp [afterOk]; omega
        have hmany : 4096 ≤ i := by
          by_cases h : 4096 ≤ i
          · exact h
          · exfalso
            apply hz
            rw [hok]
            simp [faultV, hcl, htot]
            omega
        have hf : faultV L (afterOk w 0) = 3 := by
          rw [hok]
          simp [faultV, hcl, htot, hmany]
        rw [hf] at hcall
        have hmany' : (4096 : Int) ≤ (i : Int) := by omega
        simp [law27_LoopTimers.b13, law27_LoopTimers.r5, law27_LoopTimers.r6, law27_LoopTimers.r7, law27_LoopTimers.r8, law27_LoopTimers.r9, k0, k1, k2, k7, k28, k29, k30, he, okV, fV_eq, hi1, haW, hcall, evExt, evPick, hbig, hmany, hmany', hP]
  · have hi' : i = W.length := by omega
    subst hi'
    simp [law27_LoopTimers.b13, law27_LoopTimers.r5, k29, k30, he, okV, fV_eq]
    refine lt2 (on := on) (G := G) hP (by omega) hG hr hid hc hcl (by omega) hJ ?_ ?_ ?_ ?_ ?_
    all_goals simp [he, k0, k1, k2, k7]
end Go.Proofs.Lp
