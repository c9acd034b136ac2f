/- The walk of LoopTimers: what is cleared; the clock goes on. No conditions. -/
import Derived.Test.YtgfebbhjpgkdfaaLpN
namespace Go.Proofs.Lp
open Go Go.Ev
set_option linter.unusedVariables false
set_option linter.unusedSimpArgs false

theorem idle_only {L : LS} (h : idle L) : only L := fun k _ => h k
theorem idle_tot {L : LS} (h : idle L) : tot L = L.tm.length := by rw [only_tot (idle_only h), h 1]; rfl

set_option maxHeartbeats 8000000 in
set_option maxRecDepth 8000 in
theorem lt3 {P : V → Heap → Prop} (hP : ∀ h, P (.bool true) h) {W : List Int} {on : Int} (hW : W.length < 2 ^ 62) {hp : Heap} {l : Nat} {L : LS} {f : Nat → Option Nat} (hr : Rep hp l L f) (hid : idle L) (hc : L.clock = 0) (hcl : L.closed = false)
    (hlt : L.tm.length < 2 ^ 39) {vC : V} {oC : Option Nat} {C : Nat → Bool} (hs : SL hp 1 vC oC (marks W.length C)) (hap : Apart hp l f oC) (hJ : J W W.length C L.tm)
    {env : List V} (he : env.length = 206) (g0 : eget env 0 = .arr (W.map cI)) (g2 : eget env 2 = .int .i64 on) (g7 : eget env 7 = .ptr l 0) (g12 : eget env 12 = vC) :
    WK (callW Φ) none (FinX [.tmp 6] P) [.o law27_LoopTimers.r25, .c (tl (tl (tl (tl (tl (tl (tl law27_LoopTimers.c.body)))))))] { env := env, marks := [], heap := hp } := by
  simp only [tl, snd, law27_LoopTimers.c]
  obtain ⟨h1, f1, hcall, hr1, hfr⟩ := advance_spec hr (by rw [idle_tot hid]; omega) (by omega) (by omega) on
  by_cases hz : advV L on = 0
  · have hz' : ¬ (on < 0 ∨ on > 1125899906842624 - L.clock) := by
      intro h
      simp [advV, hcl, h] at hz
    have hn : advN L on = ripe on L.tm := by simp only [advN, if_pos hz, hc, Int.zero_add]
    have hL : advL L on = { midL L on (ripe on L.tm) with tm := L.tm.drop (ripe on L.tm) } := by simp only [advL, if_pos hz, hc, Int.zero_add]
    have hrl : (L.tm.take (ripe on L.tm)).length = ripe on L.tm := by have := ripe_le on L.tm; simp; omega
    rw [hn, hz, ← hrl] at hcall
    rw [hL] at hr1
    simp [law27_LoopTimers.r25, law27_LoopTimers.r26, g0, g2, g7, g12, he, okV, fV_eq, hcall, evExt]
    refine lt4 (on := on) (R := L.tm.take (ripe on L.tm)) (rest := L.tm.drop (ripe on L.tm)) hP hW hr1 ?_ ?_ (by rw [hrl]; have := ripe_le on L.tm; omega) ?_ (ripe_take on L.tm) (ripe_drop hJ.srt) (hfr.keep hap hs) (hfr.apart hap) (by rw [List.take_append_drop]; exact hJ) ?_ ?_ ?_ ?_ ?_ ?_
    · intro k hk
      simp only [midL, upq, if_neg hk]
      exact hid k
    · simp [midL, upq, hid 1]
    · simp; omega
    all_goals simp [he, g0, g2, g7, g12]
  · have hv : advV L on = 2 := by
      simp only [advV, hcl, Bool.false_eq_true, if_false] at hz ⊢
      split at hz
      · rename_i h; rw [if_pos h]
      · exact absurd rfl hz
    have hor : on < 0 ∨ on > 1125899906842624 := by
      by_cases h : on < 0 ∨ on > 1125899906842624 - L.clock
      · rw [hc] at h; simpa using h
      · simp [advV, hcl, h] at hz
    have hn : advN L on = 0 := by simp only [advN, if_neg hz]
    rw [hv, hn] at hcall
    by_cases h0 : on < 0
    · simp [law27_LoopTimers.r25, law27_LoopTimers.r26, law27_LoopTimers.r27, g0, g2, g7, g12, he, okV, fV_eq, hcall, evExt, evPick, h0, hP]
    · have h2 : on > 1125899906842624 := by omega
      simp [law27_LoopTimers.r25, law27_LoopTimers.r26, law27_LoopTimers.r27, g0, g2, g7, g12, he, okV, fV_eq, hcall, evExt, evPick, h0, h2, hP]

set_option maxHeartbeats 8000000 in
set_option maxRecDepth 8000 in
theorem lt2 {P : V → Heap → Prop} (hP : ∀ h, P (.bool true) h) {W G : List Int} {on : Int} (hW : W.length < 2 ^ 39) (hG : G.length < 2 ^ 63) {hp : Heap} {l : Nat} {L : LS} {f : Nat → Option Nat} (hr : Rep hp l L f) (hid : idle L) (hc : L.clock = 0) (hcl : L.closed = false)
    (hlt : L.tm.length < 2 ^ 39) (hJ : J W W.length (fun _ => false) L.tm)
    {env : List V} (he : env.length = 206) (g0 : eget env 0 = .arr (W.map cI)) (g1 : eget env 1 = .arr (G.map cI)) (g2 : eget env 2 = .int .i64 on) (g7 : eget env 7 = .ptr l 0) :
    WK (callW Φ) none (FinX [.tmp 6] P) [.o law27_LoopTimers.r14, .c (tl (tl (tl (tl (tl law27_LoopTimers.c.body)))))] { env := env, marks := [], heap := hp } := by
  simp only [tl, snd, law27_LoopTimers.c]
  have hlnW : ∀ h, evLen h .l (.arr (W.map cI)) = some (.int .i64 W.length, h) := fun h => by simp [evLen, lenV, fNat_eq]
  have hlnG : ∀ h, evLen h .l (.arr (G.map cI)) = some (.int .i64 G.length, h) := fun h => by simp [evLen, lenV, fNat_eq]
  obtain ⟨h1, hh1⟩ : ∃ h1, h1 = hp ++ [Ob.row 1 (List.replicate W.length [.bool false]) 0 true] := ⟨_, rfl⟩
  have hmk : evMks hp [.bool false] 1 1 (.int .i64 W.length) (.int .i64 W.length) = some (.sl hp.length 0 0 W.length, h1) := by
    have : (W.length : Int) * 1 ≤ roomB := by unfold roomB; omega
    simp only [evMks]
    rw [if_pos ⟨by omega, by omega, by simpa using this⟩, Int.toNat_natCast, fNat_eq, hh1]
    simp
  have hs1 : SL h1 1 (.sl hp.length 0 0 W.length) (some hp.length) (marks W.length fun _ => false) := by
    have hm : marks W.length (fun _ => false) = List.replicate W.length [.bool false] := by simp [marks, List.map_const']
    refine .inr ⟨hp.length, 0, [], [], rfl, by rw [marks_len]; rfl, by rw [hh1, hm]; simp, fun e he => ?_⟩
    simp only [List.nil_append, List.append_nil, hm, List.mem_replicate] at he
    rw [he.2]
    exact ⟨rfl, rfl, rfl⟩
  have hr1 : Rep h1 l L f := by
    obtain ⟨w, hw⟩ := hr
    rw [hh1]
    exact ⟨w, hw.ext _⟩
  have hap1 : Apart h1 l f (some hp.length) := fun id h => by
    cases h
    refine ⟨by rw [hh1]; simp, fun ho => ?_⟩
    have := hr.lt ho
    omega
  simp [law27_LoopTimers.r14, law27_LoopTimers.r15, g0, g1, he, okV, fV_eq, hlnW, hlnG, hmk]
  refine kLoop (fun m s => ∃ i : Nat, m = G.length - i ∧ i ≤ G.length ∧ s.env.length = 206 ∧ eget s.env 0 = .arr (W.map cI) ∧ eget s.env 2 = .int .i64 on ∧ eget s.env 7 = .ptr l 0 ∧ eget s.env 12 = .sl hp.length 0 0 W.length ∧ eget s.env 66 = .arr (G.map cI) ∧ eget s.env 67 = .int .i64 G.length ∧ eget s.env 68 = .int .i64 i ∧ s.marks = [] ∧
      ∃ L f C, Rep s.heap l L f ∧ idle L ∧ L.clock = 0 ∧ L.closed = false ∧ L.tm.length < 2 ^ 39 ∧ SL s.heap 1 (.sl hp.length 0 0 W.length) (some hp.length) (marks W.length C) ∧ Apart s.heap l f (some hp.length) ∧ J W W.length C L.tm) G.length ⟨0, by
      simp [g0, g1, g2, g7, he]
      exact ⟨L, f, hr1, hid, hc, hcl, hlt, _, hs1, hap1, hJ⟩⟩ ?_
  rintro m ⟨e, mk, hq⟩ ⟨i, rfl, hi, he, k0, k2, k7, k12, k66, k67, k68, hm, L, f, C, hr, hid, hc, hcl, hlt, hs, hap, hJ⟩
  simp only at he k0 k2 k7 k12 k66 k67 k68 hm hr hs hap
  obtain rfl := hm
  have htot : tot L < 2 ^ 40 := by rw [idle_tot hid]; omega
  by_cases hlti : i < G.length
  · obtain ⟨g, hg⟩ : ∃ g, G[i]? = some g := ⟨_, List.getElem?_eq_getElem hlti⟩
    have haG := arr_at (h := hq) (sz := 1) (k := .i64) (xs := G.map cI) (i := i) (e := cI g) (by rw [List.getElem?_map, hg]; rfl) rfl
    simp only [cI] at haG
    have hi1 : (i : Int) < (G.length : Int) := by omega
    have hw1 : IntKind.i64.wrap ((i : Int) + 1) = ((i + 1 : Nat) : Int) := by rw [Ev.wrap64] <;> omega
    have hw1' : IntKind.i64.wrap ((i : Int) + 1) = (i : Int) + 1 := by rw [Ev.wrap64] <;> omega
    obtain ⟨h2, f2, hcall, hr2, hfr⟩ := clear_spec hr htot g
    have hs2 := hfr.keep hap hs
    have hap2 := hfr.apart hap
    have qe : ∀ b : Bool, evEqc h2 true (.leaf .b) (.bool b) (.bool b) = some (.bool false, h2) := fun b => by
      simp [evEqc, eqdV, cellEq, okV, fV_eq]
    rcases hJ.place g with ⟨k, hk, hgk, hck, j, hpl, hJ'⟩ | ⟨hpl, hno⟩
    · have hL2 : clearL L g = { L with tm := L.tm.take j ++ L.tm.drop (j + 1) } := by simp only [clearL, hpl]
      rw [hL2] at hr2
      rw [hpl] at hcall
      have hgk1 : IntKind.i64.wrap (g - 1) = (k : Int) := by rw [hgk, Ev.wrap64] <;> omega
      have e1 : g ≥ 1 := by omega
      have e2 : g ≤ (W.length : Int) := by omega
      obtain ⟨id1, ep1, k1, ha1, _, hcl1⟩ := hs.at (i := k) (marks_get hk)
      have hcd := hcl1 0
      rw [hck] at hcd
      simp only [List.drop_zero] at hcd
      obtain ⟨p, h3, hia3, hst3, hs3, hl3, hsame3⟩ := hs2.set1 (i := k) (by rw [marks_len]; exact hk) (x := .bool true) rfl rfl rfl
      rw [marks_set hk] at hs3
      have hr3 := hap2.rep hr2 hsame3
      have hap3 : Apart h3 l f2 (some hp.length) := fun id hid => ⟨by rw [hl3]; exact (hap2 id hid).1, (hap2 id hid).2⟩
      simp [law27_LoopTimers.b24, law27_LoopTimers.r16, law27_LoopTimers.r17, law27_LoopTimers.r18, law27_LoopTimers.r19, law27_LoopTimers.r21, law27_LoopTimers.r22, law27_LoopTimers.r23, k0, k2, k7, k12, k66, k67, k68, he, okV, fV_eq, hi1, haG, evPick, hlnW, e1, e2, hgk1, ha1, hcd, hcall, qe, hia3, hst3, hw1']
      refine ⟨G.length - (i + 1), by omega, i + 1, rfl, by omega, by omega, _, f2, hr3, hid, hc, hcl, ?_, _, hs3, hap3, hJ'⟩
      simp
      omega
    · rw [hpl] at hcall
      have hL2 : clearL L g = L := by simp only [clearL, hpl]
      rw [hL2] at hr2
      by_cases e1 : g ≥ 1
      · by_cases e2 : g ≤ (W.length : Int)
        · obtain ⟨k, hgk⟩ : ∃ k : Nat, g = k + 1 := ⟨(g - 1).toNat, by omega⟩
          have hk : k < W.length := by omega
          have hck := hno k hk hgk
          have hgk1 : IntKind.i64.wrap (g - 1) = (k : Int) := by rw [hgk, Ev.wrap64] <;> omega
          obtain ⟨id1, ep1, k1, ha1, _, hcl1⟩ := hs.at (i := k) (marks_get hk)
          have hcd := hcl1 0
          rw [hck] at hcd
          simp only [List.drop_zero] at hcd
          simp [law27_LoopTimers.b24, law27_LoopTimers.r16, law27_LoopTimers.r17, law27_LoopTimers.r18, law27_LoopTimers.r19, law27_LoopTimers.r21, law27_LoopTimers.r22, law27_LoopTimers.r23, k0, k2, k7, k12, k66, k67, k68, he, okV, fV_eq, hi1, haG, evPick, hlnW, e1, e2, hgk1, ha1, hcd, hcall, qe, hw1']
          exact ⟨G.length - (i + 1), by omega, i + 1, rfl, by omega, by omega, L, f2, hr2, hid, hc, hcl, hlt, C, hs2, hap2, hJ⟩
        · simp [law27_LoopTimers.b24, law27_LoopTimers.r16, law27_LoopTimers.r17, law27_LoopTimers.r18, law27_LoopTimers.r19, law27_LoopTimers.r21, law27_LoopTimers.r22, law27_LoopTimers.r23, k0, k2, k7, k12, k66, k67, k68, he, okV, fV_eq, hi1, haG, evPick, hlnW, e1, e2, hcall, qe, hw1']
          exact ⟨G.length - (i + 1), by omega, i + 1, rfl, by omega, by omega, L, f2, hr2, hid, hc, hcl, hlt, C, hs2, hap2, hJ⟩
      · simp [law27_LoopTimers.b24, law27_LoopTimers.r16, law27_LoopTimers.r17, law27_LoopTimers.r18, law27_LoopTimers.r19, law27_LoopTimers.r21, law27_LoopTimers.r22, law27_LoopTimers.r23, k0, k2, k7, k12, k66, k67, k68, he, okV, fV_eq, hi1, haG, evPick, hlnW, e1, hcall, qe, hw1']
        exact ⟨G.length - (i + 1), by omega, i + 1, rfl, by omega, by omega, L, f2, hr2, hid, hc, hcl, hlt, C, hs2, hap2, hJ⟩
  · have hi' : i = G.length := by omega
    subst hi'
    simp [law27_LoopTimers.b24, law27_LoopTimers.r16, k67, k68, he, okV, fV_eq]
    refine lt3 (on := on) hP (by omega) hr hid hc hcl hlt hs hap hJ ?_ ?_ ?_ ?_ ?_
    all_goals simp [he, k0, k2, k7, k12]
end Go.Proofs.Lp
