/- The walk of LoopTimers: those that are due. No conditions. -/
import Derived.Test.YtgfebbhjpgkdfaaLpM
namespace Go.Proofs.Lp
open Go Go.Ev
set_option linter.unusedVariables false
set_option linter.unusedSimpArgs false

/-- Only source 0 has tasks. -/
def only (L : LS) : Prop := ∀ k, k ≠ 1 → L.q k = []
theorem only_tot {L : LS} (h : only L) : tot L = L.tm.length + (L.q 1).length := by
  have h0 := h 0 (by decide)
  have h2 := h 2 (by decide)
  have h3 := h 3 (by decide)
  have h4 := h 4 (by decide)
  have h5 := h 5 (by decide)
  have h6 := h 6 (by decide)
  have h7 := h 7 (by decide)
  have h8 := h 8 (by decide)
  simp [tot, sumq, h0, h2, h3, h4, h5, h6, h7, h8]
theorem only_next {L : LS} (h : only L) {x : Int} {xs : List Int} (hq : L.q 1 = x :: xs) : nextR L 0 = ((2, 0, x), upq L 1 xs) := by
  have h0 := h 0 (by decide)
  have h2 := h 2 (by decide)
  have h3 := h 3 (by decide)
  have h4 := h 4 (by decide)
  have h5 := h 5 (by decide)
  have h6 := h 6 (by decide)
  have h7 := h 7 (by decide)
  have h8 := h 8 (by decide)
  have hr : rdy L 8 = [0] := by simp [rdy, hq, h2, h3, h4, h5, h6, h7, h8]
  have hp : pick 0 ([0] : List Nat).length = 0 := by decide
  simp only [nextR, h0, hr, hp, List.getElem?_cons_zero, Nat.zero_add, hq]
  rfl

set_option maxHeartbeats 8000000 in
set_option maxRecDepth 8000 in
theorem lt4 {P : V → Heap → Prop} (hP : ∀ h, P (.bool true) h) {W : List Int} {on : Int} (hW : W.length < 2 ^ 62) {hp : Heap} {l : Nat} {L : LS} {f : Nat → Option Nat} (hr : Rep hp l L f) (ho : only L)
    {R rest : List Tm} (hq : L.q 1 = R.map Tm.id) (hR : R.length < 2 ^ 39) (hlt : L.tm.length < 2 ^ 39) (hRd : ∀ t ∈ R, t.due ≤ on) (hrd : ∀ t ∈ rest, t.due > on)
    {vC : V} {oC : Option Nat} {C : Nat → Bool} (hs : SL hp 1 vC oC (marks W.length C)) (hap : Apart hp l f oC) (hJ : J W W.length C (R ++ rest))
    {env : List V} (he : env.length = 206) (g0 : eget env 0 = .arr (W.map cI)) (g2 : eget env 2 = .int .i64 on) (g7 : eget env 7 = .ptr l 0) (g12 : eget env 12 = vC) (g16 : eget env 16 = .int .i64 R.length) :
    WK (callW Φ) none (FinX [.tmp 6] P) [.o law27_LoopTimers.r28, .c (tl (tl (tl (tl (tl (tl (tl (tl (tl law27_LoopTimers.c.body)))))))))] { env := env, marks := [], heap := hp } := by
  simp only [tl, snd, law27_LoopTimers.c]
  simp [law27_LoopTimers.r28, law27_LoopTimers.r29, g0, he, okV, fV_eq]
  refine kLoop (fun m s => ∃ i : Nat, m = R.length - i ∧ i ≤ R.length ∧ s.env.length = 206 ∧ eget s.env 0 = .arr (W.map cI) ∧ eget s.env 2 = .int .i64 on ∧ eget s.env 7 = .ptr l 0 ∧ eget s.env 12 = vC ∧ eget s.env 16 = .int .i64 R.length ∧ eget s.env 20 = .int .i64 i ∧ s.marks = [] ∧
      ∃ L f C last at_, Rep s.heap l L f ∧ only L ∧ L.q 1 = (R.drop i).map Tm.id ∧ L.tm.length < 2 ^ 39 ∧ SL s.heap 1 vC oC (marks W.length C) ∧ Apart s.heap l f oC ∧ J W W.length C (R.drop i ++ rest) ∧
        eget s.env 18 = .int .i64 last ∧ eget s.env 19 = .int .i64 at_ ∧ ∀ x ∈ R.drop i ++ rest, last < x.due ∨ (last = x.due ∧ at_ < x.id)) R.length ⟨0, by
      simp [g0, g2, g7, g12, g16, he]
      refine ⟨L, f, hr, ho, hq, hlt, C, hs, hap, hJ, fun x hx => .inl ?_⟩
      obtain ⟨k, _, _, rfl⟩ := hJ.mem x (by simpa using hx)
      simp only [tk]; omega⟩ ?_
  rintro m ⟨e, mk, hp⟩ ⟨i, rfl, hi, he, k0, k2, k7, k12, k16, k20, hm, L, f, C, last, at_, hr, ho, hq, hlt, hs, hap, hJ, k18, k19, hla⟩
  simp only at he k0 k2 k7 k12 k16 k20 hm hr hs hap k18 k19
  obtain rfl := hm
  have htot : tot L < 2 ^ 40 := by
    rw [only_tot ho, hq]
    simp
    omega
  by_cases hlti : i < R.length
  · obtain ⟨t, ht⟩ : ∃ t, R[i]? = some t := ⟨_, List.getElem?_eq_getElem hlti⟩
    have hdr : R.drop i = t :: R.drop (i + 1) := by
      obtain ⟨h1, h2⟩ := List.getElem?_eq_some_iff.1 ht
      rw [← h2]
      exact List.drop_eq_getElem_cons h1
    rw [hdr] at hJ hq hla
    obtain ⟨k, hk, hkc, rfl, hJ'⟩ := J.out (a := []) hJ
    simp only [List.nil_append] at hJ'
    have hn := only_next ho (x := k) (xs := (R.drop (i + 1)).map Tm.id) (by rw [hq]; rfl)
    obtain ⟨h1, f1, hc, hr1, hfr⟩ := next_spec hr htot 0
    rw [hn] at hc hr1
    simp only [cN] at hc
    obtain ⟨h2, hh2⟩ : ∃ h2, h2 = h1 ++ [Ob.cells [.int .u8 2, .int .i64 0, .int .i64 k]] := ⟨_, rfl⟩
    have hst : evStoreV (h1 ++ [Ob.cells [.int .u8 0, .int .i64 0, .int .i64 0]]) 3 (.ptr h1.length 0) (.agg [.int .u8 2, .int .i64 0, .int .i64 k]) = some (V.non, h2) := by
      rw [hh2]
      simp [evStoreV, evStore, V.cells, V.isCell, setRange]
    have hct : ∀ off, cellsAt h2 (.ptr h1.length off) = some (([.int .u8 2, .int .i64 0, .int .i64 k] : List V).drop off) := fun off => by
      rw [hh2]; simp [cellsAt]
    have hr2 : Rep h2 l (upq L 1 ((R.drop (i + 1)).map Tm.id)) f1 := by
      obtain ⟨w, hw⟩ := hr1
      rw [hh2]
      exact ⟨w, hw.ext _⟩
    have hfr2 : Fr hp h2 l f f1 := by
      rw [hh2]
      exact hfr.trans (Fr.ext _ _ _ _)
    have hs2 := hfr2.keep hap hs
    have hap2 := hfr2.apart hap
    obtain ⟨id1, ep1, k1, ha1, _, hcl⟩ := hs2.at (i := k) (marks_get hk)
    have hcd := hcl 0
    rw [hkc] at hcd
    simp only [List.drop_zero] at hcd
    obtain ⟨p, h3, hia3, hst3, hs3, hl3, hsame3⟩ := hs2.set1 (i := k) (by rw [marks_len]; exact hk) (x := .bool true) rfl rfl rfl
    rw [ha1] at hia3
    cases hia3
    rw [marks_set hk] at hs3
    have hr3 := hap2.rep hr2 hsame3
    have hap3 : Apart h3 l f1 oC := fun id hid => ⟨by rw [hl3]; exact (hap2 id hid).1, (hap2 id hid).2⟩
    obtain ⟨w, hw⟩ : ∃ w, W[k]? = some w := ⟨_, List.getElem?_eq_getElem hk⟩
    have hwd : W.getD k 0 = w := by simp [List.getD_eq_getElem?_getD, hw]
    have haW := arr_at (h := h2) (sz := 1) (k := .i64) (xs := W.map cI) (i := k) (e := cI w) (by rw [List.getElem?_map, hw]; rfl) rfl
    simp only [cI] at haW
    have hm0 := max_int .i64 w 0
    have hdue : (tk W k).due = max w 0 := by simp only [tk, hwd]
    have hon := hRd _ (List.mem_of_getElem? ht)
    rw [hdue] at hon
    have hla1 := hla (tk W k) (by simp)
    rw [hdue] at hla1
    have hid : (tk W k).id = (k : Int) := rfl
    rw [hid] at hla1
    have hi1 : (i : Int) < (R.length : Int) := by omega
    have hw1 : IntKind.i64.wrap ((i : Int) + 1) = ((i + 1 : Nat) : Int) := by rw [Ev.wrap64] <;> omega
    have hlnW : evLen h2 .l (.arr (W.map cI)) = some (.int .i64 W.length, h2) := by simp [evLen, lenV, fNat_eq]
    have c1 : ¬ ((k : Int) < 0) := by omega
    have c2 : ¬ ((k : Int) ≥ (W.length : Int)) := by omega
    have c2' : ¬ (W.length ≤ k) := by omega
    have c3 : ¬ (max w 0 > on) := by omega
    have hlater : ∀ x ∈ R.drop (i + 1) ++ rest, max w 0 < x.due ∨ (max w 0 = x.due ∧ (k : Int) < x.id) := by
      intro x hx
      obtain ⟨j, _, _, hxj⟩ := hJ'.mem x hx
      have := (List.pairwise_cons.1 hJ.srt).1 x (by simpa using hx)
      rcases this with q | ⟨q1, q2⟩
      · rw [hdue] at q; exact .inl q
      · rw [hdue] at q1
        refine .inr ⟨q1, ?_⟩
        rw [hxj] at q2 ⊢
        simp only [tk] at q2 ⊢
        omega
    have hct' : ∀ off, cellsAt h3 (.ptr h1.length off) = some (([.int .u8 2, .int .i64 0, .int .i64 k] : List V).drop off) := fun off => by
      have hno : oC ≠ some h1.length := fun e => by
        have := (hap _ e).1
        have := hfr.len
        omega
      have := hct off
      simp only [cellsAt, hsame3 _ hno] at this ⊢
      exact this
    have honly : only (upq L 1 ((R.drop (i + 1)).map Tm.id)) := by
      intro j hj
      simp only [upq, if_neg hj]
      exact ho j hj
    have hw1' : IntKind.i64.wrap ((i : Int) + 1) = (i : Int) + 1 := by rw [Ev.wrap64] <;> omega
    rcases hla1 with hlt1 | ⟨heq1, hat1⟩
    · have d1 : ¬ (max w 0 < last) := by omega
      have d2 : ¬ (max w 0 = last) := by omega
      have d2b : (max w 0 == last) = false := by simpa using d2
      simp [law27_LoopTimers.b40, law27_LoopTimers.r30, law27_LoopTimers.r31, law27_LoopTimers.r32, law27_LoopTimers.r34, law27_LoopTimers.r35, law27_LoopTimers.r37, k0, k2, k7, k12, k16, k18, k19, k20, he, okV, fV_eq, hi1, hlti, hc, hst, hct, faddrV, evPick, hlnW, c1, c2, c2', ha1, hcd, haW, hm0, c3, d1, d2, d2b, hst3]
      refine kDraw1 law27_LoopTimers.r38.ord ?_
      simp [law27_LoopTimers.r38, law27_LoopTimers.r39, List.filterMap_cons, k0, k2, k7, k12, k16, k20, he, okV, fV_eq, hct', faddrV, hw1']
      exact ⟨R.length - (i + 1), by omega, i + 1, rfl, by omega, by omega, _, f1, hr3, honly, by simp [upq], hlt, _, hs3, hap3, hJ', fun x hx => hlater x (by simpa using hx)⟩
    · have d1 : ¬ (max w 0 < last) := by omega
      have d2b : (max w 0 == last) = true := by simp; omega
      have d3 : ¬ ((k : Int) < at_) := by omega
      simp [law27_LoopTimers.b40, law27_LoopTimers.r30, law27_LoopTimers.r31, law27_LoopTimers.r32, law27_LoopTimers.r34, law27_LoopTimers.r35, law27_LoopTimers.r37, k0, k2, k7, k12, k16, k18, k19, k20, he, okV, fV_eq, hi1, hlti, hc, hst, hct, faddrV, evPick, hlnW, c1, c2, c2', ha1, hcd, haW, hm0, c3, d1, d2b, d3, hst3]
      refine kDraw1 law27_LoopTimers.r38.ord ?_
      simp [law27_LoopTimers.r38, law27_LoopTimers.r39, List.filterMap_cons, k0, k2, k7, k12, k16, k20, he, okV, fV_eq, hct', faddrV, hw1']
      exact ⟨R.length - (i + 1), by omega, i + 1, rfl, by omega, by omega, _, f1, hr3, honly, by simp [upq], hlt, _, hs3, hap3, hJ', fun x hx => hlater x (by simpa using hx)⟩
  · have hi' : i = R.length := by omega
    subst hi'
    rw [List.drop_length] at hJ hq
    have hidle : idle L := fun j => by
      by_cases e : j = 1
      · subst e; rw [hq]; rfl
      · exact ho j e
    simp [law27_LoopTimers.b40, law27_LoopTimers.r30, k16, k20, he, okV, fV_eq]
    refine lt5 (on := on) hP hW hr htot hidle hs (fun k hk hc => ?_) ?_ ?_ ?_ ?_ ?_
    · have := hrd _ (hJ.all k hk hc)
      exact this
    all_goals simp [he, k0, k2, k7, k12]
end Go.Proofs.Lp
