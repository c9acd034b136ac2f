/- LoopCalls: its second half. No conditions. -/
import Derived.Test.YtgfebbhjpgkdfaaLpFf
namespace Go.Proofs.Lp
open Go Go.Ev
set_option linter.unusedVariables false
set_option linter.unusedSimpArgs false

/-- What stays of a loop that is not touched. -/
structure Still (H : Heap) (a : Nat) (L : LS) (fa : Nat → Option Nat) (b : Nat) (fb : Nat → Option Nat) (c : Nat) (fc : Nat → Option Nat) : Prop where
  rep : Rep H a L fa
  db : Dis a fa b fb
  dc : Dis a fa c fc

set_option maxHeartbeats 8000000 in
set_option maxRecDepth 8000 in
theorem calls3 {P : V → Heap → Prop} (hP : ∀ h, P (.bool true) h) {hp : Heap} {a : Nat} {L : LS} {fa : Nat → Option Nat} (hs : Rep hp a L fa) {A B C : Int}
    {env : List V} (he : env.length = 140) (k5 : eget env 5 = .ptr a 0) (k16 : eget env 16 = .int .i64 L.clock) (k17 : eget env 17 = .int .i64 A) (k18 : eget env 18 = .int .i64 B) (k19 : eget env 19 = .int .i64 C)
    (k28 : eget env 28 = .int .i64 A) (k29 : eget env 29 = .int .i64 B) (k30 : eget env 30 = .int .i64 C) :
    WK (callW Φ) none (FinX [.tmp 4] P) [.o law27_LoopCalls.r28, .c .ret] { env := env, marks := [], heap := hp } := by
  have nw := now_spec hs
  obtain ⟨K, hK⟩ : ∃ K, K = L.clock := ⟨_, rfl⟩
  rw [← hK] at nw k16
  simp [law27_LoopCalls.r28, k5, k16, k17, k18, k19, k28, k29, k30, he, okV, fV_eq, nw, evPick, hP]

set_option maxHeartbeats 8000000 in
set_option maxRecDepth 8000 in
theorem calls2 {P : V → Heap → Prop} (hP : ∀ h, P (.bool true) h) {S : List Step} (hS : S.length < 2 ^ 61) {n : Nat} (hn : n < 2 ^ 61) {hp : Heap} {a b c : Nat} {L0 L : LS} {fa fb fc : Nat → Option Nat} (ht0 : tot L0 < 2 ^ 40)
    (hc : Rep hp c L fc) (hb : Rep hp b L fb) (hd : Dis c fc b fb) (hs : Still hp a L0 fa b fb c fc) (hok : Ok n L)
    {env : List V} (he : env.length = 140) (g1 : eget env 1 = .arr (S.map cS)) (g5 : eget env 5 = .ptr a 0) (g6 : eget env 6 = .ptr b 0) (g15 : eget env 15 = .ptr c 0) (g16 : eget env 16 = .int .i64 L0.clock)
    (g17 : eget env 17 = .int .i64 (sumq L0 8 : Nat)) (g18 : eget env 18 = .int .i64 (L0.q 0).length) (g19 : eget env 19 = .int .i64 L0.tm.length) :
    WK (callW Φ) none (FinX [.tmp 4] P) [.o law27_LoopCalls.r18, .c (snd (fst (snd (snd (snd (snd (snd (snd (snd (snd law27_LoopCalls.c.body)))))))))), .c (snd (snd (snd (snd (snd (snd (snd (snd (snd law27_LoopCalls.c.body)))))))))] { env := env, marks := [], heap := hp } := by
  have hln : ∀ h, evLen h .l (.arr (S.map cS)) = some (.int .i64 S.length, h) := fun h => by simp [evLen, lenV, fNat_eq]
  simp only [snd, fst, law27_LoopCalls.c]
  simp [law27_LoopCalls.r18, g1, he, okV, fV_eq, hln]
  refine kLoop (fun m s => ∃ i : Nat, m = S.length - i ∧ i ≤ S.length ∧ s.env.length = 140 ∧ eget s.env 5 = .ptr a 0 ∧ eget s.env 6 = .ptr b 0 ∧ eget s.env 15 = .ptr c 0 ∧ eget s.env 16 = .int .i64 L0.clock ∧
      eget s.env 17 = .int .i64 (sumq L0 8 : Nat) ∧ eget s.env 18 = .int .i64 (L0.q 0).length ∧ eget s.env 19 = .int .i64 L0.tm.length ∧ eget s.env 81 = .arr (S.map cS) ∧ eget s.env 82 = .int .i64 S.length ∧ eget s.env 83 = .int .i64 i ∧ s.marks = [] ∧
      ∃ L fb fc, Rep s.heap c L fc ∧ Rep s.heap b L fb ∧ Dis c fc b fb ∧ Still s.heap a L0 fa b fb c fc ∧ Ok (n + i : Nat) L) S.length ⟨0, by
      simp [g5, g6, g15, g16, g17, g18, g19, he]
      exact ⟨L, fb, fc, hc, hb, hd, hs, by simpa using hok⟩⟩ ?_
  clear hc hb hd hs hok he g1 g5 g6 g15 g16 g17 g18 g19
  rintro m ⟨e, mk, hq⟩ ⟨i, rfl, hi, he, k5, k6, k15, k16, k17, k18, k19, k81, k82, k83, hm, L, fb, fc, hc, hb, hd, hs, hok⟩
  simp only at he k5 k6 k15 k16 k17 k18 k19 k81 k82 k83 hm hc hb hs
  obtain rfl := hm
  by_cases hlt : i < S.length
  · obtain ⟨x, hx⟩ : ∃ x, S[i]? = some x := ⟨_, List.getElem?_eq_getElem hlt⟩
    have ha := arr_at (h := hq) (sz := 6) (k := .i64) (xs := S.map cS) (i := i) (e := cS x) (by rw [List.getElem?_map, hx]; rfl) rfl
    have hi1 : (i : Int) < (S.length : Int) := by omega
    have hw1 : IntKind.i64.wrap ((i : Int) + 1) = ((i + 1 : Nat) : Int) := by rw [Ev.wrap64] <;> omega
    have q1 := hok.tot
    have q2 := hok.gn
    obtain ⟨H1, H2, H3, H4, H5, fc', fb', s1, x1, c2, s3, x3, c4, s5, y2, y4, rc, rb, dd, len, keep, nc, nb⟩ := pair hc hb hd (by omega) hok.g0 (by omega) hok.c0 hok.cm x (F := loop_Loop_Do) (fun h f hr => do_all hr (by omega) hok.g0 (by omega) hok.c0 hok.cm x)
    have eqt := eq_turn H5 (doA L x).1.2.1
    have ok' := hok.step x
    have hs' : Still H5 a L0 fa b fb' c fc' := by
      refine ⟨hs.rep.mono fun j hj => keep j (hs.rep.lt hj) (hs.dc j hj) (hs.db j hj), fun j hj ho => ?_, fun j hj ho => ?_⟩
      · have := hs.rep.lt hj
        rcases nb j ho with q | q
        · exact hs.db j hj q
        · omega
      · have := hs.rep.lt hj
        rcases nc j ho with q | q
        · exact hs.dc j hj q
        · omega
    simp only [cS, cN] at ha s1 x1 c2 s3 x3 c4 s5 y2 y4
    simp [law27_LoopCalls.b26, law27_LoopCalls.r19, law27_LoopCalls.r20, law27_LoopCalls.r21, law27_LoopCalls.r22, k6, k15, k81, k82, k83, he, okV, fV_eq, hi1, hlt, ha, s1, x1, c2, s3, x3, c4, s5, evExt, ofCells]
    simp (config := { maxSteps := 5000000 }) [law27_LoopCalls.r23, law27_LoopCalls.r25, k5, k6, k15, k16, k17, k18, k19, k81, k82, k83, he, okV, fV_eq, y2, y4, eqt, evPick, ofCells]
    exact ⟨S.length - (i + 1), by omega, i + 1, rfl, by omega, by simpa using hw1, _, fb', fc', rc, rb, dd, hs', by simpa [Int.add_assoc] using ok'⟩
  · have hi' : i = S.length := by omega
    subst hi'
    have w := waiting_spec hs.rep ht0
    have nw := now_spec hs.rep
    simp [law27_LoopCalls.b26, law27_LoopCalls.r19, law27_LoopCalls.r27, k5, k82, k83, he, okV, fV_eq, w, evExt]
    refine calls3 hP hs.rep (A := ((sumq L0 8 : Nat) : Int)) (B := ((L0.q 0).length : Int)) (C := (L0.tm.length : Int)) ?_ ?_ ?_ ?_ ?_ ?_ ?_ ?_ ?_
    all_goals simp [he, k5, k16, k17, k18, k19]
end Go.Proofs.Lp
