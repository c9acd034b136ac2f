/- LoopOrder. No conditions. -/
import Derived.Test.YtgfebbhjpgkdfaaLpOf
namespace Go.Proofs.Lp
open Go Go.Ev
set_option linter.unusedVariables false
set_option linter.unusedSimpArgs false

set_option maxHeartbeats 16000000 in
set_option maxRecDepth 8000 in
theorem ord_loop {P : V → Heap → Prop} (hP : ∀ h, P (.bool true) h) {S : List Step} (hS : S.length < 2 ^ 62) {hp : Heap} {l : Nat} {L : LS} {f : Nat → Option Nat} (hr : Rep hp l L f) (hok : Ok 0 L) (hc : Calm L)
    {oT : Nat} {vs : Nat → V} {os : Nat → Option Nat} {vM : V} {oM : Option Nat} (w : Own hp l f oT vs os vM oM L.q)
    {env : List V} (he : env.length = 172) (g0 : eget env 0 = .arr (S.map cS)) (g3 : eget env 3 = .ptr l 0) (g4 : eget env 4 = vM) (g5 : eget env 5 = .sl oT 0 0 8) :
    WK (callW Φ) none (FinX [.tmp 2] P) [.o law27_LoopOrder.r6, .c (snd (fst (snd (snd (snd (snd (snd law27_LoopOrder.c.body))))))), .c (snd (snd (snd (snd (snd (snd law27_LoopOrder.c.body))))))] { env := env, marks := [], heap := hp } := by
  have hln : ∀ h, evLen h .l (.arr (S.map cS)) = some (.int .i64 S.length, h) := fun h => by simp [evLen, lenV, fNat_eq]
  simp only [snd, fst, law27_LoopOrder.c]
  simp [law27_LoopOrder.r6, g0, he, okV, fV_eq, hln]
  refine kLoop (fun m s => ∃ i : Nat, m = S.length - i ∧ i ≤ S.length ∧ s.env.length = 172 ∧ eget s.env 3 = .ptr l 0 ∧ eget s.env 5 = .sl oT 0 0 8 ∧ eget s.env 21 = .arr (S.map cS) ∧ eget s.env 22 = .int .i64 S.length ∧ eget s.env 23 = .int .i64 i ∧ s.marks = [] ∧
      ∃ L f vs os oM, Rep s.heap l L f ∧ Ok i L ∧ Calm L ∧ Own s.heap l f oT vs os (eget s.env 4) oM L.q) S.length ⟨0, by
      simp [g0, g3, g4, g5, he]
      exact ⟨L, f, hr, hok, hc, vs, os, oM, w⟩⟩ ?_
  clear hr hok hc w g0 g3 g4 g5 he
  rintro m ⟨e, mk, hq⟩ ⟨i, rfl, hi, he, k3, k5, k21, k22, k23, hm, L, f, vs, os, oM, hr, hok, hc, w⟩
  simp only at he k3 k5 k21 k22 k23 hm hr w
  obtain rfl := hm
  by_cases hlt : i < S.length
  · obtain ⟨x, hx⟩ : ∃ x, S[i]? = some x := ⟨_, List.getElem?_eq_getElem hlt⟩
    have ha : ∀ h, iaddrV h 6 (.arr (S.map cS)) (.int .i64 i) = some (.iptr (cS x)) := fun h => arr_at (h := h) (sz := 6) (k := .i64) (xs := S.map cS) (i := i) (e := cS x) (by rw [List.getElem?_map, hx]; rfl) rfl
    refine ord_round hlt hS ha hr hok hc w he k3 rfl k5 k21 k22 k23 ?_
    intro e' H L' f' vs' os' oM' a1 a2 a3 a4 a5 a6 a7 a8 a9 a10
    exact ⟨S.length - (i + 1), by omega, i + 1, rfl, by omega, a1, a2, a3, a4, a5, a6, rfl, L', f', vs', os', oM', a7, a8, a9, a10⟩
  · have hi' : i = S.length := by omega
    subst hi'
    simp [law27_LoopOrder.b36, law27_LoopOrder.r7, law27_LoopOrder.r37, k22, k23, he, okV, fV_eq, hP]

set_option maxHeartbeats 8000000 in
set_option maxRecDepth 8000 in
theorem ord_spec (S : List Step) (hS : S.length < 2 ^ 62) (h : Heap) : callW Φ law27_LoopOrder [.arr (S.map cS)] h = some (.bool true, h) := by
  obtain ⟨P, hPd⟩ : ∃ P : V → Heap → Prop, P = fun r h' => r = .bool true := ⟨_, rfl⟩
  have hP : ∀ h, P (.bool true) h := fun h => by rw [hPd]
  have hflat : flatN2 (.arr (S.map cS)) = true := by simp [flatN2, flatN, scalN, scal, cS]
  suffices hgo : ∃ r h', evBodyW (callW Φ) law27_LoopOrder.c [.arr (S.map cS)] [] = some (r, h') ∧ P r h' by
    obtain ⟨r, h', h1, h2⟩ := hgo
    rw [hPd] at h2
    subst h2
    exact callW_flat (args := [.arr (S.map cS)]) law27_LoopOrder.Φ rfl (by simp only [List.all_cons, List.all_nil, hflat, Bool.and_true]) h1 rfl
  refine body_x (Nat.le_of_ble_eq_true rfl) (fun env he g => ?_)
  have g0 := g 0 (by simp)
  change eget env 0 = .arr (S.map cS) at g0
  clear g
  simp [law27_LoopOrder.c] at he
  have hlv := lives_spec
  obtain ⟨f0, hc0, hr0, hn0⟩ := new_spec []
  obtain ⟨H0, hH0⟩ : ∃ H0 : Heap, H0 = [] ++ [Ob.cells (cellsL (fun _ => V.nils) LS.new)] := ⟨_, rfl⟩
  rw [← hH0] at hc0 hr0
  have hl0 : H0.length = 1 := by rw [hH0]; rfl
  obtain ⟨H1, hH1⟩ : ∃ H1 : Heap, H1 = H0 ++ [Ob.row 1 (rowV fun _ => .nils) 0 true] := ⟨_, rfl⟩
  have hmk : evMks H0 [.nils] 1 24 (.int .i64 8) (.int .i64 8) = some (.sl 1 0 0 8, H1) := by
    rw [hH1, ← hl0]
    simp [evMks, rowV, okV, fV_eq, fNat_eq, roomB, newOb]
    rfl
  have hr1 : Rep H1 0 LS.new f0 := by
    obtain ⟨v, hv⟩ := hr0
    rw [hH1]
    exact ⟨v, hv.ext _⟩
  have w : Own H1 0 f0 1 (fun _ => .nils) (fun _ => none) .nils none LS.new.q := by
    have nil : ∀ h, SL h 1 V.nils none [] := fun h => .inl ⟨rfl, rfl, rfl⟩
    refine ⟨?_, fun i hi => nil _, nil _, fun ho => ?_, fun i id hi h => (by cases h), fun id h => (by cases h), fun i hi h => (by cases h), fun h => (by cases h), fun i id hi h => (by cases h), fun i j id hi hj h => (by cases h)⟩
    · rw [hH1, List.getElem?_append_right (by omega), hl0]
      rfl
    · have := hr0.lt ho
      omega
  simp [law27_LoopOrder.c, law27_LoopOrder.r0, law27_LoopOrder.r1, law27_LoopOrder.r3, law27_LoopOrder.r4, law27_LoopOrder.r5, g0, he, okV, fV_eq, hlv, hc0, hmk]
  refine ord_loop hP hS hr1 Ok.new Calm.new w ?_ ?_ ?_ ?_ ?_
  all_goals simp [he, g0]
end Go.Proofs.Lp
