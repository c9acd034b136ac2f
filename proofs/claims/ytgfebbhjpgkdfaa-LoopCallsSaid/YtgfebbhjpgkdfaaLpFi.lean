/- LoopCalls. No conditions. -/
import Derived.Test.YtgfebbhjpgkdfaaLpFh
namespace Go.Proofs.Lp
open Go Go.Ev
set_option linter.unusedVariables false
set_option linter.unusedSimpArgs false

set_option maxHeartbeats 8000000 in
set_option maxRecDepth 8000 in
theorem calls1 {P : V → Heap → Prop} (hP : ∀ h, P (.bool true) h) {S M : List Step} (hS : S.length < 2 ^ 61) (hM : M.length < 2 ^ 61) {hp : Heap} {a b : Nat} {L : LS} {fa fb : Nat → Option Nat}
    (ha : Rep hp a L fa) (hb : Rep hp b L fb) (hd : Dis a fa b fb) (hok : Ok 0 L)
    {env : List V} (he : env.length = 140) (g0 : eget env 0 = .arr (S.map cS)) (g1 : eget env 1 = .arr (M.map cS)) (g5 : eget env 5 = .ptr a 0) (g6 : eget env 6 = .ptr b 0) :
    WK (callW Φ) none (FinX [.tmp 4] P) [.o law27_LoopCalls.r4, .c (snd (fst (snd (snd (snd law27_LoopCalls.c.body))))), .c (snd (snd (snd (snd law27_LoopCalls.c.body))))] { env := env, marks := [], heap := hp } := by
  have hln : ∀ h, evLen h .l (.arr (S.map cS)) = some (.int .i64 S.length, h) := fun h => by simp [evLen, lenV, fNat_eq]
  have rest : ∀ (e : List V) (H : Heap) (L : LS) (fa fb : Nat → Option Nat), Rep H a L fa → Rep H b L fb → Dis a fa b fb → Ok S.length L → e.length = 140 → eget e 1 = .arr (M.map cS) → eget e 5 = .ptr a 0 → eget e 6 = .ptr b 0 →
      WK (callW Φ) none (FinX [.tmp 4] P) [.o law27_LoopCalls.r13, .c (snd (snd (snd (snd (snd law27_LoopCalls.c.body)))))] { env := e, marks := [], heap := H } :=
    fun e H L fa fb h1 h2 h3 h4 h5 h6 h7 h8 => calls1b hP hM hS h1 h2 h3 h4 h5 h6 h7 h8
  simp only [snd, fst, law27_LoopCalls.c] at rest ⊢
  simp [law27_LoopCalls.r4, g0, he, okV, fV_eq, hln]
  refine kLoop (fun m s => ∃ i : Nat, m = S.length - i ∧ i ≤ S.length ∧ s.env.length = 140 ∧ eget s.env 1 = .arr (M.map cS) ∧ eget s.env 5 = .ptr a 0 ∧ eget s.env 6 = .ptr b 0 ∧ eget s.env 35 = .arr (S.map cS) ∧ eget s.env 36 = .int .i64 S.length ∧ eget s.env 37 = .int .i64 i ∧ s.marks = [] ∧
      ∃ L fa fb, Rep s.heap a L fa ∧ Rep s.heap b L fb ∧ Dis a fa b fb ∧ Ok i L) S.length ⟨0, by
      simp [g1, g5, g6, he]
      exact ⟨L, fa, ha, fb, hb, hd, hok⟩⟩ ?_
  clear ha hb hd hok he g0 g1 g5 g6
  rintro m ⟨e, mk, hq⟩ ⟨i, rfl, hi, he, k1, k5, k6, k35, k36, k37, hm, L, fa, fb, ha, hb, hd, hok⟩
  simp only at he k1 k5 k6 k35 k36 k37 hm ha hb
  obtain rfl := hm
  by_cases hlt : i < S.length
  · obtain ⟨x, hx⟩ : ∃ x, S[i]? = some x := ⟨_, List.getElem?_eq_getElem hlt⟩
    have hax := arr_at (h := hq) (sz := 6) (k := .i64) (xs := S.map cS) (i := i) (e := cS x) (by rw [List.getElem?_map, hx]; rfl) rfl
    have hi1 : (i : Int) < (S.length : Int) := by omega
    have hw1 : IntKind.i64.wrap ((i : Int) + 1) = ((i + 1 : Nat) : Int) := by rw [Ev.wrap64] <;> omega
    have q1 := hok.tot
    have q2 := hok.gn
    obtain ⟨H1, H2, H3, H4, H5, fa', fb', s1, x1, c2, s3, x3, c4, s5, y2, y4, ra, rb, dd, len, keep, na, nb⟩ := pair ha hb hd (by omega) hok.g0 (by omega) hok.c0 hok.cm x (F := law27_call) (fun h f hr => by_call hr (by omega) hok.g0 (by omega) hok.c0 hok.cm x)
    have eqt := eq_turn H5 (doA L x).1.2.1
    have ok' := hok.step x
    simp only [cS, cN] at hax s1 x1 c2 s3 x3 c4 s5 y2 y4
    simp [law27_LoopCalls.b12, law27_LoopCalls.r5, law27_LoopCalls.r6, law27_LoopCalls.r7, law27_LoopCalls.r8, k5, k6, k35, k36, k37, he, okV, fV_eq, hi1, hlt, hax, s1, x1, c2, s3, x3, c4, s5, evExt, ofCells]
    simp (config := { maxSteps := 5000000 }) [law27_LoopCalls.r9, law27_LoopCalls.r11, k1, k5, k6, k35, k36, k37, he, okV, fV_eq, y2, y4, eqt, evPick, ofCells]
    exact ⟨S.length - (i + 1), by omega, i + 1, rfl, by omega, by simpa using hw1, _, fa', ra, fb', rb, dd, by simpa using ok'⟩
  · have hi' : i = S.length := by omega
    subst hi'
    simp [law27_LoopCalls.b12, law27_LoopCalls.r5, k36, k37, he, okV, fV_eq]
    refine rest _ hq L fa fb ha hb hd hok ?_ ?_ ?_ ?_
    all_goals simp [he, k1, k5, k6]

set_option maxHeartbeats 8000000 in
set_option maxRecDepth 8000 in
theorem calls_spec (S M : List Step) (hS : S.length < 2 ^ 61) (hM : M.length < 2 ^ 61) (h : Heap) : callW Φ law27_LoopCalls [.arr (S.map cS), .arr (M.map cS)] h = some (.bool true, h) := by
  obtain ⟨P, hPd⟩ : ∃ P : V → Heap → Prop, P = fun r h' => r = .bool true := ⟨_, rfl⟩
  have hP : ∀ h, P (.bool true) h := fun h => by rw [hPd]
  have hflat : ∀ S : List Step, flatN2 (.arr (S.map cS)) = true := fun S => by simp [flatN2, flatN, scalN, scal, cS]
  suffices hgo : ∃ r h', evBodyW (callW Φ) law27_LoopCalls.c [.arr (S.map cS), .arr (M.map cS)] [] = some (r, h') ∧ P r h' by
    obtain ⟨r, h', h1, h2⟩ := hgo
    rw [hPd] at h2
    subst h2
    exact callW_flat (args := [.arr (S.map cS), .arr (M.map cS)]) law27_LoopCalls.Φ rfl (by simp only [List.all_cons, List.all_nil, hflat, Bool.and_true]) h1 rfl
  refine body_x (Nat.le_of_ble_eq_true rfl) (fun env he g => ?_)
  have g0 := g 0 (by simp)
  have g1 := g 1 (by simp)
  change eget env 0 = .arr (S.map cS) at g0
  change eget env 1 = .arr (M.map cS) at g1
  clear g
  simp [law27_LoopCalls.c] at he
  have hlv := lives_spec
  obtain ⟨f0, c0, r0, n0⟩ := new_spec []
  obtain ⟨H0, hH0⟩ : ∃ H0 : Heap, H0 = [] ++ [Ob.cells (cellsL (fun _ => V.nils) LS.new)] := ⟨_, rfl⟩
  rw [← hH0] at c0 r0
  have l0 : H0.length = 1 := by rw [hH0]; rfl
  obtain ⟨f1, c1, r1, n1⟩ := new_spec H0
  obtain ⟨H1, hH1⟩ : ∃ H1 : Heap, H1 = H0 ++ [Ob.cells (cellsL (fun _ => V.nils) LS.new)] := ⟨_, rfl⟩
  have r0' := r0.ext [Ob.cells (cellsL (fun _ => V.nils) LS.new)]
  rw [← hH1] at c1 r1 r0'
  have dd : Dis 0 f0 H0.length f1 := fun j h1 h2 => by have := r0.lt h1; have := n1 j h2; omega
  simp only [List.length_nil] at c0 r0 r0'
  simp [law27_LoopCalls.c, law27_LoopCalls.r0, law27_LoopCalls.r1, law27_LoopCalls.r3, g0, g1, he, okV, fV_eq, hlv, c0, c1]
  refine calls1 hP hS hM r0' r1 dd Ok.new ?_ ?_ ?_ ?_ ?_
  all_goals simp [he, g0, g1]
end Go.Proofs.Lp
