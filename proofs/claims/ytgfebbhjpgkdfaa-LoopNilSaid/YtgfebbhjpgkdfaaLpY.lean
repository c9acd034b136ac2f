/- The walk of LoopNil: the steps. No conditions. -/
import Derived.Test.YtgfebbhjpgkdfaaLpX
namespace Go.Proofs.Lp
open Go Go.Ev
set_option linter.unusedVariables false
set_option linter.unusedSimpArgs false

set_option maxHeartbeats 8000000 in
set_option maxRecDepth 8000 in
theorem nil2 {P : V → Heap → Prop} (hP : ∀ h, P (.bool true) h) {S : List Step} (hS : S.length < 2 ^ 62) {hp : Heap}
    {env : List V} (he : env.length = 201) (g0 : eget env 0 = .arr (S.map cS)) :
    WK (callW Φ) none (FinX [.tmp 4] P) [.o law27_LoopNil.r11, .c (snd (snd (snd (snd (snd (snd (snd (snd (snd (snd law27_LoopNil.c.body))))))))))] { env := env, marks := [], heap := hp } := by
  obtain ⟨f0, hc0, hr0, _⟩ := new_spec hp
  obtain ⟨H0, hH0⟩ : ∃ H0 : Heap, H0 = hp ++ [Ob.cells (cellsL (fun _ => V.nils) LS.new)] := ⟨_, rfl⟩
  rw [← hH0] at hc0 hr0
  have hln : ∀ h, evLen h .l (.arr (S.map cS)) = some (.int .i64 S.length, h) := fun h => by simp [evLen, lenV, fNat_eq]
  simp only [snd, law27_LoopNil.c]
  simp [law27_LoopNil.r11, law27_LoopNil.r12, g0, he, okV, fV_eq, hc0, hln]
  refine kLoop (fun m s => ∃ i : Nat, m = S.length - i ∧ i ≤ S.length ∧ s.env.length = 201 ∧ eget s.env 18 = .ptr hp.length 0 ∧ eget s.env 130 = .arr (S.map cS) ∧ eget s.env 131 = .int .i64 S.length ∧ eget s.env 132 = .int .i64 i ∧ s.marks = [] ∧
      ∃ L f, Rep s.heap hp.length L f ∧ Ok i L) S.length ⟨0, by
      simp [g0, he]
      exact ⟨LS.new, ⟨f0, hr0⟩, Ok.new⟩⟩ ?_
  rintro m ⟨e, mk, hq⟩ ⟨i, rfl, hi, he, k18, k130, k131, k132, hm, L, f, hr, hok⟩
  simp only at he k18 k130 k131 k132 hm hr
  obtain rfl := hm
  by_cases hlt : i < S.length
  · obtain ⟨x, hx⟩ : ∃ x, S[i]? = some x := ⟨_, List.getElem?_eq_getElem hlt⟩
    have ha := arr_at (h := hq) (sz := 6) (k := .i64) (xs := S.map cS) (i := i) (e := cS x) (by rw [List.getElem?_map, hx]; rfl) rfl
    have hi1 : (i : Int) < (S.length : Int) := by omega
    have hw1 : IntKind.i64.wrap ((i : Int) + 1) = (i : Int) + 1 := by rw [Ev.wrap64] <;> omega
    have hst : evStoreV (hq ++ [Ob.cells [.int .u8 0, .int .i64 0, .int .i64 0, .int .i64 0, .int .i64 0, .int .i64 0]]) 6 (.ptr hq.length 0) (.agg (cS x)) = some (V.non, hq ++ [Ob.cells (cS x)]) := by
      simp [evStoreV, evStore, V.cells, V.isCell, setRange, cS]
    have hld : cellsAt (hq ++ [Ob.cells (cS x)]) (.ptr hq.length 0) = some (cS x) := by simp [cellsAt]
    have hr1 : Rep (hq ++ [Ob.cells (cS x)]) hp.length L f := by
      obtain ⟨w, hw⟩ := hr
      exact ⟨w, hw.ext _⟩
    have h1 := hok.tot
    have h2 := hok.gn
    obtain ⟨h2', f2, hc, hr2, _⟩ := do_all hr1 (by omega) hok.g0 (by omega) hok.c0 hok.cm x
    simp only [cS] at ha hst hld hc
    simp [law27_LoopNil.b17, law27_LoopNil.r13, law27_LoopNil.r14, law27_LoopNil.r15, law27_LoopNil.r16, k18, k130, k131, k132, he, okV, fV_eq, hi1, ha, hst, hld, hc, hw1, ofCells]
    exact ⟨S.length - (i + 1), by omega, i + 1, rfl, by omega, by omega, _, ⟨f2, hr2⟩, hok.step x⟩
  · have hi' : i = S.length := by omega
    subst hi'
    simp [law27_LoopNil.b17, law27_LoopNil.r13, k131, k132, he, okV, fV_eq]
    refine nil3 hP hr hok (by omega) ?_ ?_
    all_goals simp [he, k18]
end Go.Proofs.Lp
