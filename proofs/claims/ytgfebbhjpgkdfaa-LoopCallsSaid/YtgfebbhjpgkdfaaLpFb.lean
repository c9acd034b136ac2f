/- The program's loop: Fork, walked. No conditions. -/
import Derived.Test.YtgfebbhjpgkdfaaLpFa
import Derived.Test.YtgfebbhjpgkdfaaLpOc
namespace Go.Proofs.Lp
open Go Go.Ev
set_option linter.unusedVariables false
set_option linter.unusedSimpArgs false

/-- Its end: the numbers given, and Close. -/
def FkP (h : Heap) (L : LS) (r : V) (h' : Heap) : Prop := ∃ m g, r = .ptr m 0 ∧ h.length ≤ m ∧ Rep h' m L g ∧ (∀ j, j < h.length → h'[j]? = h[j]?) ∧ ∀ j, own m g j → h.length ≤ j

set_option maxHeartbeats 8000000 in
set_option maxRecDepth 8000 in
theorem fork3 {P : V → Heap → Prop} {h : Heap} {l : Nat} {L : LS} {f : Nat → Option Nat} (hP : ∀ r h', FkP h L r h' → P r h') (hr : Rep h l L f) (hsh : L.closed = true → L.tm = [] ∧ idle L)
    {hp : Heap} {m : Nat} {fm : Nat → Option Nat} (hm : Rep hp m (forkL L 8) fm) (hk : ∀ j, j < h.length → hp[j]? = h[j]?) (ho : ∀ j, own m fm j → h.length ≤ j)
    {env : List V} (he : env.length = 52) (g0 : eget env 0 = .ptr l 0) (g3 : eget env 3 = .ptr m 0) :
    WK (callW Φ) none (FinX [.tmp 2] P) [.c (fst (snd (snd (snd (snd loop_Loop_Fork.c.body))))), .c (snd (snd (snd (snd (snd loop_Loop_Fork.c.body)))))] { env := env, marks := [], heap := hp } := by
  obtain ⟨vm, hm⟩ := hm
  have hrp : Rep hp l L f := hr.mono fun j hj => hk j (hr.lt hj)
  obtain ⟨v, hl, _, _⟩ := hrp
  have hld := ld_spec (off := 11) (m := L.given) hl rfl
  have hst := st_spec (off := 11) (m := 0) hm.1 rfl L.given
  have hlm : h.length ≤ m := ho m (.inl rfl)
  have hne : m ≠ l := fun e => by have := hr.lt (j := l) (.inl rfl); omega
  obtain ⟨L2, hL2⟩ : ∃ L2 : LS, L2 = { forkL L 8 with given := L.given } := ⟨_, rfl⟩
  obtain ⟨r2, f2⟩ := hm.scal (L' := L2) (fun k hk => by rw [hL2]; rfl)
  have hcs : (cellsL vm (forkL L 8)).set 11 (.int .i64 L.given) = cellsL vm L2 := by rw [hL2]; rfl
  rw [hcs] at hst
  obtain ⟨H, hH⟩ : ∃ H, H = hp.set m (.cells (cellsL vm L2)) := ⟨_, rfl⟩
  rw [← hH] at hst r2 f2
  have hkH : ∀ j, j < h.length → H[j]? = h[j]? := fun j hj => by rw [hH, List.getElem?_set_ne (by omega)]; exact hk j hj
  have hcl : cellsAt H (.ptr l 15) = some [.bool L.closed] := by
    have : H[l]? = hp[l]? := by rw [hH, List.getElem?_set_ne hne]
    simp [cellsAt, this, hl, cellsL]
  have rep2 : Rep H m L2 fm := ⟨_, r2⟩
  simp only [fst, snd, loop_Loop_Fork.c]
  refine kDraw1 loop_Loop_Fork.r10.ord ?_
  cases hc : L.closed with
  | false =>
    rw [hc] at hcl
    have rep3 : Rep H m L fm := rep2.congr (fun k hk => (by have h8 : k ≤ 8 := (by omega); rw [hL2]; simp [forkL, h8])) (by rw [hL2]; rfl) (by rw [hL2]; rfl) (by rw [hL2]) (by rw [hL2, hc]; rfl)
    simp [loop_Loop_Fork.r10, loop_Loop_Fork.r11, loop_Loop_Fork.r13, List.filterMap_cons, g0, g3, he, okV, fV_eq, evNilchk, faddrV, hld, hst, hcl, ofCells]
    exact hP _ _ ⟨m, fm, rfl, hlm, rep3, hkH, ho⟩
  | true =>
    rw [hc] at hcl
    obtain ⟨h3, f3, c3, r3, fr3⟩ := close_spec rep2
    have e2 : L2.closed = false := by rw [hL2]; rfl
    rw [e2] at c3
    obtain ⟨t1, t2⟩ := hsh hc
    have rep3 : Rep h3 m L f3 := r3.congr (fun k hk => by rw [t2 k]; simp [closeL, e2]) (by rw [t1]; simp [closeL, e2]) (by simp [closeL, e2]; rw [hL2]; rfl) (by simp [closeL, e2]; rw [hL2]) (by simp [closeL, e2, hc])
    simp [loop_Loop_Fork.r10, loop_Loop_Fork.r11, loop_Loop_Fork.r12, loop_Loop_Fork.r13, List.filterMap_cons, g0, g3, he, okV, fV_eq, evNilchk, faddrV, hld, hst, hcl, ofCells, c3]
    refine hP _ _ ⟨m, f3, rfl, hlm, rep3, fun j hj => ?_, fun j hj => ?_⟩
    · rw [fr3.rest j (by have := f2.len; have := hm.1; have := (List.getElem?_eq_some_iff.1 r2.1).1; omega) (fun hh => by have := ho j hh; omega)]
      exact hkH j hj
    · rcases fr3.new j hj with q | q
      · exact ho j q
      · have := (List.getElem?_eq_some_iff.1 r2.1).1
        omega
end Go.Proofs.Lp
