/- The program's loop: Fork, the sources, the front. No conditions. -/
import Derived.Test.YtgfebbhjpgkdfaaLpFb
namespace Go.Proofs.Lp
open Go Go.Ev
set_option linter.unusedVariables false
set_option linter.unusedSimpArgs false

theorem agg1_store {h : Heap} {p v r : V} {h' : Heap} (hv : v.cells = [v]) (hs : evStoreV h 1 p v = some (r, h')) : evStoreV h 1 p (.agg [v]) = some (r, h') := by
  rw [← hs]
  simp only [evStoreV, hv]
  rfl

set_option maxHeartbeats 8000000 in
set_option maxRecDepth 8000 in
theorem fork2 {P : V → Heap → Prop} {h : Heap} {l : Nat} {L : LS} {f : Nat → Option Nat} (hP : ∀ r h', FkP h L r h' → P r h') (hr : Rep h l L f) (ht : tot L < 2 ^ 40) (hsh : L.closed = true → L.tm = [] ∧ idle L)
    {hp : Heap} {m : Nat} {fm : Nat → Option Nat} (hm : Rep hp m (forkL L 0) fm) (hk : ∀ j, j < h.length → hp[j]? = h[j]?) (ho : ∀ j, own m fm j → h.length ≤ j)
    {env : List V} (he : env.length = 52) (g0 : eget env 0 = .ptr l 0) (g3 : eget env 3 = .ptr m 0) :
    WK (callW Φ) none (FinX [.tmp 2] P) [.o loop_Loop_Fork.r4, .c (snd (fst (snd (snd (snd loop_Loop_Fork.c.body))))), .c (snd (snd (snd (snd loop_Loop_Fork.c.body))))] { env := env, marks := [], heap := hp } := by
  have hlm : h.length ≤ m := ho m (.inl rfl)
  simp only [fst, snd, loop_Loop_Fork.c]
  simp [loop_Loop_Fork.r4, he, okV, fV_eq]
  refine kLoop (fun k s => ∃ i : Nat, k = 8 - i ∧ i ≤ 8 ∧ s.env.length = 52 ∧ eget s.env 0 = .ptr l 0 ∧ eget s.env 3 = .ptr m 0 ∧ eget s.env 22 = .int .i64 i ∧ s.marks = [] ∧
      ∃ fm, Rep s.heap m (forkL L i) fm ∧ (∀ j, j < h.length → s.heap[j]? = h[j]?) ∧ ∀ j, own m fm j → h.length ≤ j) 8 ⟨0, by simp [g0, g3, he]; exact ⟨fm, hm, hk, ho⟩⟩ ?_
  clear hm hk ho he g0 g3
  rintro k ⟨e, mk, hq⟩ ⟨i, rfl, hi, he, k0, k3, k22, hmk, fm, ⟨vm, hm⟩, hk, ho⟩
  simp only at he k0 k3 k22 hmk hm hk
  obtain rfl := hmk
  by_cases hlt : i < 8
  · have hi8 : (i : Int) < 8 := by omega
    have h0i : (0 : Int) ≤ (i : Int) := by omega
    have hw1 : IntKind.i64.wrap ((i : Int) + 1) = ((i + 1 : Nat) : Int) := by rw [Ev.wrap64] <;> omega
    obtain ⟨v, hl, hs, hd⟩ : Rep hq l L f := hr.mono fun j hj => hk j (hr.lt hj)
    have hsi : SL hq 1 (v (i + 1)) (f (i + 1)) ((L.q (i + 1)).map cI) := RepV.sq ⟨hl, hs, hd⟩ (by omega)
    have hql := q_le L (i := i) (by omega)
    obtain ⟨v', o', h2, c2, s2, n2, r2, w2⟩ := own_spec hl (cells_get v L (i := i + 1) (by omega)) hsi (by rw [List.length_map]; unfold tot at ht; omega)
    have hia : ∀ H a, evIaddrA H 8 1 (.ptr a 1) (.int .i64 i) = some (.ptr a (i + 1), H) := fun H a => by
      simp [evIaddrA, hi8, okV, fV_eq, Nat.add_comm]
    have hml := (List.getElem?_eq_some_iff.1 hm.1).1
    have hcell : cont (forkL L (i + 1)) (i + 1) = (L.q (i + 1)).map cI := by
      have h9 : ¬ (i + 1 = 9) := by omega
      simp [cont, forkL, h9]
    have hsz : szi (i + 1) = 1 := by simp [szi]; omega
    obtain ⟨st, r3, f3⟩ := hm.put (i := i + 1) (L' := forkL L (i + 1)) (h2 := h2) (v' := v') (o' := o') (by omega) (by rw [r2 m hml]; exact hm.1) (by rw [hcell, hsz]; exact s2)
      (fun e => by have := w2 m e; omega) (forkL_cont L i) (fun w => rfl) n2 (fun j hj _ _ => r2 j hj) (fun id hid => .inr (w2 id hid))
    have st' := agg1_store s2.cell.2 st
    obtain ⟨H, hH⟩ : ∃ H, H = h2.set m (.cells (cellsL (upv vm (i + 1) v') (forkL L i))) := ⟨_, rfl⟩
    rw [← hH] at st' r3 f3
    simp [loop_Loop_Fork.b9, loop_Loop_Fork.r5, loop_Loop_Fork.r6, k0, k3, k22, he, okV, fV_eq, hi8]
    refine kDraw1 loop_Loop_Fork.r7.ord ?_
    simp [loop_Loop_Fork.r7, loop_Loop_Fork.r8, List.filterMap_cons, k0, k3, k22, he, okV, fV_eq, evNilchk, faddrV, hia, c2, st']
    refine ⟨8 - (i + 1), by omega, i + 1, rfl, by omega, by simpa using hw1, _, ⟨_, r3⟩, fun j hj => ?_, fun j hj => ?_⟩
    · have hjq : j < hq.length := by omega
      rw [hH, List.getElem?_set_ne (by omega), r2 j hjq]
      exact hk j hj
    · rcases f3.new j hj with q | q
      · exact ho j q
      · omega
  · have h8 : i = 8 := by omega
    subst h8
    simp [loop_Loop_Fork.b9, loop_Loop_Fork.r5, k0, k3, k22, he, okV, fV_eq]
    have := fork3 hP hr hsh ⟨vm, hm⟩ hk ho (env := e.set 23 (.bool false)) (by simp [he]) (by simp [k0]) (by simp [k3])
    simpa only [fst, snd, loop_Loop_Fork.c, kSeq] using this
end Go.Proofs.Lp
