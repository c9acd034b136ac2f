/- The program's loop: Fork. No conditions. -/
import Derived.Test.YtgfebbhjpgkdfaaLpW
namespace Go.Proofs.Lp
open Go Go.Ev
set_option linter.unusedVariables false
set_option linter.unusedSimpArgs false

/-- What is not seen of a loop is no matter. -/
theorem Rep.congr {h : Heap} {l : Nat} {L L' : LS} {f : Nat → Option Nat} (hr : Rep h l L f) (hq : ∀ k, k < 9 → L'.q k = L.q k) (ht : L'.tm = L.tm) (hc : L'.clock = L.clock) (hg : L'.given = L.given) (hx : L'.closed = L.closed) : Rep h l L' f := by
  obtain ⟨v, h1, h2, h3⟩ := hr
  refine ⟨v, ?_, fun i hi => ?_, h3⟩
  · rw [h1]
    simp only [cellsL, hc, hg, hx]
  · have := h2 i hi
    have e : cont L' i = cont L i := by
      unfold cont
      by_cases e : i = 9
      · rw [if_pos e, if_pos e, ht]
      · rw [if_neg e, if_neg e, hq i (by omega)]
    rw [e]
    exact this

/-- queue.own: a copy of what waits. -/
theorem own_spec {h : Heap} {l off : Nat} {cs : List V} {v : V} {o : Option Nat} {xs : List (List V)} (hl : h[l]? = some (.cells cs)) (hv : cs[off]? = some v) (hs : SL h 1 v o xs) (hlen : xs.length < 2 ^ 40) :
    ∃ v' o' h', callW Φ loop_queue_int_own [.ptr l off] h = some (.agg [v'], h') ∧ SL h' 1 v' o' xs ∧ h.length ≤ h'.length ∧ (∀ j, j < h.length → h'[j]? = h[j]?) ∧ ∀ id, o' = some id → h.length ≤ id := by
  obtain ⟨P, hP⟩ : ∃ P : V → Heap → Prop, P = fun r h' => ∃ v' o', r = .agg [v'] ∧ SL h' 1 v' o' xs ∧ h.length ≤ h'.length ∧ (∀ j, j < h.length → h'[j]? = h[j]?) ∧ ∀ id, o' = some id → h.length ≤ id := ⟨_, rfl⟩
  suffices hgo : ∃ r h', callW Φ loop_queue_int_own [.ptr l off] h = some (r, h') ∧ P r h' by
    obtain ⟨r, h', h1, h2⟩ := hgo
    rw [hP] at h2
    obtain ⟨v', o', rfl, h3⟩ := h2
    exact ⟨v', o', h', h1, h3⟩
  have hd : cs.drop off = v :: cs.drop (off + 1) := by
    obtain ⟨h1, rfl⟩ := List.getElem?_eq_some_iff.1 hv
    exact List.drop_eq_getElem_cons h1
  have hll := (List.getElem?_eq_some_iff.1 hl).1
  obtain ⟨H0, hH0⟩ : ∃ H0, H0 = h ++ [Ob.cells [.nils]] := ⟨_, rfl⟩
  have hs0 : SL H0 1 v o xs := hs.mono (fun id ho => by rw [hH0, List.getElem?_append_left (hs.lt ho)])
  have hl0 : H0.length = h.length + 1 := by rw [hH0]; simp
  obtain ⟨v', o', H1, c1, s1, n1, r1, w1⟩ := clone1_spec hs0 hlen
  have hc0 : ∀ k, cellsAt H0 (.ptr l k) = some (cs.drop k) := fun k => by simp [cellsAt, hH0, List.getElem?_append_left hll, hl]
  have e1 : H1[h.length]? = some (.cells [.nils]) := by rw [r1 _ (by omega), hH0]; simp
  have hb : evBuild H1 [.nils] [(0, 1, v')] = some (.agg [v'], H1) := by simp [evBuild, placeParts, s1.cell.2, s1.cell.1, setRange]
  have hst : evStoreV H1 1 (.ptr h.length 0) (.agg [v']) = some (V.non, H1.set h.length (.cells [v'])) := by
    simp [evStoreV, evStore, e1, V.cells, s1.cell.1, setRange]
  have hlt : h.length < H1.length := by omega
  have hfin : P (.agg [v']) (H1.set h.length (.cells [v'])) := by
    rw [hP]
    refine ⟨v', o', rfl, s1.mono fun id hid => ?_, by simp; omega, fun j hj => ?_, fun id hid => ?_⟩
    · have := w1 id hid
      rw [List.getElem?_set_ne (by omega)]
    · rw [List.getElem?_set_ne (by omega), r1 j (by omega), hH0, List.getElem?_append_left hj]
    · have := w1 id hid
      omega
  refine call_x loop_queue_int_own.Φ rfl (Nat.le_of_ble_eq_true rfl) (fun env he g => ?_)
  have g0 := g 0 (by simp)
  change eget env 0 = .ptr l off at g0
  clear g
  simp [loop_queue_int_own.c] at he
  have hcr : cellsAt (H1.set h.length (.cells [v'])) (.ptr h.length 0) = some [v'] := by simp [cellsAt, hlt]
  simp [loop_queue_int_own.c, loop_queue_int_own.r0, loop_queue_int_own.r1, g0, he, okV, fV_eq, evNilchk, ← hH0, hc0, hd, c1, hb, hst, faddrV, ofCells, hcr]
  exact hfin

/-- (*atomic.Int64).Store -/
theorem st_spec {h : Heap} {l off : Nat} {cs : List V} {m : Int} (hl : h[l]? = some (.cells cs)) (hv : cs[off]? = some (.int .i64 m)) (n : Int) :
    callW Φ sync_atomic_Int64_Store [.ptr l off, .int .i64 n] h = some (.tup [], h.set l (.cells (cs.set off (.int .i64 n)))) := by
  have hoff : off < cs.length := (List.getElem?_eq_some_iff.1 hv).1
  have hd : cs.drop off = .int .i64 m :: cs.drop (off + 1) := by
    obtain ⟨h1, h2⟩ := List.getElem?_eq_some_iff.1 hv
    rw [← h2]
    exact List.drop_eq_getElem_cons h1
  refine callW_rough sync_atomic_Int64_Store.Φ rfl (body_q (Nat.le_of_ble_eq_true rfl) (fun env he h0 => ?_))
  have g0 := h0 0 (by simp)
  have g1 := h0 1 (by simp)
  change eget env 0 = .ptr l off at g0
  change eget env 1 = .int .i64 n at g1
  clear h0
  simp [primStore] at he
  have hst := store_cell hl hoff (x := .int .i64 n) rfl rfl
  simp [primStore, g0, g1, he, okV, fV_eq, evAtst, cellsAt, hl, hd, hst]

/-- A fork on its way: what it has of the sources. -/
def forkL (L : LS) (i : Nat) : LS := ⟨fun k => if k ≤ i then L.q k else [], L.tm, L.clock, 0, false⟩
theorem forkL_cont (L : LS) (i : Nat) : ∀ k, k < 10 → k ≠ i + 1 → cont (forkL L (i + 1)) k = cont (forkL L i) k := fun k hk hne => by
  unfold cont forkL
  by_cases e : k = 9
  · rw [if_pos e, if_pos e]
  · rw [if_neg e, if_neg e]
    by_cases h : k ≤ i
    · have : k ≤ i + 1 := by omega
      simp only [if_pos h, if_pos this]
    · have : ¬ k ≤ i + 1 := by omega
      simp only [if_neg h, if_neg this]
end Go.Proofs.Lp
