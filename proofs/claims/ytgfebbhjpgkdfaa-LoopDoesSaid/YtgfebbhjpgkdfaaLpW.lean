/- The program's loop: its bounds are kept. No conditions. -/
import Derived.Test.YtgfebbhjpgkdfaaLpV
namespace Go.Proofs.Lp
open Go Go.Ev
set_option linter.unusedVariables false
set_option linter.unusedSimpArgs false

theorem sumq_upq (L : LS) (j : Nat) (l : List Int) : ∀ n, sumq (upq L (j + 1) l) n + (if j < n then (L.q (j + 1)).length else 0) = sumq L n + (if j < n then l.length else 0)
  | 0 => by simp [sumq]
  | n + 1 => by
    have ih := sumq_upq L j l n
    simp only [sumq]
    by_cases e : j = n
    · subst e
      have h1 : (upq L (j + 1) l).q (j + 1) = l := by simp [upq]
      rw [h1]
      simp only [Nat.lt_irrefl, if_false, Nat.lt_succ_self, if_true] at ih ⊢
      omega
    · have h1 : (upq L (j + 1) l).q (n + 1) = L.q (n + 1) := by
        have : ¬ (n = j) := by omega
        simp [upq, this]
      rw [h1]
      by_cases hl : j < n
      · have : j < n + 1 := by omega
        simp only [if_pos hl, if_pos this] at ih ⊢
        omega
      · have : ¬ j < n + 1 := by omega
        simp only [if_neg hl, if_neg this] at ih ⊢
        omega
theorem sumq_upq0 (L : LS) (l : List Int) : ∀ n, sumq (upq L 0 l) n = sumq L n
  | 0 => rfl
  | n + 1 => by
    have h1 : (upq L 0 l).q (n + 1) = L.q (n + 1) := by simp [upq]
    simp only [sumq, sumq_upq0 L l n, h1]
theorem tot_upq (L : LS) {i : Nat} (hi : i < 9) (l : List Int) : tot (upq L i l) + (L.q i).length = tot L + l.length := by
  cases i with
  | zero =>
    have h0 : (upq L 0 l).q 0 = l := by simp [upq]
    have ht : (upq L 0 l).tm = L.tm := rfl
    simp only [tot, sumq_upq0, h0, ht]
    omega
  | succ j =>
    have h0 : (upq L (j + 1) l).q 0 = L.q 0 := by simp [upq]
    have ht : (upq L (j + 1) l).tm = L.tm := rfl
    have := sumq_upq L j l 8
    have hj : j < 8 := by omega
    simp only [if_pos hj] at this
    simp only [tot, h0, ht]
    omega
theorem sumq_q {L L' : LS} (h : L'.q = L.q) : ∀ n, sumq L' n = sumq L n
  | 0 => rfl
  | n + 1 => by simp only [sumq, sumq_q h n, h]
theorem tot_tm {L L' : LS} (h : L'.q = L.q) : tot L' + L.tm.length = tot L + L'.tm.length := by
  simp only [tot, sumq_q h, h]; omega

/-- A loop in its bounds, behind so many steps. -/
structure Ok (n : Int) (L : LS) : Prop where
  tot : tot L ≤ 4096
  g0 : 0 ≤ L.given
  gn : L.given ≤ n
  c0 : 0 ≤ L.clock
  cm : L.clock ≤ 1125899906842624
  shut : L.closed = true → L.tm = [] ∧ idle L

theorem Ok.new : Ok 0 LS.new := ⟨by decide, by decide, by decide, by decide, by decide, fun h => by cases h⟩

theorem faultV_zero {L : LS} {b : Bool} (h : faultV L b = 0) : L.closed = false ∧ b = true ∧ Lp.tot L < 4096 := by
  unfold faultV at h
  split at h
  · cases h
  · rename_i h1
    split at h
    · cases h
    · rename_i h2
      split at h
      · cases h
      · rename_i h3
        exact ⟨by simpa using h1, by simpa using h2, by omega⟩

theorem Ok.put {n : Int} {L : LS} (h : Ok n L) (hc : L.closed = false) (ht : Lp.tot L < 4096) {i : Nat} (hi : i < 9) (x : Int) : Ok (n + 1) (upq L i (L.q i ++ [x])) := by
  have h1 := tot_upq L hi (L.q i ++ [x])
  simp only [List.length_append, List.length_singleton] at h1
  refine ⟨by omega, h.g0, by have := h.gn; simp only [upq]; omega, h.c0, h.cm, fun hh => ?_⟩
  simp only [upq] at hh
  rw [hc] at hh
  cases hh
theorem Ok.more {n : Int} {L : LS} (h : Ok n L) : Ok (n + 1) L := ⟨h.tot, h.g0, by have := h.gn; omega, h.c0, h.cm, h.shut⟩
theorem Ok.task {n : Int} {L : LS} (h : Ok n L) (source x : Int) : Ok (n + 1) (taskL L source x) := by
  unfold taskL
  split
  · rename_i hz
    obtain ⟨h1, h2, h3⟩ := faultV_zero hz
    simp only [decide_eq_true_eq] at h2
    exact h.put h1 h3 (i := source.toNat + 1) (by omega) x
  · exact h.more
theorem Ok.micro {n : Int} {L : LS} (h : Ok n L) (x : Int) : Ok (n + 1) (microL L x) := by
  unfold microL
  split
  · rename_i hz
    obtain ⟨h1, h2, h3⟩ := faultV_zero hz
    exact h.put h1 h3 (i := 0) (by omega) x
  · exact h.more
theorem Ok.after {n : Int} {L : LS} (h : Ok n L) (ms level id : Int) : Ok (n + 1) (afterL L ms level id) := by
  unfold afterL
  split
  · rename_i hz
    obtain ⟨h1, h2, h3⟩ := faultV_zero hz
    have hle := spot_le L.tm (afterT L ms level id).due L.tm.length
    refine ⟨?_, by have := h.g0; simp only; omega, by have := h.gn; simp only; omega, h.c0, h.cm, fun hh => ?_⟩
    · have := tot_tm (L := L) (L' := { L with given := L.given + 1, tm := L.tm.take (spot L.tm (afterT L ms level id).due L.tm.length) ++ [afterT L ms level id] ++ L.tm.drop (spot L.tm (afterT L ms level id).due L.tm.length) }) rfl
      simp only [List.length_append, List.length_take, List.length_drop, List.length_singleton] at this
      omega
    · simp only at hh
      rw [h1] at hh
      cases hh
  · exact h.more
theorem Ok.clear {n : Int} {L : LS} (h : Ok n L) (k : Int) : Ok (n + 1) (clearL L k) := by
  unfold clearL
  split
  · rename_i i hp
    have hi := place_lt hp
    refine ⟨?_, h.g0, by have := h.gn; simp only; omega, h.c0, h.cm, fun hh => ?_⟩
    · have := tot_tm (L := L) (L' := { L with tm := L.tm.take i ++ L.tm.drop (i + 1) }) rfl
      simp only [List.length_append, List.length_take, List.length_drop] at this
      have := h.tot
      omega
    · obtain ⟨h1, h2⟩ := h.shut hh
      rw [h1] at hi
      cases hi
  · exact h.more
theorem Ok.advance {n : Int} {L : LS} (h : Ok n L) (ms : Int) : Ok (n + 1) (advL L ms) := by
  unfold advL
  split
  · rename_i hz
    have hb : L.closed = false ∧ 0 ≤ ms ∧ ms ≤ 1125899906842624 - L.clock := by
      unfold advV at hz
      split at hz
      · cases hz
      · rename_i h1
        split at hz
        · cases hz
        · rename_i h2
          exact ⟨by simpa using h1, by omega, by omega⟩
    have hle := ripe_le (L.clock + ms) L.tm
    have h1 := tot_upq (clkL L (L.clock + ms)) (i := 1) (by omega) (L.q 1 ++ (L.tm.take (ripe (L.clock + ms) L.tm)).map Tm.id)
    have h2 := tot_tm (L := midL L (L.clock + ms) (ripe (L.clock + ms) L.tm)) (L' := ⟨(midL L (L.clock + ms) (ripe (L.clock + ms) L.tm)).q, L.tm.drop (ripe (L.clock + ms) L.tm), L.clock + ms, L.given, L.closed⟩) rfl
    have h3 : (midL L (L.clock + ms) (ripe (L.clock + ms) L.tm)).tm = L.tm := rfl
    have h4 : Lp.tot (clkL L (L.clock + ms)) = Lp.tot L := rfl
    have h5 : (clkL L (L.clock + ms)).q 1 = L.q 1 := rfl
    have h6 : Lp.tot (midL L (L.clock + ms) (ripe (L.clock + ms) L.tm)) = Lp.tot (upq (clkL L (L.clock + ms)) 1 (L.q 1 ++ (L.tm.take (ripe (L.clock + ms) L.tm)).map Tm.id)) := rfl
    simp only [List.length_append, List.length_map, List.length_take, h5, h4] at h1
    simp only [h3, List.length_drop] at h2
    have h7 : Lp.tot (⟨(midL L (L.clock + ms) (ripe (L.clock + ms) L.tm)).q, L.tm.drop (ripe (L.clock + ms) L.tm), L.clock + ms, L.given, L.closed⟩ : LS) ≤ 4096 := by have := h.tot; omega
    refine ⟨h7, h.g0, by have := h.gn; simp only [midL, upq, clkL]; omega, by have := h.c0; simp only [midL, upq, clkL]; omega, by simp only [midL, upq, clkL]; omega, fun hh => ?_⟩
    simp only [midL, upq, clkL] at hh
    rw [hb.1] at hh
    cases hh
  · exact h.more
theorem Ok.pop {n : Int} {L : LS} (h : Ok n L) {i : Nat} (hi : i < 9) {x : Int} {xs : List Int} (hq : L.q i = x :: xs) : Ok (n + 1) (upq L i xs) := by
  have h1 := tot_upq L hi xs
  rw [hq] at h1
  simp only [List.length_cons] at h1
  refine ⟨by have := h.tot; omega, h.g0, by have := h.gn; simp only [upq]; omega, h.c0, h.cm, fun hh => ?_⟩
  have := (h.shut hh).2 i
  rw [hq] at this
  cases this
theorem Ok.next {n : Int} {L : LS} (h : Ok n L) (seed : Int) : Ok (n + 1) (nextR L seed).2 := by
  unfold nextR
  split
  · rename_i x xs hq
    exact h.pop (i := 0) (by omega) hq
  · split
    · exact h.more
    · rename_i s hs
      obtain ⟨m1, m2⟩ := rdy_mem (List.mem_of_getElem? hs)
      split
      · exact h.more
      · rename_i x xs hq
        exact h.pop (i := s + 1) (by omega) hq
theorem Ok.close {n : Int} {L : LS} (h : Ok n L) : Ok (n + 1) (closeL L) := by
  unfold closeL
  split
  · exact h.more
  · exact ⟨by simp [Lp.tot, sumq], h.g0, by have := h.gn; simp only; omega, h.c0, h.cm, fun _ => ⟨rfl, fun _ => rfl⟩⟩
theorem Ok.step {n : Int} {L : LS} (h : Ok n L) (x : Step) : Ok (n + 1) (doA L x).2 := by
  unfold doA
  split
  · exact h.close
  · unfold doR
    split
    · exact h.task _ _
    · split
      · exact h.micro _
      · split
        · exact h.after _ _ _
        · split
          · exact h.clear _
          · split
            · exact h.advance _
            · split
              · exact h.next _
              · exact h.more
end Go.Proofs.Lp
