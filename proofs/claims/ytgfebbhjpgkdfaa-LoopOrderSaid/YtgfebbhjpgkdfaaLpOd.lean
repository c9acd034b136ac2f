/- The walk of LoopOrder: a round's end. No conditions. -/
import Derived.Test.YtgfebbhjpgkdfaaLpOc
namespace Go.Proofs.Lp
open Go Go.Ev
set_option linter.unusedVariables false
set_option linter.unusedSimpArgs false

abbrev ordT : Cc := snd (snd (snd (snd (snd (inb (fst (snd (snd law27_LoopOrder.b36))))))))

set_option maxHeartbeats 8000000 in
set_option maxRecDepth 8000 in
theorem ord_tail {Q : Ex → St → Prop} {k : List It} {hp : Heap} {l : Nat} {L : LS} {f : Nat → Option Nat} (hr : Rep hp l L f) (ht : tot L < 2 ^ 40) (hc : Calm L)
    {oT : Nat} {vs : Nat → V} {os : Nat → Option Nat} {vM : V} {oM : Option Nat} (w : Own hp l f oT vs os vM oM L.q)
    {env : List V} (he : env.length = 172) (g3 : eget env 3 = .ptr l 0) (g4 : eget env 4 = vM) (g5 : eget env 5 = .sl oT 0 0 8)
    (hk : ∀ env', env'.length = 172 → eget env' 3 = .ptr l 0 → eget env' 4 = vM → eget env' 5 = .sl oT 0 0 8 → eget env' 21 = eget env 21 → eget env' 22 = eget env 22 → eget env' 23 = eget env 23 →
      WK (callW Φ) none Q k { env := env', marks := [], heap := hp }) :
    WK (callW Φ) none Q (.o law27_LoopOrder.r25 :: .c (snd ordT) :: k) { env := env, marks := [], heap := hp } := by
  have hw := waiting_spec hr ht
  rw [hc.tm] at hw
  have hlM := w.ms.len hp
  rw [List.length_map] at hlM
  have hl8 : evLen hp .l (.sl oT 0 0 8) = some (.int .i64 8, hp) := by simp [evLen, lenV, fNat_eq]
  simp only [ordT, snd, fst, inb, law27_LoopOrder.b36]
  simp [law27_LoopOrder.r25, law27_LoopOrder.r26, g5, he, okV, fV_eq, hl8]
  refine kLoop (fun m s => ∃ i : Nat, m = 8 - i ∧ i ≤ 8 ∧ s.env.length = 172 ∧ eget s.env 3 = .ptr l 0 ∧ eget s.env 4 = vM ∧ eget s.env 5 = .sl oT 0 0 8 ∧ eget s.env 21 = eget env 21 ∧ eget s.env 22 = eget env 22 ∧ eget s.env 23 = eget env 23 ∧
      eget s.env 141 = .sl oT 0 0 8 ∧ eget s.env 142 = .int .i64 8 ∧ eget s.env 143 = .int .i64 i ∧ eget s.env 11 = .int .i64 (sumq L i : Nat) ∧ s.marks = [] ∧ s.heap = hp) 8 ⟨0, by simp [g3, g4, g5, he, sumq]⟩ ?_
  rintro m ⟨e, mk, hq⟩ ⟨i, rfl, hi, he, k3, k4, k5, k21, k22, k23, k141, k142, k143, k11, hm, hh⟩
  simp only at he k3 k4 k5 k21 k22 k23 k141 k142 k143 k11 hm hh
  obtain rfl := hm
  obtain rfl := hh
  by_cases hlt : i < 8
  · have ra := row_at w.row hlt
    have hln := (w.qs i hlt).len hq
    rw [List.length_map] at hln
    have hi8 : (i : Int) < 8 := by omega
    have hw1 : IntKind.i64.wrap ((i : Int) + 1) = ((i + 1 : Nat) : Int) := by rw [Ev.wrap64] <;> omega
    have hle := sumq_le L (i := i + 1) (j := 8) (by omega)
    have hw2 : IntKind.i64.wrap (((sumq L i : Nat) : Int) + ((L.q (i + 1)).length : Int)) = ((sumq L (i + 1) : Nat) : Int) := by
      have e1 : sumq L (i + 1) = sumq L i + (L.q (i + 1)).length := rfl
      unfold tot at ht
      rw [Ev.wrap64] <;> omega
    simp [law27_LoopOrder.b31, law27_LoopOrder.r27, law27_LoopOrder.r28, law27_LoopOrder.r29, law27_LoopOrder.r30, k3, k4, k5, k21, k22, k23, k141, k142, k143, k11, he, okV, fV_eq, hi8, ra.1, ra.2, hln, ofCells]
    exact ⟨8 - (i + 1), by omega, i + 1, rfl, by omega, by simpa using hw1, by simpa using hw2⟩
  · have h8 : i = 8 := by omega
    subst h8
    simp (config := { maxSteps := 5000000 }) [law27_LoopOrder.b31, law27_LoopOrder.r27, law27_LoopOrder.r32, law27_LoopOrder.r33, k3, k4, k5, k21, k22, k23, k141, k142, k143, k11, he, okV, fV_eq, hw, evExt, hlM, evPick]
    refine hk _ ?_ ?_ ?_ ?_ ?_ ?_ ?_ <;> simp [he, k3, k4, k5, k21, k22, k23]
end Go.Proofs.Lp
