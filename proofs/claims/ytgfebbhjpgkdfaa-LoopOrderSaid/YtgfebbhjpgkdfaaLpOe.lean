/- The walk of LoopOrder: a task of the law's comes. No conditions. -/
import Derived.Test.YtgfebbhjpgkdfaaLpOc
namespace Go.Proofs.Lp
open Go Go.Ev
set_option linter.unusedVariables false
set_option linter.unusedSimpArgs false

abbrev ordB2 : Cc := fst (snd (snd (snd (inb (fst (snd (snd law27_LoopOrder.b36)))))))
/-- The draw behind its two questions. -/
def yes1 : Cc → Cc
  | .cond _ a _ => a
  | x => x
def no1 : Cc → Cc
  | .cond _ _ b => b
  | x => x
abbrev ordD13 : Cc := yes1 (snd (no1 (snd (inb ordB2)) |> snd))

/-- What a region of the law leaves as it is. -/
def Kept (env env' : List V) : Prop := env'.length = 172 ∧ eget env' 3 = eget env 3 ∧ eget env' 4 = eget env 4 ∧ eget env' 5 = eget env 5 ∧ eget env' 7 = eget env 7 ∧ eget env' 9 = eget env 9 ∧ eget env' 21 = eget env 21 ∧ eget env' 22 = eget env 22 ∧ eget env' 23 = eget env 23

theorem ptr_at {h : Heap} {a : Nat} {cs : List V} (ha : h[a]? = some (Ob.cells cs)) (off : Nat) : cellsAt h (.ptr a off) = some (cs.drop off) := by simp [cellsAt, ha]

set_option maxHeartbeats 8000000 in
set_option maxRecDepth 8000 in
theorem ord_push {hp : Heap} {l : Nat} {f : Nat → Option Nat} {oT : Nat} {vs : Nat → V} {os : Nat → Option Nat} {vM : V} {oM : Option Nat} {q : Nat → List Int} (w : Own hp l f oT vs os vM oM q) (hb : ∀ id, own l f id → id < hp.length)
    {x : Step} (h0 : 0 ≤ x.source) (h8 : x.source < 8) (hq : (q (x.source.toNat + 1)).length < 2 ^ 40) {a : Nat} (hx : hp[a]? = some (.cells (cS x)))
    {env : List V} (he : env.length = 172) (g5 : eget env 5 = .sl oT 0 0 8) (g7 : eget env 7 = .ptr a 0) :
    WK (callW Φ) none (fun e s' => e = .normal ∧ (∃ vs' os', Own s'.heap l f oT vs' os' vM oM (upd0 q (x.source.toNat + 1) (q (x.source.toNat + 1) ++ [x.id]))) ∧ hp.length ≤ s'.heap.length ∧ (∀ (j : Nat) cs, hp[j]? = some (Ob.cells cs) → s'.heap[j]? = some (Ob.cells cs)) ∧ (∀ j, own l f j → s'.heap[j]? = hp[j]?) ∧ s'.marks = [] ∧ Kept env s'.env)
      [.c ordD13] { env := env, marks := [], heap := hp } := by
  obtain ⟨v', o', h2, a1, a2, a3, a4, a5, a6, a7, w2, hl2, hcs, k2⟩ := w.pushQ hb h0 h8 hq x.id
  have hbs := Own.bs hp x.id
  have hal := (List.getElem?_eq_some_iff.1 hx).1
  obtain ⟨H1, hH1⟩ : ∃ H1, H1 = hp ++ [Ob.row 1 [cI x.id] 0 true] := ⟨_, rfl⟩
  rw [← hH1] at a1 a4 a5 hbs
  obtain ⟨H3, hH3⟩ : ∃ H3, H3 = h2.set oT (.row 1 (rowV (upv vs x.source.toNat v')) 0 true) := ⟨_, rfl⟩
  rw [← hH3] at a7 w2 hl2 k2 hcs
  have q0 : ∀ off, cellsAt hp (.ptr a off) = some ((cS x).drop off) := ptr_at hx
  have q1 : ∀ off, cellsAt H1 (.ptr a off) = some ((cS x).drop off) := ptr_at (by rw [hH1, List.getElem?_append_left hal]; exact hx)
  have q2 : ∀ off, cellsAt h2 (.ptr a off) = some ((cS x).drop off) := ptr_at (hcs a _ hx).1
  simp only [cS] at q0 q1 q2
  have b0 := q0 1
  have b1 := q1 1
  have b2 := q2 1
  have b3 := q0 2
  clear q0 q1 q2
  simp only [ordD13, ordB2, yes1, no1, snd, fst, inb, law27_LoopOrder.b36]
  refine kDraw2 law27_LoopOrder.r13.ord ?_
  simp (config := { maxSteps := 5000000 }) [law27_LoopOrder.r13, List.filterMap_cons, g5, g7, he, okV, fV_eq, faddrV, b0, b1, b2, b3, hbs, a1, a2, a3, a4, a5, a6, a7, ofCells, Kept]
  refine ⟨⟨?_, ?_⟩, ⟨_, _, w2⟩, hl2, fun j cs hj => (hcs j cs hj).2, k2⟩
  all_goals
    simp only [set_puts, puts_puts, List.cons_append, List.nil_append]
    exact puts_ext _ rfl rfl rfl rfl
end Go.Proofs.Lp
