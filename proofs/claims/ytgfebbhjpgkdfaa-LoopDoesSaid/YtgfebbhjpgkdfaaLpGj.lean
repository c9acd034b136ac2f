/- The book's loop: put, a timer: its draw. The book's loop: put. The book's loop: a timer is cleared. No conditions. -/
import Derived.Test.YtgfebbhjpgkdfaaLpGg
namespace Go.Proofs.Lp
open Go Go.Ev
set_option linter.unusedVariables false
set_option linter.unusedSimpArgs false

theorem evOps_app {call : CallF} : ∀ {a b : List Cp} {s s1 : St}, evOps call a s = some s1 → evOps call (a ++ b) s = evOps call b s1
  | [], b, s, s1, h => by
    simp only [evOps, Option.some.injEq] at h
    rw [h]
    rfl
  | c :: a, b, s, s1, h => by
    simp only [evOps, List.cons_append] at h ⊢
    split at h
    · exact evOps_app h
    · cases h
theorem WO_app {call : CallF} {a b : List Cp} {s : St} {Q : St → Prop} (h : WO call a s (fun s1 => WO call b s1 Q)) : WO call (a ++ b) s Q := by
  obtain ⟨s1, h1, s2, h2, h3⟩ := h
  exact ⟨s2, by rw [evOps_app h1]; exact h2, h3⟩
theorem WO_eq {call : CallF} {a : List Cp} {s s1 : St} {Q : St → Prop} (h : WO call a s (fun r => r = s1)) (hq : Q s1) : WO call a s Q := by
  obtain ⟨_, h1, rfl⟩ := h
  exact ⟨_, h1, hq⟩

/-- A region whose order is open: each of its orders comes to the same. -/
theorem kDraw3 {call : CallF} {rnd : Option Nat} {Q : Ex → St → Prop} {s R : St} {k : List It} {ops : List Cp} {af : List (List Nat)} {fl : List Nat} {ls : List (List Nat)} (h : orders2 ops af ops.length (List.replicate ops.length false) = some ls) (hne : ls ≠ [])
    (hall : ∀ l ∈ ls, WO call (l.filterMap (ops[·]?)) s (fun r => r = R)) (hk : WK call rnd Q k R) : WK call rnd Q (.c (.draw ops af fl) :: k) s := by
  cases ls with
  | nil => exact (hne rfl).elim
  | cons l ls => exact kDraw2 h (WO_eq (hall l (by simp)) ⟨fun l' hl' => hall l' (by simp [hl']), hk⟩)

structure C17 (H : Heap) (e : List V) (b b1 : Nat) (x : Step) (v9 : V) (clock W D M num : Int) : Prop where
  he : e.length = 101
  e79 : eget e 79 = .ptr b 5
  e81 : eget e 81 = .ptr b 1
  e84 : eget e 84 = .int .i64 x.ms
  e86 : eget e 86 = .int .i64 x.level
  e90 : eget e 90 = .ptr b 2
  e92 : eget e 92 = .ptr b1 2
  q5 : cellsAt H (.ptr b 5) = some [v9]
  q1 : ∃ z, cellsAt H (.ptr b 1) = some (.int .i64 clock :: z)
  q2 : ∃ z, cellsAt H (.ptr b 2) = some (.int .i64 num :: z)
  x2 : ∃ z, cellsAt H (.ptr b1 2) = some (.int .i64 x.id :: z)
  hc : callW Φ ref27_wait [.int .i64 x.ms, .int .i64 x.level] H = some (.int .i64 W, H)
  hw : IntKind.i64.wrap (clock + W) = D
  hmn : foldInt (fun x y => if y < x then y else x) [.int .i64 D, .int .i64 1125899906842624] = some (.int .i64 M)
def put17 (e : List V) (x : Step) (v9 : V) (clock W D M num : Int) : List V := puts e [(80, v9), (82, .int .i64 clock), (87, .int .i64 W), (88, .int .i64 D), (89, .int .i64 M), (91, .int .i64 num), (93, .int .i64 x.id)]

set_option maxHeartbeats 16000000 in
set_option maxRecDepth 8000 in
theorem mid17_0 {H : Heap} {e : List V} {b b1 : Nat} {x : Step} {v9 : V} {clock W D M num : Int} (c : C17 H e b b1 x v9 clock W D M num) :
    ∀ l ∈ [[1, 3, 8, 9, 10, 12, 14], [1, 3, 12, 8, 9, 10, 14], [1, 3, 12, 14, 8, 9, 10], [1, 3, 14, 8, 9, 10, 12], [1, 3, 14, 12, 8, 9, 10], [1, 8, 3, 9, 10, 12, 14], [1, 12, 3, 8, 9, 10, 14], [1, 12, 3, 14, 8, 9, 10], [1, 12, 8, 3, 9, 10, 14], [1, 12, 14, 3, 8, 9, 10], [1, 12, 14, 8, 3, 9, 10]], WO (callW Φ) (List.filterMap (ref27_put.r17[·]?) l) { env := e, marks := [], heap := H } (fun r => r = { env := put17 e x v9 clock W D M num, marks := [], heap := H }) := by
  obtain ⟨he, e79, e81, e84, e86, e90, e92, q5, ⟨z1, q1⟩, ⟨z2, q2⟩, ⟨z3, x2⟩, hc, hw, hmn⟩ := c
  simp only [List.forall_mem_cons]
  refine ⟨?_, ?_, ?_, ?_, ?_, ?_, ?_, ?_, ?_, ?_, ?_, fun _ h => by cases h⟩
  all_goals
    simp (config := { maxSteps := 5000000 }) [ref27_put.r17, List.filterMap_cons, e79, e81, e84, e86, e90, e92, he, okV, fV_eq, q5, q1, q2, x2, hc, hw, hmn, ofCells]
    try simp only [set_puts, puts_puts, List.cons_append, List.nil_append, put17]
    try exact puts_ext _ rfl rfl rfl rfl

set_option maxHeartbeats 16000000 in
set_option maxRecDepth 8000 in
theorem mid17_1 {H : Heap} {e : List V} {b b1 : Nat} {x : Step} {v9 : V} {clock W D M num : Int} (c : C17 H e b b1 x v9 clock W D M num) :
    ∀ l ∈ [[1, 14, 3, 8, 9, 10, 12], [1, 14, 3, 12, 8, 9, 10], [1, 14, 8, 3, 9, 10, 12], [1, 14, 12, 3, 8, 9, 10], [1, 14, 12, 8, 3, 9, 10], [3, 1, 8, 9, 10, 12, 14], [3, 1, 12, 8, 9, 10, 14], [3, 1, 12, 14, 8, 9, 10], [3, 1, 14, 8, 9, 10, 12], [3, 1, 14, 12, 8, 9, 10], [3, 8, 1, 9, 10, 12, 14]], WO (callW Φ) (List.filterMap (ref27_put.r17[·]?) l) { env := e, marks := [], heap := H } (fun r => r = { env := put17 e x v9 clock W D M num, marks := [], heap := H }) := by
  obtain ⟨he, e79, e81, e84, e86, e90, e92, q5, ⟨z1, q1⟩, ⟨z2, q2⟩, ⟨z3, x2⟩, hc, hw, hmn⟩ := c
  simp only [List.forall_mem_cons]
  refine ⟨?_, ?_, ?_, ?_, ?_, ?_, ?_, ?_, ?_, ?_, ?_, fun _ h => by cases h⟩
  all_goals
    simp (config := { maxSteps := 5000000 }) [ref27_put.r17, List.filterMap_cons, e79, e81, e84, e86, e90, e92, he, okV, fV_eq, q5, q1, q2, x2, hc, hw, hmn, ofCells]
    try simp only [set_puts, puts_puts, List.cons_append, List.nil_append, put17]
    try exact puts_ext _ rfl rfl rfl rfl

set_option maxHeartbeats 16000000 in
set_option maxRecDepth 8000 in
theorem mid17_2 {H : Heap} {e : List V} {b b1 : Nat} {x : Step} {v9 : V} {clock W D M num : Int} (c : C17 H e b b1 x v9 clock W D M num) :
    ∀ l ∈ [[3, 12, 1, 8, 9, 10, 14], [3, 12, 1, 14, 8, 9, 10], [3, 12, 8, 1, 9, 10, 14], [3, 12, 14, 1, 8, 9, 10], [3, 12, 14, 8, 1, 9, 10], [3, 14, 1, 8, 9, 10, 12], [3, 14, 1, 12, 8, 9, 10], [3, 14, 8, 1, 9, 10, 12], [3, 14, 12, 1, 8, 9, 10], [3, 14, 12, 8, 1, 9, 10], [8, 1, 3, 9, 10, 12, 14]], WO (callW Φ) (List.filterMap (ref27_put.r17[·]?) l) { env := e, marks := [], heap := H } (fun r => r = { env := put17 e x v9 clock W D M num, marks := [], heap := H }) := by
  obtain ⟨he, e79, e81, e84, e86, e90, e92, q5, ⟨z1, q1⟩, ⟨z2, q2⟩, ⟨z3, x2⟩, hc, hw, hmn⟩ := c
  simp only [List.forall_mem_cons]
  refine ⟨?_, ?_, ?_, ?_, ?_, ?_, ?_, ?_, ?_, ?_, ?_, fun _ h => by cases h⟩
  all_goals
    simp (config := { maxSteps := 5000000 }) [ref27_put.r17, List.filterMap_cons, e79, e81, e84, e86, e90, e92, he, okV, fV_eq, q5, q1, q2, x2, hc, hw, hmn, ofCells]
    try simp only [set_puts, puts_puts, List.cons_append, List.nil_append, put17]
    try exact puts_ext _ rfl rfl rfl rfl

set_option maxHeartbeats 16000000 in
set_option maxRecDepth 8000 in
theorem mid17_3 {H : Heap} {e : List V} {b b1 : Nat} {x : Step} {v9 : V} {clock W D M num : Int} (c : C17 H e b b1 x v9 clock W D M num) :
    ∀ l ∈ [[12, 1, 3, 8, 9, 10, 14], [12, 1, 3, 14, 8, 9, 10], [12, 1, 8, 3, 9, 10, 14], [12, 1, 14, 3, 8, 9, 10], [12, 1, 14, 8, 3, 9, 10], [12, 3, 1, 8, 9, 10, 14], [12, 3, 1, 14, 8, 9, 10], [12, 3, 8, 1, 9, 10, 14], [12, 3, 14, 1, 8, 9, 10], [12, 3, 14, 8, 1, 9, 10], [12, 8, 1, 3, 9, 10, 14]], WO (callW Φ) (List.filterMap (ref27_put.r17[·]?) l) { env := e, marks := [], heap := H } (fun r => r = { env := put17 e x v9 clock W D M num, marks := [], heap := H }) := by
  obtain ⟨he, e79, e81, e84, e86, e90, e92, q5, ⟨z1, q1⟩, ⟨z2, q2⟩, ⟨z3, x2⟩, hc, hw, hmn⟩ := c
  simp only [List.forall_mem_cons]
  refine ⟨?_, ?_, ?_, ?_, ?_, ?_, ?_, ?_, ?_, ?_, ?_, fun _ h => by cases h⟩
  all_goals
    simp (config := { maxSteps := 5000000 }) [ref27_put.r17, List.filterMap_cons, e79, e81, e84, e86, e90, e92, he, okV, fV_eq, q5, q1, q2, x2, hc, hw, hmn, ofCells]
    try simp only [set_puts, puts_puts, List.cons_append, List.nil_append, put17]
    try exact puts_ext _ rfl rfl rfl rfl

set_option maxHeartbeats 16000000 in
set_option maxRecDepth 8000 in
theorem mid17_4 {H : Heap} {e : List V} {b b1 : Nat} {x : Step} {v9 : V} {clock W D M num : Int} (c : C17 H e b b1 x v9 clock W D M num) :
    ∀ l ∈ [[12, 14, 1, 3, 8, 9, 10], [12, 14, 1, 8, 3, 9, 10], [12, 14, 3, 1, 8, 9, 10], [12, 14, 3, 8, 1, 9, 10], [12, 14, 8, 1, 3, 9, 10], [14, 1, 3, 8, 9, 10, 12], [14, 1, 3, 12, 8, 9, 10], [14, 1, 8, 3, 9, 10, 12], [14, 1, 12, 3, 8, 9, 10], [14, 1, 12, 8, 3, 9, 10], [14, 3, 1, 8, 9, 10, 12]], WO (callW Φ) (List.filterMap (ref27_put.r17[·]?) l) { env := e, marks := [], heap := H } (fun r => r = { env := put17 e x v9 clock W D M num, marks := [], heap := H }) := by
  obtain ⟨he, e79, e81, e84, e86, e90, e92, q5, ⟨z1, q1⟩, ⟨z2, q2⟩, ⟨z3, x2⟩, hc, hw, hmn⟩ := c
  simp only [List.forall_mem_cons]
  refine ⟨?_, ?_, ?_, ?_, ?_, ?_, ?_, ?_, ?_, ?_, ?_, fun _ h => by cases h⟩
  all_goals
    simp (config := { maxSteps := 5000000 }) [ref27_put.r17, List.filterMap_cons, e79, e81, e84, e86, e90, e92, he, okV, fV_eq, q5, q1, q2, x2, hc, hw, hmn, ofCells]
    try simp only [set_puts, puts_puts, List.cons_append, List.nil_append, put17]
    try exact puts_ext _ rfl rfl rfl rfl

set_option maxHeartbeats 16000000 in
set_option maxRecDepth 8000 in
theorem mid17_5 {H : Heap} {e : List V} {b b1 : Nat} {x : Step} {v9 : V} {clock W D M num : Int} (c : C17 H e b b1 x v9 clock W D M num) :
    ∀ l ∈ [[14, 3, 1, 12, 8, 9, 10], [14, 3, 8, 1, 9, 10, 12], [14, 3, 12, 1, 8, 9, 10], [14, 3, 12, 8, 1, 9, 10], [14, 8, 1, 3, 9, 10, 12], [14, 12, 1, 3, 8, 9, 10], [14, 12, 1, 8, 3, 9, 10], [14, 12, 3, 1, 8, 9, 10], [14, 12, 3, 8, 1, 9, 10], [14, 12, 8, 1, 3, 9, 10]], WO (callW Φ) (List.filterMap (ref27_put.r17[·]?) l) { env := e, marks := [], heap := H } (fun r => r = { env := put17 e x v9 clock W D M num, marks := [], heap := H }) := by
  obtain ⟨he, e79, e81, e84, e86, e90, e92, q5, ⟨z1, q1⟩, ⟨z2, q2⟩, ⟨z3, x2⟩, hc, hw, hmn⟩ := c
  simp only [List.forall_mem_cons]
  refine ⟨?_, ?_, ?_, ?_, ?_, ?_, ?_, ?_, ?_, ?_, fun _ h => by cases h⟩
  all_goals
    simp (config := { maxSteps := 5000000 }) [ref27_put.r17, List.filterMap_cons, e79, e81, e84, e86, e90, e92, he, okV, fV_eq, q5, q1, q2, x2, hc, hw, hmn, ofCells]
    try simp only [set_puts, puts_puts, List.cons_append, List.nil_append, put17]
    try exact puts_ext _ rfl rfl rfl rfl

def mids17 : List (List Nat) := [[1, 3, 8, 9, 10, 12, 14], [1, 3, 12, 8, 9, 10, 14], [1, 3, 12, 14, 8, 9, 10], [1, 3, 14, 8, 9, 10, 12], [1, 3, 14, 12, 8, 9, 10], [1, 8, 3, 9, 10, 12, 14], [1, 12, 3, 8, 9, 10, 14], [1, 12, 3, 14, 8, 9, 10], [1, 12, 8, 3, 9, 10, 14], [1, 12, 14, 3, 8, 9, 10], [1, 12, 14, 8, 3, 9, 10]] ++ [[1, 14, 3, 8, 9, 10, 12], [1, 14, 3, 12, 8, 9, 10], [1, 14, 8, 3, 9, 10, 12], [1, 14, 12, 3, 8, 9, 10], [1, 14, 12, 8, 3, 9, 10], [3, 1, 8, 9, 10, 12, 14], [3, 1, 12, 8, 9, 10, 14], [3, 1, 12, 14, 8, 9, 10], [3, 1, 14, 8, 9, 10, 12], [3, 1, 14, 12, 8, 9, 10], [3, 8, 1, 9, 10, 12, 14]] ++ [[3, 12, 1, 8, 9, 10, 14], [3, 12, 1, 14, 8, 9, 10], [3, 12, 8, 1, 9, 10, 14], [3, 12, 14, 1, 8, 9, 10], [3, 12, 14, 8, 1, 9, 10], [3, 14, 1, 8, 9, 10, 12], [3, 14, 1, 12, 8, 9, 10], [3, 14, 8, 1, 9, 10, 12], [3, 14, 12, 1, 8, 9, 10], [3, 14, 12, 8, 1, 9, 10], [8, 1, 3, 9, 10, 12, 14]] ++ [[12, 1, 3, 8, 9, 10, 14], [12, 1, 3, 14, 8, 9, 10], [12, 1, 8, 3, 9, 10, 14], [12, 1, 14, 3, 8, 9, 10], [12, 1, 14, 8, 3, 9, 10], [12, 3, 1, 8, 9, 10, 14], [12, 3, 1, 14, 8, 9, 10], [12, 3, 8, 1, 9, 10, 14], [12, 3, 14, 1, 8, 9, 10], [12, 3, 14, 8, 1, 9, 10], [12, 8, 1, 3, 9, 10, 14]] ++ [[12, 14, 1, 3, 8, 9, 10], [12, 14, 1, 8, 3, 9, 10], [12, 14, 3, 1, 8, 9, 10], [12, 14, 3, 8, 1, 9, 10], [12, 14, 8, 1, 3, 9, 10], [14, 1, 3, 8, 9, 10, 12], [14, 1, 3, 12, 8, 9, 10], [14, 1, 8, 3, 9, 10, 12], [14, 1, 12, 3, 8, 9, 10], [14, 1, 12, 8, 3, 9, 10], [14, 3, 1, 8, 9, 10, 12]] ++ [[14, 3, 1, 12, 8, 9, 10], [14, 3, 8, 1, 9, 10, 12], [14, 3, 12, 1, 8, 9, 10], [14, 3, 12, 8, 1, 9, 10], [14, 8, 1, 3, 9, 10, 12], [14, 12, 1, 3, 8, 9, 10], [14, 12, 1, 8, 3, 9, 10], [14, 12, 3, 1, 8, 9, 10], [14, 12, 3, 8, 1, 9, 10], [14, 12, 8, 1, 3, 9, 10]]
set_option maxRecDepth 100000 in
theorem put17_orders : orders2 ref27_put.r17 [[], [0], [], [2], [], [4], [], [6], [5, 7], [3, 8], [9], [], [11], [], [13], [10, 12, 14], [15], [1, 16, 8], [0, 1, 2, 3, 4, 5, 6, 7, 8, 9, 10, 11, 12, 13, 14, 15, 16, 17], [18, 17, 17, 0, 1, 2, 3, 4, 5, 6, 7, 8, 9, 10, 11, 12, 13, 14, 15, 16, 17]] ref27_put.r17.length (List.replicate ref27_put.r17.length false) = some (mids17.map fun m => [0, 2, 4, 5, 6, 7, 11, 13] ++ m ++ [15, 16, 17, 18, 19]) := by
  rw [ref27_put.r17.ord]
  rfl
theorem mid17 {H : Heap} {e : List V} {b b1 : Nat} {x : Step} {v9 : V} {clock W D M num : Int} (c : C17 H e b b1 x v9 clock W D M num) :
    ∀ l ∈ mids17, WO (callW Φ) (List.filterMap (ref27_put.r17[·]?) l) { env := e, marks := [], heap := H } (fun r => r = { env := put17 e x v9 clock W D M num, marks := [], heap := H }) := by
  intro l hl
  simp only [mids17, List.mem_append] at hl
  rcases hl with ((((h | h) | h) | h) | h) | h
  · exact mid17_0 c l h
  · exact mid17_1 c l h
  · exact mid17_2 c l h
  · exact mid17_3 c l h
  · exact mid17_4 c l h
  · exact mid17_5 c l h

abbrev putD17 : Cc := fst (snd (snd putT))

set_option maxHeartbeats 16000000 in
set_option maxRecDepth 8000 in
theorem put_draw17 {H : Heap} {v9 v' : V} {clock num : Int} {h2 h2' h3 : Heap} {x : Step} {b b1 : Nat}
    (q5 : cellsAt H (.ptr b 5) = some [v9]) (q1 : ∃ z, cellsAt H (.ptr b 1) = some (.int .i64 clock :: z)) (q2 : ∃ z, cellsAt H (.ptr b 2) = some (.int .i64 num :: z))
    (hx : H[b1]? = some (.cells (cS x))) (hw : IntKind.i64.wrap (clock + waitV x.ms x.level) = clock + waitV x.ms x.level)
    (hbs : evBslice H [.int .i64 0, .int .i64 0, .int .i64 0] 1 3 [(0, .agg [.int .i64 (min (clock + waitV x.ms x.level) 1125899906842624), .int .i64 num, .int .i64 x.id])] = some (.sl H.length 0 0 1, h2))
    (happ : evApp h2 3 24 v9 (.sl H.length 0 0 1) = some (v', h2')) (hst : evStoreV h2' 1 (.ptr b 5) v' = some (V.non, h3))
    {env : List V} (he : env.length = 101) (g2 : eget env 2 = .ptr b 0) (g3 : eget env 3 = .ptr b1 0) :
    WK (callW Φ) none (fun e s' => e = .normal ∧ s'.heap = h3 ∧ s'.marks = [] ∧ s'.env.length = 101 ∧ eget s'.env 2 = .ptr b 0 ∧ eget s'.env 4 = eget env 4)
      [.c putD17] { env := env, marks := [], heap := H } := by
  have x3 := pt_at hx 3
  have x4 := pt_at hx 4
  have x2 := pt_at hx 2
  have hc := wait_spec x.ms x.level H
  have hmn := min_int .i64 (clock + waitV x.ms x.level) 1125899906842624
  have hbd : evBuild H [.int .i64 0, .int .i64 0, .int .i64 0] [(0, 1, .int .i64 (min (clock + waitV x.ms x.level) 1125899906842624)), (1, 1, .int .i64 num), (2, 1, .int .i64 x.id)] = some (.agg [.int .i64 (min (clock + waitV x.ms x.level) 1125899906842624), .int .i64 num, .int .i64 x.id], H) := by
    simp [evBuild, placeParts, V.cells, V.isCell, setRange]
  obtain ⟨W, hW⟩ : ∃ W, W = waitV x.ms x.level := ⟨_, rfl⟩
  rw [← hW] at hw hbs hc hmn hbd
  obtain ⟨D, hD⟩ : ∃ D, D = clock + W := ⟨_, rfl⟩
  rw [← hD] at hbs hmn hbd
  have hw' : IntKind.i64.wrap (clock + W) = D := by rw [hw, hD]
  obtain ⟨M, hM⟩ : ∃ M, M = min D 1125899906842624 := ⟨_, rfl⟩
  rw [← hM] at hbs hmn hbd
  simp only [cS, List.drop_zero, List.drop_succ_cons] at x3 x4 x2
  obtain ⟨e1, he1⟩ : ∃ e1, e1 = puts env [(79, .ptr b 5), (81, .ptr b 1), (83, .ptr b1 3), (84, .int .i64 x.ms), (85, .ptr b1 4), (86, .int .i64 x.level), (90, .ptr b 2), (92, .ptr b1 2)] := ⟨_, rfl⟩
  have c17 : C17 H e1 b b1 x v9 clock W D M num := by
    refine ⟨?_, ?_, ?_, ?_, ?_, ?_, ?_, q5, q1, q2, ⟨_, x2⟩, hc, hw', hmn⟩ <;> rw [he1] <;> simp [puts, he]
  obtain ⟨e2, he2⟩ : ∃ e2, e2 = put17 e1 x v9 clock W D M num := ⟨_, rfl⟩
  have f2 : e2.length = 101 ∧ eget e2 2 = .ptr b 0 ∧ eget e2 4 = eget env 4 ∧ eget e2 80 = v9 ∧ eget e2 89 = .int .i64 M ∧ eget e2 91 = .int .i64 num ∧ eget e2 93 = .int .i64 x.id := by
    rw [he2, he1]
    simp [put17, puts, he, g2]
  obtain ⟨l2, f22, f24, f80, f89, f91, f93⟩ := f2
  have hpre : WO (callW Φ) (List.filterMap (ref27_put.r17[·]?) [0, 2, 4, 5, 6, 7, 11, 13]) { env := env, marks := [], heap := H } (fun r => r = { env := e1, marks := [], heap := H }) := by
    rw [he1]
    simp [ref27_put.r17, List.filterMap_cons, g2, g3, he, okV, fV_eq, faddr_ptr, x3, x4, ofCells, puts]
  have hsuf : ∃ R : St, (R.heap = h3 ∧ R.marks = [] ∧ R.env.length = 101 ∧ eget R.env 2 = .ptr b 0 ∧ eget R.env 4 = eget env 4) ∧ WO (callW Φ) (List.filterMap (ref27_put.r17[·]?) [15, 16, 17, 18, 19]) { env := e2, marks := [], heap := H } (fun r => r = R) := by
    refine ⟨{ env := puts e2 [(94, .agg [.int .i64 M, .int .i64 num, .int .i64 x.id]), (95, .sl H.length 0 0 1), (96, v'), (97, .ptr b 5)], marks := [], heap := h3 }, ?_, ?_⟩
    · simp [puts, l2, f22, f24]
    · simp [ref27_put.r17, List.filterMap_cons, f22, f80, f89, f91, f93, l2, okV, fV_eq, faddr_ptr, hbd, hbs, happ, hst, puts]
  obtain ⟨R, hR, hsuf⟩ := hsuf
  have hmid := mid17 c17
  rw [← he2] at hmid
  simp only [putD17, putT, fst, snd, ref27_put.c]
  refine kDraw3 (R := R) put17_orders (by simp [mids17]) (fun l hl => ?_) ?_
  · obtain ⟨m, hm, rfl⟩ := List.mem_map.1 hl
    simp only [List.filterMap_append]
    exact WO_app (WO_app (WO_eq hpre (WO_eq (hmid m hm) hsuf)))
  · obtain ⟨a1, a2, a3, a4, a5⟩ := hR
    simp [a1, a2, a3, a4, a5]
end Go.Proofs.Lp

namespace Go.Proofs.Lp
open Go Go.Ev
set_option linter.unusedVariables false
set_option linter.unusedSimpArgs false

set_option maxHeartbeats 8000000 in
set_option maxRecDepth 8000 in
/-- The end of put's last way. -/
theorem put_end {P : V → Heap → Prop} {H : Heap} {D : List V} {b b2 : Nat} {given : Int} (hD : D.length = 6) (hDc : D.all V.isCell = true) (hDg : ∃ a c z, D = a :: c :: .int .i64 given :: z) (hb : H[b]? = some (.cells D)) (hz : H[b2]? = some (.cells [.bool false, .int .i64 0, .int .i64 0, .nils, .nils, .nils])) (hne : b ≠ b2)
    (hP : P (.tup [.agg D, .int .i64 given, .int .i64 0]) (H.set b2 (.cells D)))
    {env : List V} (he : env.length = 101) (g2 : eget env 2 = .ptr b 0) (g4 : eget env 4 = .ptr b2 0) :
    WK (callW Φ) none (FinX [.cell 4 (some 6), .tmp 5, .tmp 6] P) [.c (fst (snd (snd (snd putT)))), .c (snd (snd (snd (snd putT))))] { env := env, marks := [], heap := H } := by
  have hDt : List.take 6 D = D := by rw [← hD]; exact List.take_length
  have st := store6 (ds := D) hz (by rw [hD]; rfl) hDc
  rw [hD] at st
  have c0 := pt_at hb 0
  have hl := (List.getElem?_eq_some_iff.1 hz).1
  have cf := pt_at (h := H.set b2 (.cells D)) (a := b2) (cs := D) (List.getElem?_set_self hl) 0
  have hb2 : (H.set b2 (.cells D))[b]? = some (.cells D) := by rw [List.getElem?_set_ne (Ne.symm hne)]; exact hb
  obtain ⟨a, c, z, hz'⟩ := hDg
  have e2 : D.drop 2 = .int .i64 given :: z := by rw [hz']; rfl
  have c2 := pt_at hb 2
  have c2' := pt_at hb2 2
  rw [e2] at c2 c2'
  simp only [List.drop_zero] at c0 cf
  simp only [putT, fst, snd, ref27_put.c]
  refine kDraw2 ref27_put.r18.ord ?_
  simp (config := { maxSteps := 5000000 }) [ref27_put.r18, List.filterMap_cons, g2, g4, he, okV, fV_eq, faddr_ptr, c0, c2, c2', st, cf, hD, hDt, hP, ofCells]
  repeat' apply And.intro
  all_goals
    simp only [set_puts, puts_puts, List.cons_append, List.nil_append]
    exact puts_ext _ rfl rfl rfl rfl

set_option maxHeartbeats 8000000 in
set_option maxRecDepth 8000 in
theorem put_timer {h H : Heap} {oT ep : Nat} {s : LS} {f : Nat → Option Nat} {v : Nat → V} (r : RS H oT ep s f v) (ht : tot s < 2 ^ 40) (hg0 : 0 ≤ s.given) (hg : s.given < 2 ^ 62) (hc0 : 0 ≤ s.clock) (hcm : s.clock ≤ 1125899906842624)
    {x : Step} (k1 : x.kind = 3) (hz : putV s x = 0) {b b1 b2 : Nat} (hb : H[b]? = some (.cells (cellsS oT ep s v))) (hx : H[b1]? = some (.cells (cS x)))
    (hz2 : H[b2]? = some (.cells [.bool false, .int .i64 0, .int .i64 0, .nils, .nils, .nils])) (hbl : h.length ≤ b) (hb1 : b + 1 = b1) (hb2 : b + 2 = b2) (K : Kc h H)
    {env : List V} (he : env.length = 101) (g2 : eget env 2 = .ptr b 0) (g3 : eget env 3 = .ptr b1 0) (g4 : eget env 4 = .ptr b2 0) :
    WK (callW Φ) none (FinX [.cell 4 (some 6), .tmp 5, .tmp 6] (PutP h oT ep s x)) [.c putT] { env := env, marks := [], heap := H } := by
  have b1' : (x.kind == 1) = false := by simp [k1]
  have b2' : (x.kind == 2) = false := by simp [k1]
  have n1 : ¬ x.kind = 1 := by omega
  have n2 : ¬ x.kind = 2 := by omega
  obtain ⟨hcl, hok, h4⟩ := faultV_zero hz
  simp only [putOk, if_neg n1, if_pos k1, afterOk, decide_eq_true_eq] at hok
  obtain ⟨S, hSd⟩ : ∃ S : LS, S = { s with given := s.given + 1, tm := s.tm ++ [afterT s x.ms x.level x.id] } := ⟨_, rfl⟩
  have hS : putS s x = S := by rw [hSd]; simp only [putS, if_pos hz, if_neg n1, if_neg n2]
  have hN : putN s x = s.given + 1 := by
    have : putV s x = 0 ∧ x.kind = 3 := ⟨hz, k1⟩
    simp only [putN, if_pos this]
  obtain ⟨S1, hS1⟩ : ∃ S1 : LS, S1 = { s with given := s.given + 1 } := ⟨_, rfl⟩
  have hw1 : IntKind.i64.wrap (s.given + 1) = s.given + 1 := by rw [Ev.wrap64] <;> omega
  have hwv : 0 ≤ waitV x.ms x.level ∧ waitV x.ms x.level ≤ 1125899906842624 := by unfold waitV; split <;> omega
  have hw2 : IntKind.i64.wrap (s.clock + waitV x.ms x.level) = s.clock + waitV x.ms x.level := by rw [Ev.wrap64] <;> omega
  have x0 := pt_at hx 0
  have q2 := pt_at hb 2
  have hlb := (List.getElem?_eq_some_iff.1 hb).1
  have st1 := store_cell (off := 2) (x := .int .i64 (s.given + 1)) hb (by simp [cellsS]) rfl rfl
  have ec1 : (cellsS oT ep s v).set 2 (.int .i64 (s.given + 1)) = cellsS oT ep S1 v := by rw [hS1]; rfl
  rw [ec1] at st1
  have r1' := r.set (cs' := cellsS oT ep S1 v) hb
  obtain ⟨H1, hH1⟩ : ∃ H1, H1 = H.set b (.cells (cellsS oT ep S1 v)) := ⟨_, rfl⟩
  rw [← hH1] at st1 r1'
  have kb1 : H1[b]? = some (.cells (cellsS oT ep S1 v)) := by rw [hH1, List.getElem?_set_self hlb]
  have kx1 : H1[b1]? = some (.cells (cS x)) := by rw [hH1, List.getElem?_set_ne (by omega)]; exact hx
  have kz1 : H1[b2]? = some (.cells [.bool false, .int .i64 0, .int .i64 0, .nils, .nils, .nils]) := by rw [hH1, List.getElem?_set_ne (by omega)]; exact hz2
  have K1 : Kc h H1 := by rw [hH1]; exact K.set hbl _
  obtain ⟨v', f', h2, a1, i1, i2, r2, K2⟩ := r1'.app (i := 9) (.inr rfl) (s' := S) (e := cR (afterT s x.ms x.level x.id)) (by intro e he; simp at he; subst he; exact ⟨rfl, rfl, rfl⟩) (by_ := 24)
    (by simp [cont2]; unfold roomB; unfold tot at ht; omega) (by rw [hSd]; simp [cont2]) (fun k hk hne => by rw [hSd]; simp [cont2, hne])
  have hs9 : szi 9 = 3 := rfl
  rw [hs9] at a1
  have hbs : evBslice H1 [.int .i64 0, .int .i64 0, .int .i64 0] 1 3 [(0, .agg [.int .i64 (min (s.clock + waitV x.ms x.level) 1125899906842624), .int .i64 (s.given + 1), .int .i64 x.id])] = some (.sl H1.length 0 0 1, H1 ++ [Ob.row 3 [cR (afterT s x.ms x.level x.id)] 0 true]) := by
    simp [evBslice, V.cells, V.isCell, okV, fV_eq, fNat_eq, placeParts, setRange, chunks, cR, afterT]
  have kb2 := K2 _ _ kb1
  have kz2 := K2 _ _ kz1
  have hlb2 := (List.getElem?_eq_some_iff.1 kb2).1
  have st2 := store_cell (off := 5) kb2 (by simp [cellsS]) i1 i2
  have ec2 : (cellsS oT ep S1 v).set 5 v' = cellsS oT ep S (upv v 9 v') := by rw [hS1, hSd]; rfl
  rw [ec2] at st2
  have r3 := r2.set (cs' := cellsS oT ep S (upv v 9 v')) kb2
  obtain ⟨H3, hH3⟩ : ∃ H3, H3 = h2.set b (.cells (cellsS oT ep S (upv v 9 v'))) := ⟨_, rfl⟩
  rw [← hH3] at st2 r3
  have kb3 : H3[b]? = some (.cells (cellsS oT ep S (upv v 9 v'))) := by rw [hH3, List.getElem?_set_self hlb2]
  have kz3 : H3[b2]? = some (.cells [.bool false, .int .i64 0, .int .i64 0, .nils, .nils, .nils]) := by rw [hH3, List.getElem?_set_ne (by omega)]; exact kz2
  have K3 : Kc h H3 := by rw [hH3]; exact (K1.trans K2).set hbl _
  have c5 := pt_at kb1 5
  have c1 := pt_at kb1 1
  have c2 := pt_at kb1 2
  have hfin : PutP h oT ep s x (.tup [.agg (cellsS oT ep S (upv v 9 v')), .int .i64 (s.given + 1), .int .i64 0]) (H3.set b2 (.cells (cellsS oT ep S (upv v 9 v')))) :=
    ⟨f', _, by rw [hS, hN, hz], by rw [hS]; exact r3.set kz3, K3.set (by omega) _⟩
  have hdg : ∃ a c z, cellsS oT ep S (upv v 9 v') = a :: c :: .int .i64 (s.given + 1) :: z := ⟨_, _, _, by rw [hSd]; rfl⟩
  have hdc := cellsS_cell r3 S oT ep
  simp only [cS, cellsS, List.drop_zero, List.drop_succ_cons] at x0 q2 c5 c1 c2
  have e1 : S1.clock = s.clock := by rw [hS1]
  have e2 : S1.given = s.given + 1 := by rw [hS1]
  rw [e1] at c1
  rw [e2] at c2
  have rest := fun (e : List V) he g2 g4 => put_end (P := PutP h oT ep s x) rfl hdc hdg kb3 kz3 (by omega) hfin (env := e) he g2 g4
  have dr := fun (e : List V) he g2 g3 => put_draw17 (x := x) c5 ⟨_, c1⟩ ⟨_, c2⟩ kx1 hw2 hbs a1 st2 (env := e) he g2 g3
  simp only [putT, fst, snd, ref27_put.c, putD17] at rest dr ⊢
  simp [ref27_put.r9, ref27_put.r10, ref27_put.r13, ref27_put.r16, g2, g3, g4, he, okV, fV_eq, faddr_ptr, x0, b1', b2', q2, hw1, st1, ofCells]
  refine kNormal (dr _ ?_ ?_ ?_) ?_
  · simp [he]
  · simp [g2]
  · simp [g3]
  rintro ⟨e', mk, H'⟩ ⟨hh, hmk, he', k2, k4⟩
  simp only at hh hmk he' k2 k4
  obtain rfl := hmk
  obtain rfl := hh
  simp [g4] at k4
  simpa only [kSeq] using rest e' he' k2 k4

set_option maxHeartbeats 8000000 in
set_option maxRecDepth 8000 in
theorem put_spec2 {h : Heap} {oT ep : Nat} {s : LS} {f : Nat → Option Nat} {v : Nat → V} (r : RS h oT ep s f v) (ht : tot s < 2 ^ 40) (hg0 : 0 ≤ s.given) (hg : s.given < 2 ^ 62) (hc0 : 0 ≤ s.clock) (hcm : s.clock ≤ 1125899906842624)
    {x : Step} (k1 : x.kind = 1 ∨ x.kind = 2 ∨ x.kind = 3) :
    ∃ f' v' h', callW Φ ref27_put [.agg (cellsS oT ep s v), .agg (cS x)] h = some (.tup [.agg (cellsS oT ep (putS s x) v'), .int .i64 (putN s x), .int .i64 (putV s x)], h') ∧ RS h' oT ep (putS s x) f' v' ∧ Kc h h' := by
  suffices hgo : ∃ y h', callW Φ ref27_put [.agg (cellsS oT ep s v), .agg (cS x)] h = some (y, h') ∧ PutP h oT ep s x y h' by
    obtain ⟨y, h', h1, f', v', rfl, h2⟩ := hgo
    exact ⟨f', v', h', h1, h2⟩
  obtain ⟨b, hb⟩ : ∃ b, b = h.length := ⟨_, rfl⟩
  have hbx1 : evBox h (cellsS oT ep s v) = some (.ptr b 0, h ++ [Ob.cells (cellsS oT ep s v)]) := by
    rw [hb]
    simp [evBox, cellsS_cell r s oT ep]
  obtain ⟨Ha, hHa⟩ : ∃ Ha, Ha = h ++ [Ob.cells (cellsS oT ep s v)] := ⟨_, rfl⟩
  have hla : Ha.length = b + 1 := by rw [hHa, hb]; simp
  have hbx2 : evBox Ha (cS x) = some (.ptr (b + 1) 0, Ha ++ [Ob.cells (cS x)]) := by
    rw [← hla]
    simp [evBox, cS, V.isCell]
  obtain ⟨Hb, hHb⟩ : ∃ Hb, Hb = Ha ++ [Ob.cells (cS x)] := ⟨_, rfl⟩
  have hlb : Hb.length = b + 2 := by rw [hHb]; simp; omega
  obtain ⟨H, hH⟩ : ∃ H, H = Hb ++ [Ob.cells [.bool false, .int .i64 0, .int .i64 0, .nils, .nils, .nils]] := ⟨_, rfl⟩
  have hext : H = h ++ [Ob.cells (cellsS oT ep s v), Ob.cells (cS x), Ob.cells [.bool false, .int .i64 0, .int .i64 0, .nils, .nils, .nils]] := by rw [hH, hHb, hHa]; simp
  have rH : RS H oT ep s f v := by rw [hext]; exact r.ext _
  have kb : H[b]? = some (.cells (cellsS oT ep s v)) := by rw [hext, hb]; simp
  have kx : H[b + 1]? = some (.cells (cS x)) := by rw [hext, hb]; simp
  have kz : H[b + 2]? = some (.cells [.bool false, .int .i64 0, .int .i64 0, .nils, .nils, .nils]) := by rw [hext, hb]; simp
  have KH : Kc h H := by rw [hext]; exact .ext _ _
  rw [← hHa] at hbx1
  rw [← hHb] at hbx2
  refine call_x ref27_put.Φ rfl (Nat.le_of_ble_eq_true rfl) (fun env he g => ?_)
  have g0 := g 0 (by simp)
  have g1 := g 1 (by simp)
  change eget env 0 = .agg (cellsS oT ep s v) at g0
  change eget env 1 = .agg (cS x) at g1
  clear g
  simp [ref27_put.c] at he
  have hcc : (V.agg (cellsS oT ep s v)).cells = cellsS oT ep s v := rfl
  have hcx : (V.agg (cS x)).cells = cS x := rfl
  have good := fun (e : List V) (hz : putV s x = 0) he g2 g3 => put_good rH ht hz kb kx (env := e) he g2 g3
  have bad := fun (e : List V) (hz : putV s x ≠ 0) he g2 g3 g4 => put_bad (k := putT) rH ht hz kb kx kz (by omega) KH (env := e) he g2 g3 g4
  have tail : ∀ (e : List V) (E : Heap), putV s x = 0 → e.length = 101 → eget e 2 = .ptr b 0 → eget e 3 = .ptr (b + 1) 0 → eget e 4 = .ptr (b + 2) 0 →
      WK (callW Φ) none (FinX [.cell 4 (some 6), .tmp 5, .tmp 6] (PutP h oT ep s x)) [.c putT] { env := e, marks := [], heap := H ++ E } := by
    intro e E hz he g2 g3 g4
    have K2 := Kc.ext H E
    rcases k1 with k | k | k
    · exact put_task (rH.ext E) ht k hz (K2 _ _ kb) (K2 _ _ kx) (K2 _ _ kz) (by omega) (KH.trans K2) he g2 g3 g4
    · exact put_micro (rH.ext E) ht k hz (K2 _ _ kb) (K2 _ _ kx) (K2 _ _ kz) (by omega) rfl (KH.trans K2) he g2 g3 g4
    · exact put_timer (rH.ext E) ht hg0 hg hc0 hcm k hz (K2 _ _ kb) (K2 _ _ kx) (K2 _ _ kz) (by omega) rfl rfl (KH.trans K2) he g2 g3 g4
  have main : ∀ e : List V, e.length = 101 → eget e 2 = .ptr b 0 → eget e 3 = .ptr (b + 1) 0 → eget e 4 = .ptr (b + 2) 0 →
      WK (callW Φ) none (FinX [.cell 4 (some 6), .tmp 5, .tmp 6] (PutP h oT ep s x)) [.c putB, .c putT] { env := e, marks := [], heap := H } := by
    intro e he g2 g3 g4
    by_cases hz : putV s x = 0
    · refine kNormal (good e hz he g2 g3) ?_
      rintro ⟨e', mk, H'⟩ ⟨⟨E, hh⟩, hmk, he', k2, k3, k4⟩
      simp only at hh hmk he' k2 k3 k4
      obtain rfl := hmk
      obtain rfl := hh
      exact tail e' E hz he' k2 k3 (k4.trans g4)
    · exact bad e hz he g2 g3 g4
  simp only [putB, putT, fst, snd, ref27_put.c, kSeq, kBlock, kRegion] at main ⊢
  simp [ref27_put.r0, g0, g1, he, okV, fV_eq, hcc, hcx, hbx1, hbx2, hlb, ← hH]
  refine main _ ?_ ?_ ?_ ?_ <;> simp [he]
end Go.Proofs.Lp

namespace Go.Proofs.Lp
open Go Go.Ev
set_option linter.unusedVariables false
set_option linter.unusedSimpArgs false

/-- One timer less, in the heap. -/
theorem RS.cut {h : Heap} {oT ep : Nat} {s : LS} {f : Nat → Option Nat} {v : Nat → V} (r : RS h oT ep s f v) (ht : tot s < 2 ^ 40) {i : Nat} (hi : i < s.tm.length) {S : LS} (hS : S.q = s.q) (hT : S.tm = s.tm.take i ++ s.tm.drop (i + 1)) :
    ∃ va vb v' f' h', sliceL h 3 (v 9) none (some (.int .i64 i)) = some va ∧ sliceL h 3 (v 9) (some (.int .i64 (i + 1))) none = some vb ∧ evApp h 3 24 va vb = some (v', h') ∧ v'.isCell = true ∧ v'.cells = [v'] ∧
      RS h' oT ep S f' (upv v 9 v') ∧ Kc h h' := by
  have hl : s.tm.length < 2 ^ 40 := by unfold tot at ht; omega
  obtain ⟨va, vb, v', h', a1, a2, a3, s', hl', hk⟩ := r.s9.cut (by rw [List.length_map]; exact hl) (i := i) (by rw [List.length_map]; exact hi)
  have hc : cont2 S 9 = (s.tm.map cR).take i ++ (s.tm.map cR).drop (i + 1) := by
    simp [cont2, hT, List.map_append, List.map_take, List.map_drop]
  obtain ⟨r2, K2⟩ := r.upd (i := 9) (by omega) (h' := h') (v' := v') (o' := f 9) (s' := S) (by rw [hk oT (r.ne 9 (by omega)), rowT_same v (.inr rfl)]; exact r.row)
    (by rw [hc]; exact s') (fun k hk hne => by simp [cont2, hne, hS]) (by omega) (fun j hj _ hjf => hk j hjf) (fun id hid => .inl hid)
  exact ⟨va, vb, v', _, h', a1, a2, a3, s'.cell.1, s'.cell.2, r2, K2⟩

set_option maxHeartbeats 8000000 in
set_option maxRecDepth 8000 in
theorem clearOne_spec {h : Heap} {oT ep : Nat} {s : LS} {f : Nat → Option Nat} {v : Nat → V} (r : RS h oT ep s f v) (ht : tot s < 2 ^ 40) (n : Int) :
    ∃ f' v' h', callW Φ ref27_clearOne [.agg (cellsS oT ep s v), .int .i64 n] h = some (.tup [.agg (cellsS oT ep (clearL s n) v'), .int .i64 (if (place n s.tm).isSome then 1 else 0)], h') ∧ RS h' oT ep (clearL s n) f' v' ∧ Kc h h' := by
  obtain ⟨P, hP⟩ : ∃ P : V → Heap → Prop, P = fun y h' => ∃ f' v', y = .tup [.agg (cellsS oT ep (clearL s n) v'), .int .i64 (if (place n s.tm).isSome then 1 else 0)] ∧ RS h' oT ep (clearL s n) f' v' ∧ Kc h h' := ⟨_, rfl⟩
  suffices hgo : ∃ y h', callW Φ ref27_clearOne [.agg (cellsS oT ep s v), .int .i64 n] h = some (y, h') ∧ P y h' by
    obtain ⟨y, h', h1, h2⟩ := hgo
    rw [hP] at h2
    obtain ⟨f', v', rfl, h2⟩ := h2
    exact ⟨f', v', h', h1, h2⟩
  have hl : s.tm.length < 2 ^ 40 := by unfold tot at ht; omega
  obtain ⟨b, hb⟩ : ∃ b, b = h.length := ⟨_, rfl⟩
  have hbx1 : evBox h (cellsS oT ep s v) = some (.ptr b 0, h ++ [Ob.cells (cellsS oT ep s v)]) := by
    rw [hb]
    simp [evBox, cellsS_cell r s oT ep]
  obtain ⟨Ha, hHa⟩ : ∃ Ha, Ha = h ++ [Ob.cells (cellsS oT ep s v)] := ⟨_, rfl⟩
  have hla : Ha.length = b + 1 := by rw [hHa, hb]; simp
  obtain ⟨H, hH⟩ : ∃ H, H = Ha ++ [Ob.cells [.bool false, .int .i64 0, .int .i64 0, .nils, .nils, .nils]] := ⟨_, rfl⟩
  have hext : H = h ++ [Ob.cells (cellsS oT ep s v), Ob.cells [.bool false, .int .i64 0, .int .i64 0, .nils, .nils, .nils]] := by rw [hH, hHa]; simp
  have rH : RS H oT ep s f v := by rw [hext]; exact r.ext _
  have kb : H[b]? = some (.cells (cellsS oT ep s v)) := by rw [hext, hb]; simp
  have kz : H[b + 1]? = some (.cells [.bool false, .int .i64 0, .int .i64 0, .nils, .nils, .nils]) := by rw [hext, hb]; simp
  have KH : Kc h H := by rw [hext]; exact .ext _ _
  rw [← hHa] at hbx1
  have hcc : (V.agg (cellsS oT ep s v)).cells = cellsS oT ep s v := rfl
  have c5 := pt_at kb 5
  have hln := r.rd.r
  -- the end
  have fin : ∀ (Hk : Heap) (D : List V) (m : Int), D.length = 6 → D.all V.isCell = true → Hk[b]? = some (.cells D) → Hk[b + 1]? = some (.cells [.bool false, .int .i64 0, .int .i64 0, .nils, .nils, .nils]) →
      List.take 6 D = D ∧ cellsAt Hk (.ptr b 0) = some D ∧ evStoreV Hk 6 (.ptr (b + 1) 0) (.agg D) = some (V.non, Hk.set (b + 1) (.cells D)) ∧ cellsAt (Hk.set (b + 1) (.cells D)) (.ptr (b + 1) 0) = some D := by
    intro Hk D m hD hDc h1 h2
    have st := store6 (ds := D) h2 (by rw [hD]; rfl) hDc
    rw [hD] at st
    exact ⟨by rw [← hD]; exact List.take_length, pt_at h1 0, st, pt_at (List.getElem?_set_self (List.getElem?_eq_some_iff.1 h2).1) 0⟩
  refine call_x ref27_clearOne.Φ rfl (Nat.le_of_ble_eq_true rfl) (fun env he g => ?_)
  have g0 := g 0 (by simp)
  have g1 := g 1 (by simp)
  change eget env 0 = .agg (cellsS oT ep s v) at g0
  change eget env 1 = .int .i64 n at g1
  clear g
  simp [ref27_clearOne.c] at he
  have c5' : cellsAt H (.ptr b 5) = some [v 9] := by rw [c5]; rfl
  simp [ref27_clearOne.c, ref27_clearOne.r0, ref27_clearOne.r1, g0, g1, he, okV, fV_eq, hcc, hbx1, hla, ← hH, faddr_ptr, c5', hln, ofCells]
  refine kLoop (fun m st => ∃ i : Nat, m = s.tm.length - i ∧ i ≤ s.tm.length ∧ st.env.length = 34 ∧ eget st.env 1 = .int .i64 n ∧ eget st.env 2 = .ptr b 0 ∧ eget st.env 4 = .ptr (b + 1) 0 ∧ eget st.env 9 = v 9 ∧ eget st.env 10 = .int .i64 s.tm.length ∧ eget st.env 11 = .int .i64 i ∧ place n (s.tm.take i) = none ∧ st.marks = [] ∧
      ∃ E, st.heap = H ++ E) s.tm.length ⟨0, by simp [he, g1, place]⟩ ?_
  rintro m ⟨e, mk, hq⟩ ⟨i, rfl, hi, he, k1, k2, k4, k9, k10, k11, hnone, hm, E, hh⟩
  simp only at he k1 k2 k4 k9 k10 k11 hm hh
  obtain rfl := hm
  have rq : RS hq oT ep s f v := by rw [hh]; exact rH.ext _
  have Kq : Kc h hq := by rw [hh]; exact KH.trans (.ext _ _)
  have kbq : hq[b]? = some (.cells (cellsS oT ep s v)) := by rw [hh]; exact Kc.ext _ _ _ _ kb
  have kzq : hq[b + 1]? = some (.cells [.bool false, .int .i64 0, .int .i64 0, .nils, .nils, .nils]) := by rw [hh]; exact Kc.ext _ _ _ _ kz
  by_cases hlt : i < s.tm.length
  · obtain ⟨t, ht'⟩ : ∃ t, s.tm[i]? = some t := ⟨_, List.getElem?_eq_getElem hlt⟩
    obtain ⟨p, a1, a2, p0, a3, a4⟩ := rq.rd.ri [] i t ht'
    rw [List.append_nil] at a1 a2 a4
    have hi1 : (i : Int) < (s.tm.length : Int) := by omega
    have hw1 : IntKind.i64.wrap ((i : Int) + 1) = (i : Int) + 1 := by rw [Ev.wrap64] <;> omega
    obtain ⟨H2, hH2⟩ : ∃ H2 : Heap, H2 = hq ++ [Ob.cells (cR t)] := ⟨_, rfl⟩
    have hst : evStoreV (hq ++ [Ob.cells [.int .i64 0, .int .i64 0, .int .i64 0]]) 3 (.ptr hq.length 0) (.agg (cR t)) = some (V.non, H2) := by
      rw [hH2]; simp [evStoreV, evStore, V.cells, V.isCell, setRange, cR]
    have c1 : cellsAt H2 (.ptr hq.length 1) = some [.int .i64 t.num, .int .i64 t.id] := by rw [hH2]; simp [cellsAt, cR]
    simp only [cR] at hst a2
    by_cases hn : t.num = n
    · have hps := place_step ht' hnone
      rw [if_pos hn] at hps
      have hpl := place_mono hps
      have hnb : (t.num == n) = true := by simpa using hn
      have hC : clearL s n = { s with tm := s.tm.take i ++ s.tm.drop (i + 1) } := by simp only [clearL, hpl]
      obtain ⟨S, hS⟩ : ∃ S, S = clearL s n := ⟨_, rfl⟩
      have r2 : RS H2 oT ep s f v := by rw [hH2]; exact rq.ext _
      have K2 : Kc hq H2 := by rw [hH2]; exact .ext _ _
      obtain ⟨va, vb, v', f', h', b1, b2, b3, i1, i2, r3, K3⟩ := r2.cut ht hlt (S := S) (by rw [hS, hC]) (by rw [hS, hC])
      have kb2 := K2 _ _ kbq
      have kb3 := K3 _ _ kb2
      have kz3 := K3 _ _ (K2 _ _ kzq)
      have st2 := store_cell (off := 5) kb3 (by simp [cellsS]) i1 i2
      have ec : (cellsS oT ep s v).set 5 v' = cellsS oT ep S (upv v 9 v') := by rw [hS, hC]; rfl
      rw [ec] at st2
      have r4 := r3.set (cs' := cellsS oT ep S (upv v 9 v')) kb3
      obtain ⟨H4, hH4⟩ : ∃ H4, H4 = h'.set b (.cells (cellsS oT ep S (upv v 9 v'))) := ⟨_, rfl⟩
      rw [← hH4] at st2 r4
      have kb4 : H4[b]? = some (.cells (cellsS oT ep S (upv v 9 v'))) := by rw [hH4, List.getElem?_set_self (List.getElem?_eq_some_iff.1 kb3).1]
      have kz4 : H4[b + 1]? = some (.cells [.bool false, .int .i64 0, .int .i64 0, .nils, .nils, .nils]) := by rw [hH4, List.getElem?_set_ne (by omega)]; exact kz3
      obtain ⟨e1, e2, e3, e4⟩ := fin H4 _ 1 rfl (cellsS_cell r4 S oT ep) kb4 kz4
      have hfin : P (.tup [.agg (cellsS oT ep S (upv v 9 v')), .int .i64 1]) (H4.set (b + 1) (.cells (cellsS oT ep S (upv v 9 v')))) := by
        rw [hP, ← hS, hpl]
        refine ⟨f', _, rfl, r4.set kz4, Kc.set ?_ (by omega) _⟩
        rw [hH4]
        exact ((Kq.trans K2).trans K3).set (by omega) _
      have c52 : cellsAt H2 (.ptr b 5) = some [v 9] := by rw [pt_at kb2 5]; rfl
      obtain ⟨D, hD⟩ : ∃ D, D = cellsS oT ep S (upv v 9 v') := ⟨_, rfl⟩
      have hDl : D.length = 6 := by rw [hD]; rfl
      rw [← hD] at e1 e2 e3 e4 hfin
      simp [ref27_clearOne.b8, ref27_clearOne.r2, ref27_clearOne.r3, ref27_clearOne.r4, k1, k2, k4, k9, k10, k11, he, okV, fV_eq, hi1, hlt, a1, a2, hst, faddr_ptr, c1, hnb, ofCells]
      refine kDraw1 ref27_clearOne.r5.ord ?_
      simp (config := { maxSteps := 5000000 }) [ref27_clearOne.r5, ref27_clearOne.r6, List.filterMap_cons, k1, k2, k4, k9, k10, k11, he, okV, fV_eq, faddr_ptr, c52, hw1, sliceV, b1, b2, b3, st2, e1, e2, e3, e4, hDl, hfin, ofCells]
    · have hps := place_step ht' hnone
      rw [if_neg hn] at hps
      have hnb : (t.num == n) = false := by simpa using hn
      simp [ref27_clearOne.b8, ref27_clearOne.r2, ref27_clearOne.r3, ref27_clearOne.r4, ref27_clearOne.r7, k1, k2, k4, k9, k10, k11, he, okV, fV_eq, hi1, hlt, a1, a2, hst, faddr_ptr, c1, hnb, hw1, ofCells]
      exact ⟨s.tm.length - (i + 1), by omega, i + 1, rfl, by omega, by omega, hps, _, by rw [hH2, hh, List.append_assoc]⟩
  · have h8 : i = s.tm.length := by omega
    subst h8
    rw [List.take_length] at hnone
    have hC : clearL s n = s := by simp only [clearL, hnone]
    obtain ⟨e1, e2, e3, e4⟩ := fin hq _ 0 rfl (cellsS_cell rq s oT ep) kbq kzq
    have hfin : P (.tup [.agg (cellsS oT ep s v), .int .i64 0]) (hq.set (b + 1) (.cells (cellsS oT ep s v))) := by
      rw [hP, hC, hnone]
      exact ⟨f, v, rfl, rq.set kzq, Kq.set (by omega) _⟩
    obtain ⟨D, hD⟩ : ∃ D, D = cellsS oT ep s v := ⟨_, rfl⟩
    have hDl : D.length = 6 := by rw [hD]; rfl
    rw [← hD] at e1 e2 e3 e4 hfin
    simp [ref27_clearOne.b8, ref27_clearOne.r2, ref27_clearOne.r9, k1, k2, k4, k9, k10, k11, he, okV, fV_eq, e1, e2, e3, e4, hDl, hfin, ofCells]
end Go.Proofs.Lp
