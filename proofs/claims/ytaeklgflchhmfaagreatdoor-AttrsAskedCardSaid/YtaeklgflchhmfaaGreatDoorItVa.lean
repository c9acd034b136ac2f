/- The program's forest: nodes by themselves. Pieces. The program's forest: links. Pieces. No conditions. -/
import Derived.Test.YtaeklgflchhmfaaGreatDoorItS
import Derived.Test.YtaeklgflchhmfaaGreatDoorItU
set_option maxHeartbeats 16000000
set_option maxRecDepth 100000
set_option linter.unusedVariables false
set_option linter.unusedSimpArgs false
set_option linter.unusedSectionVars false
namespace Go.Proofs.It
open Go Go.Ev
theorem okT0 (h : Heap) (t : Tr) : okCells h none (some (cTr t)) = some (.bool t.known, h) := rfl
theorem okT1 (h : Heap) (t : Tr) : okCells h none (some (cTr t).tail) = some (.bool t.data, h) := rfl
theorem okT2 (h : Heap) (t : Tr) : okCells h none (some ((cTr t).drop 2)) = some (.bool t.kids, h) := rfl
theorem okT3 (h : Heap) (t : Tr) : okCells h none (some ((cTr t).drop 3)) = some (.bool t.hung, h) := rfl
theorem pm_r3 {n : Nd} {t : Tr} {H : Heap} (c : ∀ off, cellsAt H (.ptr 0 off) = some ((cN n).drop off)) (d : ∀ off, cellsAt H (.ptr 1 off) = some ((cTr t).drop off)) {env : List V} (he : env.length = 133) (g1 : eget env 1 = .ptr 0 0) (g3 : eget env 3 = .ptr 1 0) (g4 : eget env 4 = .bool (n.kind == 1)) (hl : n.attrs.length < 2 ^ 50) :
  WK (callW Φ) none (fun e s' => e = .normal ∧ s'.env.length = 133 ∧ eget s'.env 1 = .ptr 0 0 ∧ eget s'.env 3 = .ptr 1 0 ∧ eget s'.env 4 = .bool (n.kind == 1) ∧ s'.marks = [] ∧ s'.heap = H ∧ eget s'.env 11 = .bool (!(t.known && namingB n t && attrs n.attrs))) [.c (.region zZp.r3)] { env := env, marks := [], heap := H } := by
 have c0 := c 0
 have d0 := d 0
 simp only [List.drop_zero] at c0 d0
 have hn := fun H => jZF n t H
 have ha := fun H => wZP n.attrs hl H
 have hk1 : ∀ H, okCells H (some 16) (some (cN n)) = some (eN n, H) := fun H => okN H n
 have hk2 : ∀ H, okCells H (some 6) (some (cTr t)) = some (.agg (cTr t), H) := fun H => rfl
 simp only [eAs, eN] at ha hn hk1 hk2
 by_cases q0 : t.known = true
 ·by_cases q1 : namingB n t = true
  ·by_cases q2 : attrs n.attrs = true
   ·simp (config := { maxSteps := 5000000 }) [zZp.r3, he, g1, g3, g4, c, d, c0, d0, evPick, faddrP, okT0, okT1, okT2, okT3, hn, ha, hk1, hk2, q0, q1, q2]
   have q2a : attrs n.attrs = false := by simp [q2]
   simp (config := { maxSteps := 5000000 }) [zZp.r3, he, g1, g3, g4, c, d, c0, d0, evPick, faddrP, okT0, okT1, okT2, okT3, hn, ha, hk1, hk2, q0, q1, q2, q2a]
  have q1a : namingB n t = false := by simp [q1]
  simp (config := { maxSteps := 5000000 }) [zZp.r3, he, g1, g3, g4, c, d, c0, d0, evPick, faddrP, okT0, okT1, okT2, okT3, hn, ha, hk1, hk2, q0, q1, q1a]
 have q0a : t.known = false := by simp [q0]
 simp (config := { maxSteps := 5000000 }) [zZp.r3, he, g1, g3, g4, c, d, c0, d0, evPick, faddrP, okT0, okT1, okT2, okT3, hn, ha, hk1, hk2, q0, q0a]
theorem pm_r5b {n : Nd} {t : Tr} {H : Heap} (c : ∀ off, cellsAt H (.ptr 0 off) = some ((cN n).drop off)) (d : ∀ off, cellsAt H (.ptr 1 off) = some ((cTr t).drop off)) {env : List V} (he : env.length = 133) (g1 : eget env 1 = .ptr 0 0) (g3 : eget env 3 = .ptr 1 0) (g4 : eget env 4 = .bool (n.kind == 1)) {b : Bool} (gx : eget env 33 = .bool b) :
  WK (callW Φ) none (fun e s' => e = .normal ∧ s'.env.length = 133 ∧ eget s'.env 1 = .ptr 0 0 ∧ eget s'.env 3 = .ptr 1 0 ∧ eget s'.env 4 = .bool (n.kind == 1) ∧ s'.marks = [] ∧ s'.heap = H ∧ eget s'.env 27 = .bool (!(b && (n.kind == 10 || (beqS n.pub ⟨#[]⟩ && beqS n.sys ⟨#[]⟩))))) [.o (List.drop 6 zZp.r5)] { env := env, marks := [], heap := H } := by
 have c0 := c 0
 have d0 := d 0
 simp only [List.drop_zero] at c0 d0
 by_cases q0 : b = true
 ·by_cases q1 : (n.kind == 10) = true
  ·have q1a : (n.kind != 10) = false := by simp at q1; simp [q1]
   have q1b : n.kind = 10 := by simp at q1; simp [q1]
   simp (config := { maxSteps := 5000000 }) [zZp.r5, he, g1, g3, g4, c, d, c0, d0, evPick, faddrP, okT0, okT1, okT2, okT3, gx, q0, q1, q1a, q1b]
  have q1a : (n.kind == 10) = false := by simp [q1]
  have q1b : (n.kind != 10) = true := by simp at q1; simp [q1]
  have q1c : ¬ n.kind = 10 := by simp at q1; simp [q1]
  by_cases q5 : beqS n.pub ⟨#[]⟩ = true
  ·by_cases q6 : beqS n.sys ⟨#[]⟩ = true
   ·simp (config := { maxSteps := 5000000 }) [zZp.r5, he, g1, g3, g4, c, d, c0, d0, evPick, faddrP, okT0, okT1, okT2, okT3, gx, q0, q1, q1a, q1b, q1c, q5, q6]
   have q6a : beqS n.sys ⟨#[]⟩ = false := by simp [q6]
   simp (config := { maxSteps := 5000000 }) [zZp.r5, he, g1, g3, g4, c, d, c0, d0, evPick, faddrP, okT0, okT1, okT2, okT3, gx, q0, q1, q1a, q1b, q1c, q5, q6, q6a]
  have q5a : beqS n.pub ⟨#[]⟩ = false := by simp [q5]
  simp (config := { maxSteps := 5000000 }) [zZp.r5, he, g1, g3, g4, c, d, c0, d0, evPick, faddrP, okT0, okT1, okT2, okT3, gx, q0, q1, q1a, q1b, q1c, q5, q5a]
 have q0a : b = false := by simp [q0]
 simp (config := { maxSteps := 5000000 }) [zZp.r5, he, g1, g3, g4, c, d, c0, d0, evPick, faddrP, okT0, okT1, okT2, okT3, gx, q0, q0a]
theorem pm_r7 {n : Nd} {t : Tr} {H : Heap} (c : ∀ off, cellsAt H (.ptr 0 off) = some ((cN n).drop off)) (d : ∀ off, cellsAt H (.ptr 1 off) = some ((cTr t).drop off)) {env : List V} (he : env.length = 133) (g1 : eget env 1 = .ptr 0 0) (g3 : eget env 3 = .ptr 1 0) (g4 : eget env 4 = .bool (n.kind == 1)) :
  WK (callW Φ) none (fun e s' => e = .normal ∧ s'.env.length = 133 ∧ eget s'.env 1 = .ptr 0 0 ∧ eget s'.env 3 = .ptr 1 0 ∧ eget s'.env 4 = .bool (n.kind == 1) ∧ s'.marks = [] ∧ s'.heap = H ∧ eget s'.env 50 = .bool (!(decide (n.data.length ≤ 16384) && (t.data || n.data.length == 0) && (t.kids || n.kids.length == 0)))) [.c (.region zZp.r7)] { env := env, marks := [], heap := H } := by
 have c0 := c 0
 have d0 := d 0
 simp only [List.drop_zero] at c0 d0
 by_cases q0 : 16384 < n.data.length
 ·have q0a : (16384 : Int) < (n.data.length : Int) := by omega
  have q0b : ¬ n.data.length ≤ 16384 := by omega
  simp (config := { maxSteps := 5000000 }) [zZp.r7, he, g1, g3, g4, c, d, c0, d0, evPick, faddrP, okT0, okT1, okT2, okT3, q0, q0a, q0b]
 have q0a : ¬ (16384 : Int) < (n.data.length : Int) := by omega
 have q0b : n.data.length ≤ 16384 := by omega
 by_cases q3 : t.data = true
 ·by_cases q4 : t.kids = true
  ·simp (config := { maxSteps := 5000000 }) [zZp.r7, he, g1, g3, g4, c, d, c0, d0, evPick, faddrP, okT0, okT1, okT2, okT3, q0, q0a, q0b, q3, q4]
  have q4a : t.kids = false := by simp [q4]
  by_cases q6 : 0 < n.kids.length
  ·have q6a : (0 : Int) < (n.kids.length : Int) := by omega
   have q6b : ¬ n.kids = [] := by intro z; rw [z] at q6; simp at q6
   simp (config := { maxSteps := 5000000 }) [zZp.r7, he, g1, g3, g4, c, d, c0, d0, evPick, faddrP, okT0, okT1, okT2, okT3, q0, q0a, q0b, q3, q4, q4a, q6, q6a, q6b]
  have q6a : ¬ (0 : Int) < (n.kids.length : Int) := by omega
  have q6b : n.kids.length = 0 := by omega
  have q6c : n.kids = [] := by simp at q6; simp [q6]
  simp (config := { maxSteps := 5000000 }) [zZp.r7, he, g1, g3, g4, c, d, c0, d0, evPick, faddrP, okT0, okT1, okT2, okT3, q0, q0a, q0b, q3, q4, q4a, q6, q6a, q6b, q6c]
 have q3a : t.data = false := by simp [q3]
 by_cases q5 : 0 < n.data.length
 ·have q5a : (0 : Int) < (n.data.length : Int) := by omega
  have q5b : ¬ n.data = [] := by intro z; rw [z] at q5; simp at q5
  simp (config := { maxSteps := 5000000 }) [zZp.r7, he, g1, g3, g4, c, d, c0, d0, evPick, faddrP, okT0, okT1, okT2, okT3, q0, q0a, q0b, q3, q3a, q5, q5a, q5b]
 have q5a : ¬ (0 : Int) < (n.data.length : Int) := by omega
 have q5b : n.data.length = 0 := by omega
 have q5c : n.data = [] := by simp at q5; simp [q5]
 by_cases q9 : t.kids = true
 ·simp (config := { maxSteps := 5000000 }) [zZp.r7, he, g1, g3, g4, c, d, c0, d0, evPick, faddrP, okT0, okT1, okT2, okT3, q0, q0a, q0b, q3, q3a, q5, q5a, q5b, q5c, q9]
 have q9a : t.kids = false := by simp [q9]
 by_cases q11 : 0 < n.kids.length
 ·have q11a : (0 : Int) < (n.kids.length : Int) := by omega
  have q11b : ¬ n.kids = [] := by intro z; rw [z] at q11; simp at q11
  simp (config := { maxSteps := 5000000 }) [zZp.r7, he, g1, g3, g4, c, d, c0, d0, evPick, faddrP, okT0, okT1, okT2, okT3, q0, q0a, q0b, q3, q3a, q5, q5a, q5b, q5c, q9, q9a, q11, q11a, q11b]
 have q11a : ¬ (0 : Int) < (n.kids.length : Int) := by omega
 have q11b : n.kids.length = 0 := by omega
 have q11c : n.kids = [] := by simp at q11; simp [q11]
 simp (config := { maxSteps := 5000000 }) [zZp.r7, he, g1, g3, g4, c, d, c0, d0, evPick, faddrP, okT0, okT1, okT2, okT3, q0, q0a, q0b, q3, q3a, q5, q5a, q5b, q5c, q9, q9a, q11, q11a, q11b, q11c]
theorem pm_r9 {n : Nd} {t : Tr} {H : Heap} (c : ∀ off, cellsAt H (.ptr 0 off) = some ((cN n).drop off)) (d : ∀ off, cellsAt H (.ptr 1 off) = some ((cTr t).drop off)) {env : List V} (he : env.length = 133) (g1 : eget env 1 = .ptr 0 0) (g3 : eget env 3 = .ptr 1 0) (g4 : eget env 4 = .bool (n.kind == 1)) :
  WK (callW Φ) none (fun e s' => e = .normal ∧ s'.env.length = 133 ∧ eget s'.env 1 = .ptr 0 0 ∧ eget s'.env 3 = .ptr 1 0 ∧ eget s'.env 4 = .bool (n.kind == 1) ∧ s'.marks = [] ∧ s'.heap = H ∧ eget s'.env 77 = .bool (!mdC n)) [.c (.region zZp.r9)] { env := env, marks := [], heap := H } := by
 have c0 := c 0
 have d0 := d 0
 simp only [List.drop_zero] at c0 d0
 by_cases q0 : (n.kind == 1) = true
 ·have q0a : (n.kind != 1) = false := by simp at q0; simp [q0]
  have q0b : n.kind = 1 := by simp at q0; simp [q0]
  by_cases q3 : (n.kind == 9) = true
  ·have q3a : (n.kind != 9) = false := by simp at q3; simp [q3]
   have q3b : n.kind = 9 := by simp at q3; simp [q3]
   simp (config := { maxSteps := 5000000 }) [zZp.r9, he, g1, g3, g4, c, d, c0, d0, evPick, faddrP, okT0, okT1, okT2, okT3, mdC, q0, q0a, q0b, q3, q3a, q3b]
  have q3a : (n.kind == 9) = false := by simp [q3]
  have q3b : (n.kind != 9) = true := by simp; omega
  have q3c : ¬ n.kind = 9 := by omega
  by_cases q7 : n.html = true
  ·simp (config := { maxSteps := 5000000 }) [zZp.r9, he, g1, g3, g4, c, d, c0, d0, evPick, faddrP, okT0, okT1, okT2, okT3, mdC, q0, q0a, q0b, q3, q3a, q3b, q3c, q7]
  have q7a : n.html = false := by simp [q7]
  simp (config := { maxSteps := 5000000 }) [zZp.r9, he, g1, g3, g4, c, d, c0, d0, evPick, faddrP, okT0, okT1, okT2, okT3, mdC, q0, q0a, q0b, q3, q3a, q3b, q3c, q7, q7a]
 have q0a : (n.kind == 1) = false := by simp [q0]
 have q0b : (n.kind != 1) = true := by simp at q0; simp [q0]
 have q0c : ¬ n.kind = 1 := by simp at q0; simp [q0]
 by_cases q4 : 0 < n.attrs.length
 ·have q4a : (0 : Int) < (n.attrs.length : Int) := by omega
  have q4b : ¬ n.attrs = [] := by intro z; rw [z] at q4; simp at q4
  simp (config := { maxSteps := 5000000 }) [zZp.r9, he, g1, g3, g4, c, d, c0, d0, evPick, faddrP, okT0, okT1, okT2, okT3, mdC, q0, q0a, q0b, q0c, q4, q4a, q4b]
 have q4a : ¬ (0 : Int) < (n.attrs.length : Int) := by omega
 have q4b : n.attrs.length = 0 := by omega
 have q4c : n.attrs = [] := by simp at q4; simp [q4]
 by_cases q8 : (n.shadow == 0) = true
 ·have q8a : (n.shadow != 0) = false := by simp at q8; simp [q8]
  have q8b : n.shadow = 0 := by simp at q8; simp [q8]
  by_cases q11 : (n.kind == 9) = true
  ·have q11a : (n.kind != 9) = false := by simp at q11; simp [q11]
   have q11b : n.kind = 9 := by simp at q11; simp [q11]
   simp (config := { maxSteps := 5000000 }) [zZp.r9, he, g1, g3, g4, c, d, c0, d0, evPick, faddrP, okT0, okT1, okT2, okT3, mdC, q0, q0a, q0b, q0c, q4, q4a, q4b, q4c, q8, q8a, q8b, q11, q11a, q11b]
  have q11a : (n.kind == 9) = false := by simp [q11]
  have q11b : (n.kind != 9) = true := by simp at q11; simp [q11]
  have q11c : ¬ n.kind = 9 := by simp at q11; simp [q11]
  by_cases q15 : n.html = true
  ·simp (config := { maxSteps := 5000000 }) [zZp.r9, he, g1, g3, g4, c, d, c0, d0, evPick, faddrP, okT0, okT1, okT2, okT3, mdC, q0, q0a, q0b, q0c, q4, q4a, q4b, q4c, q8, q8a, q8b, q11, q11a, q11b, q11c, q15]
  have q15a : n.html = false := by simp [q15]
  simp (config := { maxSteps := 5000000 }) [zZp.r9, he, g1, g3, g4, c, d, c0, d0, evPick, faddrP, okT0, okT1, okT2, okT3, mdC, q0, q0a, q0b, q0c, q4, q4a, q4b, q4c, q8, q8a, q8b, q11, q11a, q11b, q11c, q15, q15a]
 have q8a : (n.shadow == 0) = false := by simp [q8]
 have q8b : (n.shadow != 0) = true := by simp at q8; simp [q8]
 have q8c : ¬ n.shadow = 0 := by simp at q8; simp [q8]
 simp (config := { maxSteps := 5000000 }) [zZp.r9, he, g1, g3, g4, c, d, c0, d0, evPick, faddrP, okT0, okT1, okT2, okT3, mdC, q0, q0a, q0b, q0c, q4, q4a, q4b, q4c, q8, q8a, q8b, q8c]
theorem pm_r11 {n : Nd} {t : Tr} {H : Heap} (c : ∀ off, cellsAt H (.ptr 0 off) = some ((cN n).drop off)) (d : ∀ off, cellsAt H (.ptr 1 off) = some ((cTr t).drop off)) {env : List V} (he : env.length = 133) (g1 : eget env 1 = .ptr 0 0) (g3 : eget env 3 = .ptr 1 0) (g4 : eget env 4 = .bool (n.kind == 1)) :
  WK (callW Φ) none (fun e s' => e = .normal ∧ s'.env.length = 133 ∧ eget s'.env 1 = .ptr 0 0 ∧ eget s'.env 3 = .ptr 1 0 ∧ eget s'.env 4 = .bool (n.kind == 1) ∧ s'.marks = [] ∧ s'.heap = H ∧ eget s'.env 100 = .bool (!(t.hung || n.parent == 0))) [.c (.region zZp.r11)] { env := env, marks := [], heap := H } := by
 have c0 := c 0
 have d0 := d 0
 simp only [List.drop_zero] at c0 d0
 by_cases q0 : t.hung = true
 ·simp (config := { maxSteps := 5000000 }) [zZp.r11, he, g1, g3, g4, c, d, c0, d0, evPick, faddrP, okT0, okT1, okT2, okT3, q0]
 have q0a : t.hung = false := by simp [q0]
 by_cases q2 : (n.parent == 0) = true
 ·have q2a : (n.parent != 0) = false := by simp at q2; simp [q2]
  have q2b : n.parent = 0 := by simp at q2; simp [q2]
  simp (config := { maxSteps := 5000000 }) [zZp.r11, he, g1, g3, g4, c, d, c0, d0, evPick, faddrP, okT0, okT1, okT2, okT3, q0, q0a, q2, q2a, q2b]
 have q2a : (n.parent == 0) = false := by simp [q2]
 have q2b : (n.parent != 0) = true := by simp at q2; simp [q2]
 have q2c : ¬ n.parent = 0 := by simp at q2; simp [q2]
 simp (config := { maxSteps := 5000000 }) [zZp.r11, he, g1, g3, g4, c, d, c0, d0, evPick, faddrP, okT0, okT1, okT2, okT3, q0, q0a, q2, q2a, q2b, q2c]
theorem pm_r14 {n : Nd} {t : Tr} {H : Heap} (c : ∀ off, cellsAt H (.ptr 0 off) = some ((cN n).drop off)) (d : ∀ off, cellsAt H (.ptr 1 off) = some ((cTr t).drop off)) {env : List V} (he : env.length = 133) (g1 : eget env 1 = .ptr 0 0) (g3 : eget env 3 = .ptr 1 0) (g4 : eget env 4 = .bool (n.kind == 1)) :
  WK (callW Φ) none (fun e s' => e = .normal ∧ s'.env.length = 133 ∧ eget s'.env 1 = .ptr 0 0 ∧ eget s'.env 3 = .ptr 1 0 ∧ eget s'.env 4 = .bool (n.kind == 1) ∧ s'.marks = [] ∧ s'.heap = H ∧ eget s'.env 2 = .bool (n.mode == 1 || n.mode == 2)) [.c (.region zZp.r14)] { env := env, marks := [], heap := H } := by
 have c0 := c 0
 have d0 := d 0
 simp only [List.drop_zero] at c0 d0
 by_cases q0 : (n.mode == 1) = true
 ·have q0a : (n.mode != 1) = false := by simp at q0; simp [q0]
  have q0b : n.mode = 1 := by simp at q0; simp [q0]
  simp (config := { maxSteps := 5000000 }) [zZp.r14, he, g1, g3, g4, c, d, c0, d0, evPick, faddrP, okT0, okT1, okT2, okT3, q0, q0a, q0b]
 have q0a : (n.mode == 1) = false := by simp [q0]
 have q0b : (n.mode != 1) = true := by simp at q0; simp [q0]
 have q0c : ¬ n.mode = 1 := by simp at q0; simp [q0]
 by_cases q4 : (n.mode == 2) = true
 ·have q4a : (n.mode != 2) = false := by simp at q4; simp [q4]
  have q4b : n.mode = 2 := by simp at q4; simp [q4]
  simp (config := { maxSteps := 5000000 }) [zZp.r14, he, g1, g3, g4, c, d, c0, d0, evPick, faddrP, okT0, okT1, okT2, okT3, q0, q0a, q0b, q0c, q4, q4a, q4b]
 have q4a : (n.mode == 2) = false := by simp [q4]
 have q4b : (n.mode != 2) = true := by simp at q4; simp [q4]
 have q4c : ¬ n.mode = 2 := by simp at q4; simp [q4]
 simp (config := { maxSteps := 5000000 }) [zZp.r14, he, g1, g3, g4, c, d, c0, d0, evPick, faddrP, okT0, okT1, okT2, okT3, q0, q0a, q0b, q0c, q4, q4a, q4b, q4c]
theorem pm_r15 {n : Nd} {t : Tr} {H : Heap} (c : ∀ off, cellsAt H (.ptr 0 off) = some ((cN n).drop off)) (d : ∀ off, cellsAt H (.ptr 1 off) = some ((cTr t).drop off)) {env : List V} (he : env.length = 133) (g1 : eget env 1 = .ptr 0 0) (g3 : eget env 3 = .ptr 1 0) (g4 : eget env 4 = .bool (n.kind == 1)) :
  WK (callW Φ) none (fun e s' => e = .normal ∧ s'.env.length = 133 ∧ eget s'.env 1 = .ptr 0 0 ∧ eget s'.env 3 = .ptr 1 0 ∧ eget s'.env 4 = .bool (n.kind == 1) ∧ s'.marks = [] ∧ s'.heap = H ∧ eget s'.env 2 = .bool (n.mode == 0 && !n.manual && n.host == 0)) [.c (.region zZp.r15)] { env := env, marks := [], heap := H } := by
 have c0 := c 0
 have d0 := d 0
 simp only [List.drop_zero] at c0 d0
 by_cases q0 : (n.mode == 0) = true
 ·have q0a : (n.mode != 0) = false := by simp at q0; simp [q0]
  have q0b : n.mode = 0 := by simp at q0; simp [q0]
  by_cases q3 : n.manual = true
  ·simp (config := { maxSteps := 5000000 }) [zZp.r15, he, g1, g3, g4, c, d, c0, d0, evPick, faddrP, okT0, okT1, okT2, okT3, q0, q0a, q0b, q3]
  have q3a : n.manual = false := by simp [q3]
  by_cases q5 : (n.host == 0) = true
  ·have q5a : (n.host != 0) = false := by simp at q5; simp [q5]
   have q5b : n.host = 0 := by simp at q5; simp [q5]
   simp (config := { maxSteps := 5000000 }) [zZp.r15, he, g1, g3, g4, c, d, c0, d0, evPick, faddrP, okT0, okT1, okT2, okT3, q0, q0a, q0b, q3, q3a, q5, q5a, q5b]
  have q5a : (n.host == 0) = false := by simp [q5]
  have q5b : (n.host != 0) = true := by simp at q5; simp [q5]
  have q5c : ¬ n.host = 0 := by simp at q5; simp [q5]
  simp (config := { maxSteps := 5000000 }) [zZp.r15, he, g1, g3, g4, c, d, c0, d0, evPick, faddrP, okT0, okT1, okT2, okT3, q0, q0a, q0b, q3, q3a, q5, q5a, q5b, q5c]
 have q0a : (n.mode == 0) = false := by simp [q0]
 have q0b : (n.mode != 0) = true := by simp at q0; simp [q0]
 have q0c : ¬ n.mode = 0 := by simp at q0; simp [q0]
 simp (config := { maxSteps := 5000000 }) [zZp.r15, he, g1, g3, g4, c, d, c0, d0, evPick, faddrP, okT0, okT1, okT2, okT3, q0, q0a, q0b, q0c]
open Go Go.Ev
theorem pl_r4 {f : List Nd} (hf : f.length < 2 ^ 50) {h : Int} {n : Nd} (hk : n.kids.length < 2 ^ 50) {H : Heap} (c0 : cellsAt H (.ptr 0 0) = some [.arr (f.map cN)]) (c : ∀ off, cellsAt H (.ptr 1 off) = some ((cN n).drop off)) {env : List V} (he : env.length = 110) (g1 : eget env 1 = .int .i64 h) (g2 : eget env 2 = .ptr 0 0) (g5 : eget env 5 = .ptr 1 0) {m : Nd} (hm : m.kids.length < 2 ^ 50) {p : Nat} {b : Bool} (d : b = true → ∀ off, cellsAt H (.ptr p off) = some ((cN m).drop off)) (g10 : eget env 6 = .ptr p 0) (g11 : eget env 7 = .bool b) :
  WK (callW Φ) none (fun e s' => e = .normal ∧ s'.env.length = 110 ∧ eget s'.env 1 = .int .i64 h ∧ eget s'.env 2 = .ptr 0 0 ∧ eget s'.env 5 = .ptr 1 0 ∧ s'.marks = [] ∧ s'.heap = H ∧ eget s'.env 36 = .bool (!(b && cnt m.kids h == 1))) [.c (.region zZo.r4)] { env := env, marks := [], heap := H } := by
 have cz := c 0
 simp only [List.drop_zero] at cz
 have hc := fun H => kZw m.kids h hm H
 simp only [eI] at hc
 by_cases q0 : b = true
 ·have d := d q0
  have dz := d 0
  simp only [List.drop_zero] at dz
  by_cases q1 : (cnt m.kids h == 1) = true
  ·simp (config := { maxSteps := 5000000 }) [zZo.r4, he, g1, g2, g5, c0, c, cz, evPick, faddrP, d, dz, g10, g11, hc, q0, q1]
  have q1a : (cnt m.kids h == 1) = false := by simp [q1]
  simp (config := { maxSteps := 5000000 }) [zZo.r4, he, g1, g2, g5, c0, c, cz, evPick, faddrP, d, dz, g10, g11, hc, q0, q1, q1a]
 have q0a : b = false := by simp [q0]
 simp (config := { maxSteps := 5000000 }) [zZo.r4, he, g1, g2, g5, c0, c, cz, evPick, faddrP, g10, g11, hc, q0, q0a]
theorem xZR {H : Heap} {i off : Nat} {cs : List V} (E : Heap) (h : cellsAt H (.ptr i off) = some cs) : cellsAt (H ++ E) (.ptr i off) = some cs := by
 simp only [cellsAt] at h ⊢
 cases hi : H[i]? with
 | none => rw [hi] at h; cases h
 | some o => rw [kept hi E]; rw [hi] at h; exact h
theorem pl_r6 {f : List Nd} (hf : f.length < 2 ^ 50) {h : Int} {n : Nd} (hk : n.kids.length < 2 ^ 50) {H : Heap} (c0 : cellsAt H (.ptr 0 0) = some [.arr (f.map cN)]) (c : ∀ off, cellsAt H (.ptr 1 off) = some ((cN n).drop off)) {env : List V} (he : env.length = 110) (g1 : eget env 1 = .int .i64 h) (g2 : eget env 2 = .ptr 0 0) (g5 : eget env 5 = .ptr 1 0) :
  WK (callW Φ) none (fun e s' => e = .normal ∧ s'.env.length = 110 ∧ eget s'.env 1 = .int .i64 h ∧ eget s'.env 2 = .ptr 0 0 ∧ eget s'.env 5 = .ptr 1 0 ∧ s'.marks = [] ∧ (∃ E, s'.heap = H ++ E) ∧ eget s'.env 52 = .bool (!(kindOf f n.doc == 9 && (n.kind != 9 || n.doc == h)))) [.c (.region zZo.r6)] { env := env, marks := [], heap := H } := by
 have cz := c 0
 simp only [List.drop_zero] at cz
 obtain ⟨E, hK⟩ := jZd f n.doc hf H
 simp only [eF] at hK
 have c' := fun off => xZR E (c off)
 have cz' := xZR E cz
 by_cases q0 : ((kindOf f n.doc) == 9) = true
 ·have q0a : ((kindOf f n.doc) != 9) = false := by simp at q0; simp [q0]
  have q0b : (kindOf f n.doc) = 9 := by simp at q0; simp [q0]
  by_cases q3 : (n.kind == 9) = true
  ·have q3a : (n.kind != 9) = false := by simp at q3; simp [q3]
   have q3b : n.kind = 9 := by simp at q3; simp [q3]
   by_cases q6 : (n.doc == h) = true
   ·have q6a : (n.doc != h) = false := by simp at q6; simp [q6]
    simp (config := { maxSteps := 5000000 }) [zZo.r6, he, g1, g2, g5, c0, c, cz, evPick, faddrP, hK, c', cz', q0, q0a, q0b, q3, q3a, q3b, q6, q6a]
   have q6a : (n.doc == h) = false := by simp [q6]
   have q6b : (n.doc != h) = true := by simp at q6; simp [q6]
   simp (config := { maxSteps := 5000000 }) [zZo.r6, he, g1, g2, g5, c0, c, cz, evPick, faddrP, hK, c', cz', q0, q0a, q0b, q3, q3a, q3b, q6, q6a, q6b]
  have q3a : (n.kind == 9) = false := by simp [q3]
  have q3b : (n.kind != 9) = true := by simp at q3; simp [q3]
  have q3c : ¬ n.kind = 9 := by simp at q3; simp [q3]
  simp (config := { maxSteps := 5000000 }) [zZo.r6, he, g1, g2, g5, c0, c, cz, evPick, faddrP, hK, c', cz', q0, q0a, q0b, q3, q3a, q3b, q3c]
 have q0a : ((kindOf f n.doc) == 9) = false := by simp [q0]
 have q0b : ((kindOf f n.doc) != 9) = true := by simp at q0; simp [q0]
 have q0c : ¬ (kindOf f n.doc) = 9 := by simp at q0; simp [q0]
 simp (config := { maxSteps := 5000000 }) [zZo.r6, he, g1, g2, g5, c0, c, cz, evPick, faddrP, hK, c', cz', q0, q0a, q0b, q0c]
theorem pl_r10 {f : List Nd} (hf : f.length < 2 ^ 50) {h : Int} {n : Nd} (hk : n.kids.length < 2 ^ 50) {H : Heap} (c0 : cellsAt H (.ptr 0 0) = some [.arr (f.map cN)]) (c : ∀ off, cellsAt H (.ptr 1 off) = some ((cN n).drop off)) {env : List V} (he : env.length = 110) (g1 : eget env 1 = .int .i64 h) (g2 : eget env 2 = .ptr 0 0) (g5 : eget env 5 = .ptr 1 0) {m : Nd} (hm : m.kids.length < 2 ^ 50) {p : Nat} {b : Bool} (d : b = true → ∀ off, cellsAt H (.ptr p off) = some ((cN m).drop off)) (g10 : eget env 8 = .ptr p 0) (g11 : eget env 9 = .bool b) :
  WK (callW Φ) none (fun e s' => e = .normal ∧ s'.env.length = 110 ∧ eget s'.env 1 = .int .i64 h ∧ eget s'.env 2 = .ptr 0 0 ∧ eget s'.env 5 = .ptr 1 0 ∧ s'.marks = [] ∧ s'.heap = H ∧ eget s'.env 75 = .bool (!(b && m.kind == 12 && m.host == h))) [.c (.region zZo.r10)] { env := env, marks := [], heap := H } := by
 have cz := c 0
 simp only [List.drop_zero] at cz
 by_cases q0 : b = true
 ·have d := d q0
  have dz := d 0
  simp only [List.drop_zero] at dz
  by_cases q1 : (m.kind == 12) = true
  ·have q1a : (m.kind != 12) = false := by simp at q1; simp [q1]
   have q1b : m.kind = 12 := by simp at q1; simp [q1]
   by_cases q4 : (m.host == h) = true
   ·have q4a : (m.host != h) = false := by simp at q4; simp [q4]
    have q4b : m.host = h := by simp at q4; simp [q4]
    simp (config := { maxSteps := 5000000 }) [zZo.r10, he, g1, g2, g5, c0, c, cz, evPick, faddrP, d, dz, g10, g11, q0, q1, q1a, q1b, q4, q4a, q4b]
   have q4a : (m.host == h) = false := by simp [q4]
   have q4b : (m.host != h) = true := by simp at q4; simp [q4]
   have q4c : ¬ m.host = h := by simp at q4; simp [q4]
   simp (config := { maxSteps := 5000000 }) [zZo.r10, he, g1, g2, g5, c0, c, cz, evPick, faddrP, d, dz, g10, g11, q0, q1, q1a, q1b, q4, q4a, q4b, q4c]
  have q1a : (m.kind == 12) = false := by simp [q1]
  have q1b : (m.kind != 12) = true := by simp at q1; simp [q1]
  have q1c : ¬ m.kind = 12 := by simp at q1; simp [q1]
  simp (config := { maxSteps := 5000000 }) [zZo.r10, he, g1, g2, g5, c0, c, cz, evPick, faddrP, d, dz, g10, g11, q0, q1, q1a, q1b, q1c]
 have q0a : b = false := by simp [q0]
 simp (config := { maxSteps := 5000000 }) [zZo.r10, he, g1, g2, g5, c0, c, cz, evPick, faddrP, g10, g11, q0, q0a]
theorem pl_r14 {f : List Nd} (hf : f.length < 2 ^ 50) {h : Int} {n : Nd} (hk : n.kids.length < 2 ^ 50) {H : Heap} (c0 : cellsAt H (.ptr 0 0) = some [.arr (f.map cN)]) (c : ∀ off, cellsAt H (.ptr 1 off) = some ((cN n).drop off)) {env : List V} (he : env.length = 110) (g1 : eget env 1 = .int .i64 h) (g2 : eget env 2 = .ptr 0 0) (g5 : eget env 5 = .ptr 1 0) {m : Nd} (hm : m.kids.length < 2 ^ 50) {p : Nat} {b : Bool} (d : b = true → ∀ off, cellsAt H (.ptr p off) = some ((cN m).drop off)) (g10 : eget env 10 = .ptr p 0) (g11 : eget env 11 = .bool b) :
  WK (callW Φ) none (fun e s' => e = .normal ∧ s'.env.length = 110 ∧ eget s'.env 1 = .int .i64 h ∧ eget s'.env 2 = .ptr 0 0 ∧ eget s'.env 5 = .ptr 1 0 ∧ s'.marks = [] ∧ s'.heap = H ∧ eget s'.env 105 = .bool (!(b && m.kind == 1 && m.shadow == h && m.doc == n.doc))) [.c (.region zZo.r14)] { env := env, marks := [], heap := H } := by
 have cz := c 0
 simp only [List.drop_zero] at cz
 by_cases q0 : b = true
 ·have d := d q0
  have dz := d 0
  simp only [List.drop_zero] at dz
  by_cases q1 : (m.kind == 1) = true
  ·have q1a : (m.kind != 1) = false := by simp at q1; simp [q1]
   have q1b : m.kind = 1 := by simp at q1; simp [q1]
   by_cases q4 : (m.shadow == h) = true
   ·have q4a : (m.shadow != h) = false := by simp at q4; simp [q4]
    have q4b : m.shadow = h := by simp at q4; simp [q4]
    by_cases q7 : (m.doc == n.doc) = true
    ·have q7a : (m.doc != n.doc) = false := by simp at q7; simp [q7]
     have q7b : m.doc = n.doc := by simp at q7; simp [q7]
     simp (config := { maxSteps := 5000000 }) [zZo.r14, he, g1, g2, g5, c0, c, cz, evPick, faddrP, d, dz, g10, g11, q0, q1, q1a, q1b, q4, q4a, q4b, q7, q7a, q7b]
    have q7a : (m.doc == n.doc) = false := by simp [q7]
    have q7b : (m.doc != n.doc) = true := by simp at q7; simp [q7]
    have q7c : ¬ m.doc = n.doc := by simp at q7; simp [q7]
    simp (config := { maxSteps := 5000000 }) [zZo.r14, he, g1, g2, g5, c0, c, cz, evPick, faddrP, d, dz, g10, g11, q0, q1, q1a, q1b, q4, q4a, q4b, q7, q7a, q7b, q7c]
   have q4a : (m.shadow == h) = false := by simp [q4]
   have q4b : (m.shadow != h) = true := by simp at q4; simp [q4]
   have q4c : ¬ m.shadow = h := by simp at q4; simp [q4]
   simp (config := { maxSteps := 5000000 }) [zZo.r14, he, g1, g2, g5, c0, c, cz, evPick, faddrP, d, dz, g10, g11, q0, q1, q1a, q1b, q4, q4a, q4b, q4c]
  have q1a : (m.kind == 1) = false := by simp [q1]
  have q1b : (m.kind != 1) = true := by simp at q1; simp [q1]
  have q1c : ¬ m.kind = 1 := by simp at q1; simp [q1]
  simp (config := { maxSteps := 5000000 }) [zZo.r14, he, g1, g2, g5, c0, c, cz, evPick, faddrP, d, dz, g10, g11, q0, q1, q1a, q1b, q1c]
 have q0a : b = false := by simp [q0]
 simp (config := { maxSteps := 5000000 }) [zZo.r14, he, g1, g2, g5, c0, c, cz, evPick, faddrP, g10, g11, q0, q0a]
end Go.Proofs.It
