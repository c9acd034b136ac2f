/- A node's links, their pieces: the document's answer. No conditions. -/
import Derived.Test.YtaeklgflchhmfaaGreatDoorItJ
import Derived.Test.YtaeklgflchhmfaaGreatDoorItK
set_option maxHeartbeats 16000000
set_option maxRecDepth 100000
set_option linter.unusedVariables false
set_option linter.unusedSimpArgs false
set_option linter.unusedSectionVars false
namespace Go.Proofs.It
open Go Go.Ev
theorem links_r6 {f : List Nd} (hf : f.length < 2 ^ 50) {h : Int} {n : Nd} (hk : n.kids.length < 2 ^ 50) {H : Heap} (c0 : cellsAt H (.ptr 0 0) = some [.arr (f.map cN)]) (c : ∀ off, cellsAt H (.ptr 1 off) = some ((cN n).drop off)) {env : List V} (he : env.length = 152) (g1 : eget env 1 = .int .i64 h) (g2 : eget env 2 = .ptr 0 0) (g5 : eget env 5 = .ptr 1 0) {m : Nd} (hm : m.kids.length < 2 ^ 50) {p : Nat} (d : ∀ off, cellsAt H (.ptr p off) = some ((cN m).drop off)) {b : Bool} (g8 : eget env 8 = .ptr p 0) (g9 : eget env 9 = .bool b) {k : Int} (g7 : eget env 7 = .int .i64 k) :
  WK (callW Φ) none (fun e s' => e = .normal ∧ s'.env.length = 152 ∧ eget s'.env 1 = .int .i64 h ∧ eget s'.env 2 = .ptr 0 0 ∧ eget s'.env 5 = .ptr 1 0 ∧ eget s'.env 23 = eget env 23 ∧ eget s'.env 24 = eget env 24 ∧ eget s'.env 25 = eget env 25 ∧ s'.marks = [] ∧ s'.heap = H ∧ eget s'.env 56 = .bool (!(b && m.parent == h && cnt n.kids k == 1 && m.doc == n.doc))) [.c (.region zZk.r6)] { env := env, marks := [], heap := H } := by
 have cz := c 0
 simp only [List.drop_zero] at cz
 have dz := d 0
 simp only [List.drop_zero] at dz
 have hc := fun H => wZL n.kids k hk H
 simp only [eI] at hc
 by_cases q0 : b = true
 ·by_cases q1 : (m.parent == h) = true
  ·have q1a : (m.parent != h) = false := by simp at q1; simp [q1]
   have q1b : m.parent = h := by simp at q1; simp [q1]
   by_cases q4 : (cnt n.kids k) = 1
   ·have q4a : ((((cnt n.kids k) : Nat) : Int) == 1) = true := by simp [q4]
    have q4b : ((((cnt n.kids k) : Nat) : Int) != 1) = false := by simp [q4]
    have q4c : (((cnt n.kids k) : Nat) : Int) = 1 := by omega
    have q4d : ((cnt n.kids k) == 1) = true := by simp [q4]
    by_cases q9 : (m.doc == n.doc) = true
    ·have q9a : (m.doc != n.doc) = false := by simp at q9; simp [q9]
     have q9b : m.doc = n.doc := by simp at q9; simp [q9]
     simp (config := { maxSteps := 5000000 }) [zZk.r6, he, g1, g2, g5, c0, c, cz, evPick, faddrP, okMn, d, dz, g7, g8, g9, hc, q0, q1, q1a, q1b, q4, q4a, q4b, q4c, q4d, q9, q9a, q9b]
    have q9a : (m.doc == n.doc) = false := by simp [q9]
    have q9b : (m.doc != n.doc) = true := by simp at q9; simp [q9]
    have q9c : ¬ m.doc = n.doc := by simp at q9; simp [q9]
    simp (config := { maxSteps := 5000000 }) [zZk.r6, he, g1, g2, g5, c0, c, cz, evPick, faddrP, okMn, d, dz, g7, g8, g9, hc, q0, q1, q1a, q1b, q4, q4a, q4b, q4c, q4d, q9, q9a, q9b, q9c]
   have q4a : ((((cnt n.kids k) : Nat) : Int) == 1) = false := by simp; omega
   have q4b : ((((cnt n.kids k) : Nat) : Int) != 1) = true := by simp; omega
   have q4c : ¬ (((cnt n.kids k) : Nat) : Int) = 1 := by omega
   have q4d : ((cnt n.kids k) == 1) = false := by simp [q4]
   simp (config := { maxSteps := 5000000 }) [zZk.r6, he, g1, g2, g5, c0, c, cz, evPick, faddrP, okMn, d, dz, g7, g8, g9, hc, q0, q1, q1a, q1b, q4, q4a, q4b, q4c, q4d]
  have q1a : (m.parent == h) = false := by simp [q1]
  have q1b : (m.parent != h) = true := by simp at q1; simp [q1]
  have q1c : ¬ m.parent = h := by simp at q1; simp [q1]
  simp (config := { maxSteps := 5000000 }) [zZk.r6, he, g1, g2, g5, c0, c, cz, evPick, faddrP, okMn, d, dz, g7, g8, g9, hc, q0, q1, q1a, q1b, q1c]
 have q0a : b = false := by simp [q0]
 simp (config := { maxSteps := 5000000 }) [zZk.r6, he, g1, g2, g5, c0, c, cz, evPick, faddrP, okMn, d, dz, g7, g8, g9, hc, q0, q0a]
theorem links_r12 {f : List Nd} (hf : f.length < 2 ^ 50) {h : Int} {n : Nd} (hk : n.kids.length < 2 ^ 50) {H : Heap} (c0 : cellsAt H (.ptr 0 0) = some [.arr (f.map cN)]) (c : ∀ off, cellsAt H (.ptr 1 off) = some ((cN n).drop off)) {env : List V} (he : env.length = 152) (g1 : eget env 1 = .int .i64 h) (g2 : eget env 2 = .ptr 0 0) (g5 : eget env 5 = .ptr 1 0) {m : Nd} (hm : m.kids.length < 2 ^ 50) {p : Nat} (d : ∀ off, cellsAt H (.ptr p off) = some ((cN m).drop off)) {b : Bool} (g10 : eget env 10 = .ptr p 0) (g11 : eget env 11 = .bool b) :
  WK (callW Φ) none (fun e s' => e = .normal ∧ s'.env.length = 152 ∧ eget s'.env 1 = .int .i64 h ∧ eget s'.env 2 = .ptr 0 0 ∧ eget s'.env 5 = .ptr 1 0 ∧ s'.marks = [] ∧ s'.heap = H ∧ eget s'.env 76 = .bool (!(b && cnt m.kids h == 1))) [.c (.region zZk.r12)] { env := env, marks := [], heap := H } := by
 have cz := c 0
 simp only [List.drop_zero] at cz
 have dz := d 0
 simp only [List.drop_zero] at dz
 have hc := fun H => wZL m.kids h hm H
 simp only [eI] at hc
 by_cases q0 : b = true
 ·by_cases q1 : (cnt m.kids h) = 1
  ·have q1a : ((((cnt m.kids h) : Nat) : Int) == 1) = true := by simp [q1]
   have q1b : ((((cnt m.kids h) : Nat) : Int) != 1) = false := by simp [q1]
   have q1c : (((cnt m.kids h) : Nat) : Int) = 1 := by omega
   have q1d : ((cnt m.kids h) == 1) = true := by simp [q1]
   simp (config := { maxSteps := 5000000 }) [zZk.r12, he, g1, g2, g5, c0, c, cz, evPick, faddrP, okMn, d, dz, g10, g11, hc, q0, q1, q1a, q1b, q1c, q1d]
  have q1a : ((((cnt m.kids h) : Nat) : Int) == 1) = false := by simp; omega
  have q1b : ((((cnt m.kids h) : Nat) : Int) != 1) = true := by simp; omega
  have q1c : ¬ (((cnt m.kids h) : Nat) : Int) = 1 := by omega
  have q1d : ((cnt m.kids h) == 1) = false := by simp [q1]
  simp (config := { maxSteps := 5000000 }) [zZk.r12, he, g1, g2, g5, c0, c, cz, evPick, faddrP, okMn, d, dz, g10, g11, hc, q0, q1, q1a, q1b, q1c, q1d]
 have q0a : b = false := by simp [q0]
 simp (config := { maxSteps := 5000000 }) [zZk.r12, he, g1, g2, g5, c0, c, cz, evPick, faddrP, okMn, d, dz, g10, g11, hc, q0, q0a]
open Go Go.Ev
theorem links_r14 {f : List Nd} (hf : f.length < 2 ^ 50) {h : Int} {n : Nd} (hk : n.kids.length < 2 ^ 50) {H : Heap} (c0 : cellsAt H (.ptr 0 0) = some [.arr (f.map cN)]) (c : ∀ off, cellsAt H (.ptr 1 off) = some ((cN n).drop off)) {env : List V} (he : env.length = 152) (g1 : eget env 1 = .int .i64 h) (g2 : eget env 2 = .ptr 0 0) (g5 : eget env 5 = .ptr 1 0) :
  WK (callW Φ) none (fun e s' => e = .normal ∧ s'.env.length = 152 ∧ eget s'.env 1 = .int .i64 h ∧ eget s'.env 2 = .ptr 0 0 ∧ eget s'.env 5 = .ptr 1 0 ∧ s'.marks = [] ∧ s'.heap = H ∧ eget s'.env 92 = .bool (!(kindOf f n.doc == 9 && (n.kind != 9 || n.doc == h)))) [.c (.region zZk.r14)] { env := env, marks := [], heap := H } := by
 have cz := c 0
 simp only [List.drop_zero] at cz
 have hK := fun z H => wZx f z hf H
 simp only [eF] at hK
 by_cases q0 : ((kindOf f n.doc) == 9) = true
 ·have q0a : ((kindOf f n.doc) != 9) = false := by simp at q0; simp [q0]
  have q0b : (kindOf f n.doc) = 9 := by simp at q0; simp [q0]
  by_cases q3 : (n.kind == 9) = true
  ·have q3a : (n.kind != 9) = false := by simp at q3; simp [q3]
   have q3b : n.kind = 9 := by simp at q3; simp [q3]
   by_cases q6 : (n.doc == h) = true
   ·have q6a : (n.doc != h) = false := by simp at q6; simp [q6]
    simp (config := { maxSteps := 5000000 }) [zZk.r14, he, g1, g2, g5, c0, c, cz, evPick, faddrP, okMn, hK, q0, q0a, q0b, q3, q3a, q3b, q6, q6a]
   have q6a : (n.doc == h) = false := by simp [q6]
   have q6b : (n.doc != h) = true := by simp at q6; simp [q6]
   simp (config := { maxSteps := 5000000 }) [zZk.r14, he, g1, g2, g5, c0, c, cz, evPick, faddrP, okMn, hK, q0, q0a, q0b, q3, q3a, q3b, q6, q6a, q6b]
  have q3a : (n.kind == 9) = false := by simp [q3]
  have q3b : (n.kind != 9) = true := by simp at q3; simp [q3]
  have q3c : ¬ n.kind = 9 := by simp at q3; simp [q3]
  simp (config := { maxSteps := 5000000 }) [zZk.r14, he, g1, g2, g5, c0, c, cz, evPick, faddrP, okMn, hK, q0, q0a, q0b, q3, q3a, q3b, q3c]
 have q0a : ((kindOf f n.doc) == 9) = false := by simp [q0]
 have q0b : ((kindOf f n.doc) != 9) = true := by simp at q0; simp [q0]
 have q0c : ¬ (kindOf f n.doc) = 9 := by simp at q0; simp [q0]
 simp (config := { maxSteps := 5000000 }) [zZk.r14, he, g1, g2, g5, c0, c, cz, evPick, faddrP, okMn, hK, q0, q0a, q0b, q0c]
theorem links_r18 {f : List Nd} (hf : f.length < 2 ^ 50) {h : Int} {n : Nd} (hk : n.kids.length < 2 ^ 50) {H : Heap} (c0 : cellsAt H (.ptr 0 0) = some [.arr (f.map cN)]) (c : ∀ off, cellsAt H (.ptr 1 off) = some ((cN n).drop off)) {env : List V} (he : env.length = 152) (g1 : eget env 1 = .int .i64 h) (g2 : eget env 2 = .ptr 0 0) (g5 : eget env 5 = .ptr 1 0) {m : Nd} (hm : m.kids.length < 2 ^ 50) {p : Nat} (d : ∀ off, cellsAt H (.ptr p off) = some ((cN m).drop off)) {b : Bool} (g10 : eget env 12 = .ptr p 0) (g11 : eget env 13 = .bool b) :
  WK (callW Φ) none (fun e s' => e = .normal ∧ s'.env.length = 152 ∧ eget s'.env 1 = .int .i64 h ∧ eget s'.env 2 = .ptr 0 0 ∧ eget s'.env 5 = .ptr 1 0 ∧ s'.marks = [] ∧ s'.heap = H ∧ eget s'.env 115 = .bool (!(b && m.kind == 12 && m.host == h))) [.c (.region zZk.r18)] { env := env, marks := [], heap := H } := by
 have cz := c 0
 simp only [List.drop_zero] at cz
 have dz := d 0
 simp only [List.drop_zero] at dz
 by_cases q0 : b = true
 ·by_cases q1 : (m.kind == 12) = true
  ·have q1a : (m.kind != 12) = false := by simp at q1; simp [q1]
   have q1b : m.kind = 12 := by simp at q1; simp [q1]
   by_cases q4 : (m.host == h) = true
   ·have q4a : (m.host != h) = false := by simp at q4; simp [q4]
    have q4b : m.host = h := by simp at q4; simp [q4]
    simp (config := { maxSteps := 5000000 }) [zZk.r18, he, g1, g2, g5, c0, c, cz, evPick, faddrP, okMn, d, dz, g10, g11, q0, q1, q1a, q1b, q4, q4a, q4b]
   have q4a : (m.host == h) = false := by simp [q4]
   have q4b : (m.host != h) = true := by simp at q4; simp [q4]
   have q4c : ¬ m.host = h := by simp at q4; simp [q4]
   simp (config := { maxSteps := 5000000 }) [zZk.r18, he, g1, g2, g5, c0, c, cz, evPick, faddrP, okMn, d, dz, g10, g11, q0, q1, q1a, q1b, q4, q4a, q4b, q4c]
  have q1a : (m.kind == 12) = false := by simp [q1]
  have q1b : (m.kind != 12) = true := by simp at q1; simp [q1]
  have q1c : ¬ m.kind = 12 := by simp at q1; simp [q1]
  simp (config := { maxSteps := 5000000 }) [zZk.r18, he, g1, g2, g5, c0, c, cz, evPick, faddrP, okMn, d, dz, g10, g11, q0, q1, q1a, q1b, q1c]
 have q0a : b = false := by simp [q0]
 simp (config := { maxSteps := 5000000 }) [zZk.r18, he, g1, g2, g5, c0, c, cz, evPick, faddrP, okMn, d, dz, g10, g11, q0, q0a]
theorem links_r22 {f : List Nd} (hf : f.length < 2 ^ 50) {h : Int} {n : Nd} (hk : n.kids.length < 2 ^ 50) {H : Heap} (c0 : cellsAt H (.ptr 0 0) = some [.arr (f.map cN)]) (c : ∀ off, cellsAt H (.ptr 1 off) = some ((cN n).drop off)) {env : List V} (he : env.length = 152) (g1 : eget env 1 = .int .i64 h) (g2 : eget env 2 = .ptr 0 0) (g5 : eget env 5 = .ptr 1 0) {m : Nd} (hm : m.kids.length < 2 ^ 50) {p : Nat} (d : ∀ off, cellsAt H (.ptr p off) = some ((cN m).drop off)) {b : Bool} (g10 : eget env 14 = .ptr p 0) (g11 : eget env 15 = .bool b) :
  WK (callW Φ) none (fun e s' => e = .normal ∧ s'.env.length = 152 ∧ eget s'.env 1 = .int .i64 h ∧ eget s'.env 2 = .ptr 0 0 ∧ eget s'.env 5 = .ptr 1 0 ∧ s'.marks = [] ∧ s'.heap = H ∧ eget s'.env 145 = .bool (!(b && m.kind == 1 && m.shadow == h && m.doc == n.doc))) [.c (.region zZk.r22)] { env := env, marks := [], heap := H } := by
 have cz := c 0
 simp only [List.drop_zero] at cz
 have dz := d 0
 simp only [List.drop_zero] at dz
 by_cases q0 : b = true
 ·by_cases q1 : (m.kind == 1) = true
  ·have q1a : (m.kind != 1) = false := by simp at q1; simp [q1]
   have q1b : m.kind = 1 := by simp at q1; simp [q1]
   by_cases q4 : (m.shadow == h) = true
   ·have q4a : (m.shadow != h) = false := by simp at q4; simp [q4]
    have q4b : m.shadow = h := by simp at q4; simp [q4]
    by_cases q7 : (m.doc == n.doc) = true
    ·have q7a : (m.doc != n.doc) = false := by simp at q7; simp [q7]
     have q7b : m.doc = n.doc := by simp at q7; simp [q7]
     simp (config := { maxSteps := 5000000 }) [zZk.r22, he, g1, g2, g5, c0, c, cz, evPick, faddrP, okMn, d, dz, g10, g11, q0, q1, q1a, q1b, q4, q4a, q4b, q7, q7a, q7b]
    have q7a : (m.doc == n.doc) = false := by simp [q7]
    have q7b : (m.doc != n.doc) = true := by simp at q7; simp [q7]
    have q7c : ¬ m.doc = n.doc := by simp at q7; simp [q7]
    simp (config := { maxSteps := 5000000 }) [zZk.r22, he, g1, g2, g5, c0, c, cz, evPick, faddrP, okMn, d, dz, g10, g11, q0, q1, q1a, q1b, q4, q4a, q4b, q7, q7a, q7b, q7c]
   have q4a : (m.shadow == h) = false := by simp [q4]
   have q4b : (m.shadow != h) = true := by simp at q4; simp [q4]
   have q4c : ¬ m.shadow = h := by simp at q4; simp [q4]
   simp (config := { maxSteps := 5000000 }) [zZk.r22, he, g1, g2, g5, c0, c, cz, evPick, faddrP, okMn, d, dz, g10, g11, q0, q1, q1a, q1b, q4, q4a, q4b, q4c]
  have q1a : (m.kind == 1) = false := by simp [q1]
  have q1b : (m.kind != 1) = true := by simp at q1; simp [q1]
  have q1c : ¬ m.kind = 1 := by simp at q1; simp [q1]
  simp (config := { maxSteps := 5000000 }) [zZk.r22, he, g1, g2, g5, c0, c, cz, evPick, faddrP, okMn, d, dz, g10, g11, q0, q1, q1a, q1b, q1c]
 have q0a : b = false := by simp [q0]
 simp (config := { maxSteps := 5000000 }) [zZk.r22, he, g1, g2, g5, c0, c, cz, evPick, faddrP, okMn, d, dz, g10, g11, q0, q0a]
theorem links_r24 {f : List Nd} (hf : f.length < 2 ^ 50) {h : Int} {n : Nd} (hk : n.kids.length < 2 ^ 50) {H : Heap} (c0 : cellsAt H (.ptr 0 0) = some [.arr (f.map cN)]) (c : ∀ off, cellsAt H (.ptr 1 off) = some ((cN n).drop off)) {env : List V} (he : env.length = 152) (g1 : eget env 1 = .int .i64 h) (g2 : eget env 2 = .ptr 0 0) (g5 : eget env 5 = .ptr 1 0) :
  WK (callW Φ) none (fun e s' => e = .normal ∧ s'.env.length = 152 ∧ eget s'.env 1 = .int .i64 h ∧ eget s'.env 2 = .ptr 0 0 ∧ eget s'.env 5 = .ptr 1 0 ∧ s'.marks = [] ∧ s'.heap = H ∧ eget s'.env 4 = .bool (kidsOk f n.kind n.kids)) [.c (.region zZk.r24)] { env := env, marks := [], heap := H } := by
 have cz := c 0
 simp only [List.drop_zero] at cz
 have hK := fun H => xZl f n.kind n.kids hf hk H
 simp only [eF, eI] at hK
 simp (config := { maxSteps := 5000000 }) [zZk.r24, he, g1, g2, g5, c0, c, cz, evPick, faddrP, okMn, hK]
end Go.Proofs.It
