/- Nodes by themselves: the document's answer, Ia. Nodes by themselves: the document's answer, Ib. Nodes by themselves: the document's answer, Ic. Nodes by themselves: the document's answer, Id. No conditions. -/
import Derived.Test.YtaeklgflchhmfaaGreatDoorItH
set_option maxHeartbeats 16000000
set_option maxRecDepth 100000
set_option linter.unusedVariables false
set_option linter.unusedSimpArgs false
set_option linter.unusedSectionVars false
namespace Go.Proofs.It
open Go Go.Ev
theorem made_r2 {n : Nd} {H : Heap} (hH : H = [Ob.cells (cN n)]) (hl : n.attrs.length < 2 ^ 50) {env : List V} (he : env.length = 164) (g1 : eget env 1 = .ptr 0 0) (g3 : eget env 3 = .int .u8 n.kind) :
  WK (callW Φ) none (fun e s' => e = .normal ∧ s'.env.length = 164 ∧ eget s'.env 1 = .ptr 0 0 ∧ eget s'.env 3 = .int .u8 n.kind ∧ s'.marks = [] ∧ s'.heap = H ∧ eget s'.env 32 = .bool (!mdA n)) [.c (.region zZg.r2)] { env := env, marks := [], heap := H } := by
 have c : ∀ off, cellsAt H (.ptr 0 off) = some ((cN n).drop off) := fun off => by rw [hH]; rfl
 have c0 := c 0
 simp only [List.drop_zero] at c0
 have hk := fun H => kZB n.kind H
 have ha := fun H => kZA n.attrs hl H
 simp only [eAs] at ha
 by_cases q0 : known n.kind = false
 ·simp (config := { maxSteps := 5000000 }) [zZg.r2, he, g1, g3, c, c0, evPick, faddrP, okMn, hk, ha, mdA, q0]
 have q0a : known n.kind = true := by simp [q0]
 by_cases q2 : 1024 < n.pub.size
 ·have q2a : (1024 : Int) < (n.pub.size : Int) := by omega
  simp (config := { maxSteps := 5000000 }) [zZg.r2, he, g1, g3, c, c0, evPick, faddrP, okMn, hk, ha, mdA, q0, q0a, q2, q2a]
 have q2a : ¬ (1024 : Int) < (n.pub.size : Int) := by omega
 have q2b : n.pub.size ≤ 1024 := by omega
 by_cases q5 : 1024 < n.sys.size
 ·have q5a : (1024 : Int) < (n.sys.size : Int) := by omega
  simp (config := { maxSteps := 5000000 }) [zZg.r2, he, g1, g3, c, c0, evPick, faddrP, okMn, hk, ha, mdA, q0, q0a, q2, q2a, q2b, q5, q5a]
 have q5a : ¬ (1024 : Int) < (n.sys.size : Int) := by omega
 have q5b : n.sys.size ≤ 1024 := by omega
 by_cases q8 : 16384 < n.data.length
 ·have q8a : (16384 : Int) < (n.data.length : Int) := by omega
  simp (config := { maxSteps := 5000000 }) [zZg.r2, he, g1, g3, c, c0, evPick, faddrP, okMn, hk, ha, mdA, q0, q0a, q2, q2a, q2b, q5, q5a, q5b, q8, q8a]
 have q8a : ¬ (16384 : Int) < (n.data.length : Int) := by omega
 have q8b : n.data.length ≤ 16384 := by omega
 by_cases q11 : attrs n.attrs = false
 ·simp (config := { maxSteps := 5000000 }) [zZg.r2, he, g1, g3, c, c0, evPick, faddrP, okMn, hk, ha, mdA, q0, q0a, q2, q2a, q2b, q5, q5a, q5b, q8, q8a, q8b, q11]
 have q11a : attrs n.attrs = true := by simp [q11]
 simp (config := { maxSteps := 5000000 }) [zZg.r2, he, g1, g3, c, c0, evPick, faddrP, okMn, hk, ha, mdA, q0, q0a, q2, q2a, q2b, q5, q5a, q5b, q8, q8a, q8b, q11, q11a]
open Go Go.Ev
theorem made_r12a {n : Nd} {H : Heap} (hH : H = [Ob.cells (cN n)]) {env : List V} (he : env.length = 164) (g1 : eget env 1 = .ptr 0 0) (g3 : eget env 3 = .int .u8 n.kind) :
  WK (callW Φ) none (fun e s' => e = .normal ∧ s'.env.length = 164 ∧ eget s'.env 1 = .ptr 0 0 ∧ eget s'.env 3 = .int .u8 n.kind ∧ s'.marks = [] ∧ s'.heap = H ∧ eget s'.env 83 = .bool (!(n.kind == 10 || (beqS n.pub ⟨#[]⟩ && beqS n.sys ⟨#[]⟩)))) [.o (List.take 12 zZg.r12)] { env := env, marks := [], heap := H } := by
 have c : ∀ off, cellsAt H (.ptr 0 off) = some ((cN n).drop off) := fun off => by rw [hH]; rfl
 have c0 := c 0
 simp only [List.drop_zero] at c0
 by_cases q0 : (n.kind == 10) = true
 ·have q0a : (n.kind != 10) = false := by simp at q0; simp [q0]
  have q0b : n.kind = 10 := by simp at q0; simp [q0]
  simp (config := { maxSteps := 5000000 }) [zZg.r12, he, g1, g3, c, c0, evPick, faddrP, okMn, q0, q0a, q0b]
 have q0a : (n.kind == 10) = false := by simp [q0]
 have q0b : (n.kind != 10) = true := by simp at q0; simp [q0]
 have q0c : ¬ n.kind = 10 := by simp at q0; simp [q0]
 by_cases q4 : beqS n.pub ⟨#[]⟩ = true
 ·by_cases q5 : beqS n.sys ⟨#[]⟩ = true
  ·simp (config := { maxSteps := 5000000 }) [zZg.r12, he, g1, g3, c, c0, evPick, faddrP, okMn, q0, q0a, q0b, q0c, q4, q5]
  have q5a : beqS n.sys ⟨#[]⟩ = false := by simp [q5]
  simp (config := { maxSteps := 5000000 }) [zZg.r12, he, g1, g3, c, c0, evPick, faddrP, okMn, q0, q0a, q0b, q0c, q4, q5, q5a]
 have q4a : beqS n.pub ⟨#[]⟩ = false := by simp [q4]
 simp (config := { maxSteps := 5000000 }) [zZg.r12, he, g1, g3, c, c0, evPick, faddrP, okMn, q0, q0a, q0b, q0c, q4, q4a]
theorem made_r12b {n : Nd} {H : Heap} (hH : H = [Ob.cells (cN n)]) {env : List V} (he : env.length = 164) (g1 : eget env 1 = .ptr 0 0) (g3 : eget env 3 = .int .u8 n.kind) {X : Bool} (gx : eget env 83 = .bool X) :
  WK (callW Φ) none (fun e s' => e = .normal ∧ s'.env.length = 164 ∧ eget s'.env 1 = .ptr 0 0 ∧ eget s'.env 3 = .int .u8 n.kind ∧ s'.marks = [] ∧ s'.heap = H ∧ eget s'.env 94 = .bool (X || !(hasData n.kind || n.data.length == 0))) [.o (List.take 11 (List.drop 12 zZg.r12))] { env := env, marks := [], heap := H } := by
 have c : ∀ off, cellsAt H (.ptr 0 off) = some ((cN n).drop off) := fun off => by rw [hH]; rfl
 have c0 := c 0
 simp only [List.drop_zero] at c0
 have hd := fun H => wZl n.kind H
 by_cases q0 : X = true
 ·simp (config := { maxSteps := 5000000 }) [zZg.r12, he, g1, g3, c, c0, evPick, faddrP, okMn, hd, gx, q0]
 have q0a : X = false := by simp [q0]
 by_cases q2 : hasData n.kind = true
 ·simp (config := { maxSteps := 5000000 }) [zZg.r12, he, g1, g3, c, c0, evPick, faddrP, okMn, hd, gx, q0, q0a, q2]
 have q2a : hasData n.kind = false := by simp [q2]
 by_cases q4 : 0 < n.data.length
 ·have q4a : (0 : Int) < (n.data.length : Int) := by omega
  have q4b : ¬ n.data = [] := by intro z; rw [z] at q4; simp at q4
  simp (config := { maxSteps := 5000000 }) [zZg.r12, he, g1, g3, c, c0, evPick, faddrP, okMn, hd, gx, q0, q0a, q2, q2a, q4, q4a, q4b]
 have q4a : ¬ (0 : Int) < (n.data.length : Int) := by omega
 have q4b : n.data.length = 0 := by omega
 have q4c : n.data = [] := by simp at q4; simp [q4]
 simp (config := { maxSteps := 5000000 }) [zZg.r12, he, g1, g3, c, c0, evPick, faddrP, okMn, hd, gx, q0, q0a, q2, q2a, q4, q4a, q4b, q4c]
theorem made_r12c {n : Nd} {H : Heap} (hH : H = [Ob.cells (cN n)]) {env : List V} (he : env.length = 164) (g1 : eget env 1 = .ptr 0 0) (g3 : eget env 3 = .int .u8 n.kind) {X : Bool} (gx : eget env 94 = .bool X) :
  WK (callW Φ) none (fun e s' => e = .normal ∧ s'.env.length = 164 ∧ eget s'.env 1 = .ptr 0 0 ∧ eget s'.env 3 = .int .u8 n.kind ∧ s'.marks = [] ∧ s'.heap = H ∧ eget s'.env 105 = .bool (X || !(hasKids n.kind || n.kids.length == 0))) [.o (List.drop 23 zZg.r12)] { env := env, marks := [], heap := H } := by
 have c : ∀ off, cellsAt H (.ptr 0 off) = some ((cN n).drop off) := fun off => by rw [hH]; rfl
 have c0 := c 0
 simp only [List.drop_zero] at c0
 have hd := fun H => wZm n.kind H
 by_cases q0 : X = true
 ·simp (config := { maxSteps := 5000000 }) [zZg.r12, he, g1, g3, c, c0, evPick, faddrP, okMn, hd, gx, q0]
 have q0a : X = false := by simp [q0]
 by_cases q2 : hasKids n.kind = true
 ·simp (config := { maxSteps := 5000000 }) [zZg.r12, he, g1, g3, c, c0, evPick, faddrP, okMn, hd, gx, q0, q0a, q2]
 have q2a : hasKids n.kind = false := by simp [q2]
 by_cases q4 : 0 < n.kids.length
 ·have q4a : (0 : Int) < (n.kids.length : Int) := by omega
  have q4b : ¬ n.kids = [] := by intro z; rw [z] at q4; simp at q4
  simp (config := { maxSteps := 5000000 }) [zZg.r12, he, g1, g3, c, c0, evPick, faddrP, okMn, hd, gx, q0, q0a, q2, q2a, q4, q4a, q4b]
 have q4a : ¬ (0 : Int) < (n.kids.length : Int) := by omega
 have q4b : n.kids.length = 0 := by omega
 have q4c : n.kids = [] := by simp at q4; simp [q4]
 simp (config := { maxSteps := 5000000 }) [zZg.r12, he, g1, g3, c, c0, evPick, faddrP, okMn, hd, gx, q0, q0a, q2, q2a, q4, q4a, q4b, q4c]
theorem kSplit {call : CallF} {rnd : Option Nat} {Q : Ex → St → Prop} {s : St} {k : List It} {a b : List Cp} (h : WK call rnd Q (.o a :: .o b :: k) s) : WK call rnd Q (.o (a ++ b) :: k) s := by
 simp only [WK] at h ⊢
 obtain ⟨s1, h1, s2, h2, h3⟩ := h
 refine ⟨s2, ?_, h3⟩
 have app : ∀ {a : List Cp} {s s1 : St}, evOps call a s = some s1 → evOps call (a ++ b) s = evOps call b s1 := by
  intro a
  induction a with
  | nil => intro s s1 h; simp only [evOps, Option.some.injEq] at h; rw [h]; rfl
  | cons c a ih =>
   intro s s1 h
   simp only [evOps, List.cons_append] at h ⊢
   split at h
   ·exact ih h
   ·cases h
 rw [app h1]
 exact h2
theorem kNormalP {call : CallF} {rnd : Option Nat} {Q : Ex → St → Prop} {s : St} {k : List It} {l : List Cp} {I : St → Prop} (h : WK call rnd (fun e s' => e = .normal ∧ I s') [.o l] s) (hk : ∀ s', I s' → WK call rnd Q k s') : WK call rnd Q (.o l :: k) s := by
 rw [← kRegion] at h ⊢
 simp only [WK] at h ⊢
 refine WC.mono h fun e s' hq => ?_
 cases e with
 | normal => simp only [WK] at hq ⊢; exact hk s' hq.2
 | exit i => simp only [WX] at hq; exact absurd hq.1 (by simp)
 | ret => exact absurd hq.1 (by simp)
theorem made_r12 {n : Nd} {H : Heap} (hH : H = [Ob.cells (cN n)]) {env : List V} (he : env.length = 164) (g1 : eget env 1 = .ptr 0 0) (g3 : eget env 3 = .int .u8 n.kind) :
  WK (callW Φ) none (fun e s' => e = .normal ∧ s'.env.length = 164 ∧ eget s'.env 1 = .ptr 0 0 ∧ eget s'.env 3 = .int .u8 n.kind ∧ s'.marks = [] ∧ s'.heap = H ∧ eget s'.env 105 = .bool (!mdB n)) [.c (.region zZg.r12)] { env := env, marks := [], heap := H } := by
 have e : zZg.r12 = List.take 12 zZg.r12 ++ (List.take 11 (List.drop 12 zZg.r12) ++ List.drop 23 zZg.r12) := rfl
 rw [kRegion, e]
 refine kSplit (kNormalP (made_r12a hH he g1 g3) ?_)
 rintro ⟨e1, mk, H1⟩ ⟨he1, a1, a3, hm, hh, a⟩
 simp only at he1 a1 a3 hm hh a
 obtain rfl := hm
 obtain rfl := hh
 refine kSplit (kNormalP (made_r12b hH he1 a1 a3 a) ?_)
 rintro ⟨e2, mk, H2⟩ ⟨he2, b1, b3, hm, hh, b⟩
 simp only at he2 b1 b3 hm hh b
 obtain rfl := hm
 obtain rfl := hh
 refine kNormalP (made_r12c hH he2 b1 b3 b) ?_
 rintro ⟨e3, mk, H3⟩ ⟨he3, c1, c3, hm, hh, c⟩
 simp only at he3 c1 c3 hm hh c
 obtain rfl := hm
 obtain rfl := hh
 have : (!mdB n) = (!(n.kind == 10 || (beqS n.pub ⟨#[]⟩ && beqS n.sys ⟨#[]⟩)) || !(hasData n.kind || n.data.length == 0) || !(hasKids n.kind || n.kids.length == 0)) := by
  simp only [mdB, Bool.not_and]
 rw [this]
 simp [he3, c1, c3, c]
open Go Go.Ev
theorem made_r14 {n : Nd} {H : Heap} (hH : H = [Ob.cells (cN n)]) {env : List V} (he : env.length = 164) (g1 : eget env 1 = .ptr 0 0) (g3 : eget env 3 = .int .u8 n.kind) :
  WK (callW Φ) none (fun e s' => e = .normal ∧ s'.env.length = 164 ∧ eget s'.env 1 = .ptr 0 0 ∧ eget s'.env 3 = .int .u8 n.kind ∧ s'.marks = [] ∧ s'.heap = H ∧ eget s'.env 126 = .bool (!mdC n)) [.c (.region zZg.r14)] { env := env, marks := [], heap := H } := by
 have c : ∀ off, cellsAt H (.ptr 0 off) = some ((cN n).drop off) := fun off => by rw [hH]; rfl
 have c0 := c 0
 simp only [List.drop_zero] at c0
 by_cases q0 : (n.kind == 1) = true
 ·have q0a : (n.kind != 1) = false := by simp at q0; simp [q0]
  have q0b : n.kind = 1 := by simp at q0; simp [q0]
  by_cases q3 : (n.kind == 9) = true
  ·have q3a : (n.kind != 9) = false := by simp at q3; simp [q3]
   have q3b : n.kind = 9 := by simp at q3; simp [q3]
   simp (config := { maxSteps := 5000000 }) [zZg.r14, he, g1, g3, c, c0, evPick, faddrP, okMn, mdC, q0, q0a, q0b, q3, q3a, q3b]
  have q3a : (n.kind == 9) = false := by simp [q3]
  have q3b : (n.kind != 9) = true := by simp at q3; simp [q3]
  have q3c : ¬ n.kind = 9 := by omega
  by_cases q7 : n.html = true
  ·simp (config := { maxSteps := 5000000 }) [zZg.r14, he, g1, g3, c, c0, evPick, faddrP, okMn, mdC, q0, q0a, q0b, q3, q3a, q3b, q3c, q7]
  have q7a : n.html = false := by simp [q7]
  simp (config := { maxSteps := 5000000 }) [zZg.r14, he, g1, g3, c, c0, evPick, faddrP, okMn, mdC, q0, q0a, q0b, q3, q3a, q3b, q3c, q7, q7a]
 have q0a : (n.kind == 1) = false := by simp [q0]
 have q0b : (n.kind != 1) = true := by simp at q0; simp [q0]
 have q0c : ¬ n.kind = 1 := by simp at q0; simp [q0]
 by_cases q4 : 0 < n.attrs.length
 ·have q4a : (0 : Int) < (n.attrs.length : Int) := by omega
  have q4b : ¬ n.attrs = [] := by intro z; rw [z] at q4; simp at q4
  simp (config := { maxSteps := 5000000 }) [zZg.r14, he, g1, g3, c, c0, evPick, faddrP, okMn, mdC, q0, q0a, q0b, q0c, q4, q4a, q4b]
 have q4a : ¬ (0 : Int) < (n.attrs.length : Int) := by omega
 have q4b : n.attrs.length = 0 := by omega
 have q4c : n.attrs = [] := by simp at q4; simp [q4]
 by_cases q8 : (n.shadow == 0) = true
 ·have q8a : (n.shadow != 0) = false := by simp at q8; simp [q8]
  have q8b : n.shadow = 0 := by simp at q8; simp [q8]
  by_cases q11 : (n.kind == 9) = true
  ·have q11a : (n.kind != 9) = false := by simp at q11; simp [q11]
   have q11b : n.kind = 9 := by simp at q11; simp [q11]
   simp (config := { maxSteps := 5000000 }) [zZg.r14, he, g1, g3, c, c0, evPick, faddrP, okMn, mdC, q0, q0a, q0b, q0c, q4, q4a, q4b, q4c, q8, q8a, q8b, q11, q11a, q11b]
  have q11a : (n.kind == 9) = false := by simp [q11]
  have q11b : (n.kind != 9) = true := by simp at q11; simp [q11]
  have q11c : ¬ n.kind = 9 := by simp at q11; simp [q11]
  by_cases q15 : n.html = true
  ·simp (config := { maxSteps := 5000000 }) [zZg.r14, he, g1, g3, c, c0, evPick, faddrP, okMn, mdC, q0, q0a, q0b, q0c, q4, q4a, q4b, q4c, q8, q8a, q8b, q11, q11a, q11b, q11c, q15]
  have q15a : n.html = false := by simp [q15]
  simp (config := { maxSteps := 5000000 }) [zZg.r14, he, g1, g3, c, c0, evPick, faddrP, okMn, mdC, q0, q0a, q0b, q0c, q4, q4a, q4b, q4c, q8, q8a, q8b, q11, q11a, q11b, q11c, q15, q15a]
 have q8a : (n.shadow == 0) = false := by simp [q8]
 have q8b : (n.shadow != 0) = true := by simp at q8; simp [q8]
 have q8c : ¬ n.shadow = 0 := by simp at q8; simp [q8]
 simp (config := { maxSteps := 5000000 }) [zZg.r14, he, g1, g3, c, c0, evPick, faddrP, okMn, mdC, q0, q0a, q0b, q0c, q4, q4a, q4b, q4c, q8, q8a, q8b, q8c]
theorem made_r17 {n : Nd} {H : Heap} (hH : H = [Ob.cells (cN n)]) {env : List V} (he : env.length = 164) (g1 : eget env 1 = .ptr 0 0) (g3 : eget env 3 = .int .u8 n.kind) :
  WK (callW Φ) none (fun e s' => e = .normal ∧ s'.env.length = 164 ∧ eget s'.env 1 = .ptr 0 0 ∧ eget s'.env 3 = .int .u8 n.kind ∧ s'.marks = [] ∧ s'.heap = H ∧ eget s'.env 136 = .bool (!(n.mode == 1 || n.mode == 2))) [.c (.region zZg.r17)] { env := env, marks := [], heap := H } := by
 have c : ∀ off, cellsAt H (.ptr 0 off) = some ((cN n).drop off) := fun off => by rw [hH]; rfl
 have c0 := c 0
 simp only [List.drop_zero] at c0
 by_cases q0 : (n.mode == 1) = true
 ·have q0a : (n.mode != 1) = false := by simp at q0; simp [q0]
  have q0b : n.mode = 1 := by simp at q0; simp [q0]
  simp (config := { maxSteps := 5000000 }) [zZg.r17, he, g1, g3, c, c0, evPick, faddrP, okMn, q0, q0a, q0b]
 have q0a : (n.mode == 1) = false := by simp [q0]
 have q0b : (n.mode != 1) = true := by simp at q0; simp [q0]
 have q0c : ¬ n.mode = 1 := by simp at q0; simp [q0]
 by_cases q4 : (n.mode == 2) = true
 ·have q4a : (n.mode != 2) = false := by simp at q4; simp [q4]
  have q4b : n.mode = 2 := by simp at q4; simp [q4]
  simp (config := { maxSteps := 5000000 }) [zZg.r17, he, g1, g3, c, c0, evPick, faddrP, okMn, q0, q0a, q0b, q0c, q4, q4a, q4b]
 have q4a : (n.mode == 2) = false := by simp [q4]
 have q4b : (n.mode != 2) = true := by simp at q4; simp [q4]
 have q4c : ¬ n.mode = 2 := by simp at q4; simp [q4]
 simp (config := { maxSteps := 5000000 }) [zZg.r17, he, g1, g3, c, c0, evPick, faddrP, okMn, q0, q0a, q0b, q0c, q4, q4a, q4b, q4c]
theorem made_r19 {n : Nd} {H : Heap} (hH : H = [Ob.cells (cN n)]) {env : List V} (he : env.length = 164) (g1 : eget env 1 = .ptr 0 0) (g3 : eget env 3 = .int .u8 n.kind) :
  WK (callW Φ) none (fun e s' => e = .normal ∧ s'.env.length = 164 ∧ eget s'.env 1 = .ptr 0 0 ∧ eget s'.env 3 = .int .u8 n.kind ∧ s'.marks = [] ∧ s'.heap = H ∧ eget s'.env 148 = .bool (!(n.mode == 0 && !n.manual && n.host == 0))) [.c (.region zZg.r19)] { env := env, marks := [], heap := H } := by
 have c : ∀ off, cellsAt H (.ptr 0 off) = some ((cN n).drop off) := fun off => by rw [hH]; rfl
 have c0 := c 0
 simp only [List.drop_zero] at c0
 by_cases q0 : (n.mode == 0) = true
 ·have q0a : (n.mode != 0) = false := by simp at q0; simp [q0]
  have q0b : n.mode = 0 := by simp at q0; simp [q0]
  by_cases q3 : n.manual = true
  ·simp (config := { maxSteps := 5000000 }) [zZg.r19, he, g1, g3, c, c0, evPick, faddrP, okMn, q0, q0a, q0b, q3]
  have q3a : n.manual = false := by simp [q3]
  by_cases q5 : (n.host == 0) = true
  ·have q5a : (n.host != 0) = false := by simp at q5; simp [q5]
   have q5b : n.host = 0 := by simp at q5; simp [q5]
   simp (config := { maxSteps := 5000000 }) [zZg.r19, he, g1, g3, c, c0, evPick, faddrP, okMn, q0, q0a, q0b, q3, q3a, q5, q5a, q5b]
  have q5a : (n.host == 0) = false := by simp [q5]
  have q5b : (n.host != 0) = true := by simp at q5; simp [q5]
  have q5c : ¬ n.host = 0 := by simp at q5; simp [q5]
  simp (config := { maxSteps := 5000000 }) [zZg.r19, he, g1, g3, c, c0, evPick, faddrP, okMn, q0, q0a, q0b, q3, q3a, q5, q5a, q5b, q5c]
 have q0a : (n.mode == 0) = false := by simp [q0]
 have q0b : (n.mode != 0) = true := by simp at q0; simp [q0]
 have q0c : ¬ n.mode = 0 := by simp at q0; simp [q0]
 simp (config := { maxSteps := 5000000 }) [zZg.r19, he, g1, g3, c, c0, evPick, faddrP, okMn, q0, q0a, q0b, q0c]
theorem made_r21 {n : Nd} {H : Heap} (hH : H = [Ob.cells (cN n)]) {env : List V} (he : env.length = 164) (g1 : eget env 1 = .ptr 0 0) (g3 : eget env 3 = .int .u8 n.kind) :
  WK (callW Φ) none (fun e s' => e = .normal ∧ s'.env.length = 164 ∧ eget s'.env 1 = .ptr 0 0 ∧ eget s'.env 3 = .int .u8 n.kind ∧ s'.marks = [] ∧ s'.heap = H ∧ eget s'.env 2 = .bool (n.parent == 0 || (n.kind != 9 && n.kind != 11 && n.kind != 12))) [.c (.region zZg.r21)] { env := env, marks := [], heap := H } := by
 have c : ∀ off, cellsAt H (.ptr 0 off) = some ((cN n).drop off) := fun off => by rw [hH]; rfl
 have c0 := c 0
 simp only [List.drop_zero] at c0
 by_cases q0 : (n.parent == 0) = true
 ·have q0a : (n.parent != 0) = false := by simp at q0; simp [q0]
  have q0b : n.parent = 0 := by simp at q0; simp [q0]
  simp (config := { maxSteps := 5000000 }) [zZg.r21, he, g1, g3, c, c0, evPick, faddrP, okMn, q0, q0a, q0b]
 have q0a : (n.parent == 0) = false := by simp [q0]
 have q0b : (n.parent != 0) = true := by simp at q0; simp [q0]
 have q0c : ¬ n.parent = 0 := by simp at q0; simp [q0]
 by_cases q4 : (n.kind == 9) = true
 ·have q4a : (n.kind != 9) = false := by simp at q4; simp [q4]
  have q4b : n.kind = 9 := by simp at q4; simp [q4]
  simp (config := { maxSteps := 5000000 }) [zZg.r21, he, g1, g3, c, c0, evPick, faddrP, okMn, q0, q0a, q0b, q0c, q4, q4a, q4b]
 have q4a : (n.kind == 9) = false := by simp [q4]
 have q4b : (n.kind != 9) = true := by simp at q4; simp [q4]
 have q4c : ¬ n.kind = 9 := by simp at q4; simp [q4]
 by_cases q8 : (n.kind == 11) = true
 ·have q8a : (n.kind != 11) = false := by simp at q8; simp [q8]
  have q8b : n.kind = 11 := by simp at q8; simp [q8]
  simp (config := { maxSteps := 5000000 }) [zZg.r21, he, g1, g3, c, c0, evPick, faddrP, okMn, q0, q0a, q0b, q0c, q4, q4a, q4b, q4c, q8, q8a, q8b]
 have q8a : (n.kind == 11) = false := by simp [q8]
 have q8b : (n.kind != 11) = true := by simp at q8; simp [q8]
 have q8c : ¬ n.kind = 11 := by simp at q8; simp [q8]
 by_cases q12 : (n.kind == 12) = true
 ·have q12a : (n.kind != 12) = false := by simp at q12; simp [q12]
  have q12b : n.kind = 12 := by simp at q12; simp [q12]
  simp (config := { maxSteps := 5000000 }) [zZg.r21, he, g1, g3, c, c0, evPick, faddrP, okMn, q0, q0a, q0b, q0c, q4, q4a, q4b, q4c, q8, q8a, q8b, q8c, q12, q12a, q12b]
 have q12a : (n.kind == 12) = false := by simp [q12]
 have q12b : (n.kind != 12) = true := by simp at q12; simp [q12]
 have q12c : ¬ n.kind = 12 := by simp at q12; simp [q12]
 simp (config := { maxSteps := 5000000 }) [zZg.r21, he, g1, g3, c, c0, evPick, faddrP, okMn, q0, q0a, q0b, q0c, q4, q4a, q4b, q4c, q8, q8a, q8b, q8c, q12, q12a, q12b, q12c]
open Go Go.Ev
theorem made_r8 {n : Nd} {H : Heap} (hH : H = [Ob.cells (cN n)]) {env : List V} (he : env.length = 164) (g1 : eget env 1 = .ptr 0 0) (g3 : eget env 3 = .int .u8 n.kind) :
  WK (callW Φ) none (fun e s' => e = .normal ∧ s'.env.length = 164 ∧ eget s'.env 1 = .ptr 0 0 ∧ eget s'.env 3 = .int .u8 n.kind ∧ s'.marks = [] ∧ s'.heap = H ∧ eget s'.env 66 = .bool (!(beqS n.name.sp ⟨#[]⟩ && beqS n.name.pr ⟨#[]⟩ && !beqS n.name.lo ⟨#[]⟩ && decide (n.name.lo.size ≤ 1024)))) [.c (.region zZg.r8)] { env := env, marks := [], heap := H } := by
 have c : ∀ off, cellsAt H (.ptr 0 off) = some ((cN n).drop off) := fun off => by rw [hH]; rfl
 have c0 := c 0
 simp only [List.drop_zero] at c0
 have hq := eqc_nm H n.name ⟨⟨#[]⟩, ⟨#[]⟩, n.name.lo⟩
 have hb : evBuild H [.str ⟨#[]⟩, .str ⟨#[]⟩, .str ⟨#[]⟩] [(2, 1, .str n.name.lo)] = some (eNm ⟨⟨#[]⟩, ⟨#[]⟩, n.name.lo⟩, H) := rfl
 have h3 : okCells H (some 3) (some (cN n).tail) = some (eNm n.name, H) := rfl
 rw [jZv, Bool.and_true] at hq
 by_cases q0 : beqS n.name.sp ⟨#[]⟩ = true
 ·by_cases q1 : beqS n.name.pr ⟨#[]⟩ = true
  ·by_cases q2 : beqS n.name.lo ⟨#[]⟩ = true
   ·simp (config := { maxSteps := 5000000 }) [zZg.r8, he, g1, g3, c, c0, evPick, faddrP, okMn, hq, hb, h3, q0, q1, q2]
   have q2a : beqS n.name.lo ⟨#[]⟩ = false := by simp [q2]
   by_cases q4 : 1024 < n.name.lo.size
   ·have q4a : (1024 : Int) < (n.name.lo.size : Int) := by omega
    simp (config := { maxSteps := 5000000 }) [zZg.r8, he, g1, g3, c, c0, evPick, faddrP, okMn, hq, hb, h3, q0, q1, q2, q2a, q4, q4a]
   have q4a : ¬ (1024 : Int) < (n.name.lo.size : Int) := by omega
   have q4b : n.name.lo.size ≤ 1024 := by omega
   simp (config := { maxSteps := 5000000 }) [zZg.r8, he, g1, g3, c, c0, evPick, faddrP, okMn, hq, hb, h3, q0, q1, q2, q2a, q4, q4a, q4b]
  have q1a : beqS n.name.pr ⟨#[]⟩ = false := by simp [q1]
  simp (config := { maxSteps := 5000000 }) [zZg.r8, he, g1, g3, c, c0, evPick, faddrP, okMn, hq, hb, h3, q0, q1, q1a]
 have q0a : beqS n.name.sp ⟨#[]⟩ = false := by simp [q0]
 simp (config := { maxSteps := 5000000 }) [zZg.r8, he, g1, g3, c, c0, evPick, faddrP, okMn, hq, hb, h3, q0, q0a]
theorem made_r10 {n : Nd} {H : Heap} (hH : H = [Ob.cells (cN n)]) {env : List V} (he : env.length = 164) (g1 : eget env 1 = .ptr 0 0) (g3 : eget env 3 = .int .u8 n.kind) :
  WK (callW Φ) none (fun e s' => e = .normal ∧ s'.env.length = 164 ∧ eget s'.env 1 = .ptr 0 0 ∧ eget s'.env 3 = .int .u8 n.kind ∧ s'.marks = [] ∧ s'.heap = H ∧ eget s'.env 67 = .bool (!(beqS n.name.sp ⟨#[]⟩ && beqS n.name.pr ⟨#[]⟩ && beqS n.name.lo ⟨#[]⟩))) [.c (.region zZg.r10)] { env := env, marks := [], heap := H } := by
 have c : ∀ off, cellsAt H (.ptr 0 off) = some ((cN n).drop off) := fun off => by rw [hH]; rfl
 have c0 := c 0
 simp only [List.drop_zero] at c0
 have hq := eqc_nm H n.name noNm
 have hb : evBuild H [.str ⟨#[]⟩, .str ⟨#[]⟩, .str ⟨#[]⟩] [] = some (eNm noNm, H) := rfl
 have h3 : okCells H (some 3) (some (cN n).tail) = some (eNm n.name, H) := rfl
 simp only [noNm] at hq hb
 simp (config := { maxSteps := 5000000 }) [zZg.r10, he, g1, g3, c, c0, evPick, faddrP, okMn, hq, hb, h3]
end Go.Proofs.It
