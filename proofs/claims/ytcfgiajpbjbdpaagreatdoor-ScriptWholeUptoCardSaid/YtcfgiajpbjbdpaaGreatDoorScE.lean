/- Two commands, the same. No conditions. -/
import Derived.Test.YtcfgiajpbjbdpaaGreatDoorScV
set_option maxHeartbeats 16000000
set_option maxRecDepth 100000
set_option linter.unusedVariables false
set_option linter.unusedSimpArgs false
set_option linter.unusedSectionVars false
namespace Go.Proofs.Sc
open Go Go.Ev
theorem eqc_b {h : Heap} (x y : Bool) : evEqc h true (.leaf .b) (.bool x) (.bool y) = some (.bool (x != y), h) := by cases x <;> cases y <;> rfl
def Szc (c : Cmd) : Prop := c.op < 256 ∧ c.data.length < 2 ^ 62 ∧ c.list.length < 2 ^ 62 ∧ c.names.length < 2 ^ 62
theorem kZo (a b : Cmd) (za : Szc a) (zb : Szc b) (H : Heap) : callW Φ zZe [.agg (cC a), .agg (cC b)] H = some (.bool (decide (a = b)), H) := by
 have : ∃ hh, evBodyW (callW Φ) zZe.c [.agg (cC a), .agg (cC b)] [] = some (.bool (decide (a = b)), hh) := by
  refine wZg (Nat.le_of_ble_eq_true rfl) (fun env he h0 => ?_)
  have g0 := h0 0 (by simp)
  change eget env 0 = .agg (cC a) at g0
  have g1 := h0 1 (by simp)
  change eget env 1 = .agg (cC b) at g1
  clear h0
  simp [zZe.c] at he
  have c0 : ∀ off, cellsAt [.cells (cC a), .cells (cC b)] (.ptr 0 off) = some ((cC a).drop off) := fun off => rfl
  have c1 : ∀ off, cellsAt [.cells (cC a), .cells (cC b)] (.ptr 1 off) = some ((cC b).drop off) := fun off => rfl
  have b0 : evBox [] (cC a) = some (.ptr 0 0, [.cells (cC a)]) := jZU [] _ (by simp [V.isCell])
  have b1 : evBox [.cells (cC a)] (cC b) = some (.ptr 1 0, [.cells (cC a), .cells (cC b)]) := jZU [.cells (cC a)] _ (by simp [V.isCell])
  have hcc : ∀ c, (V.agg (cC c)).cells = cC c := fun c => rfl
  have U := jZA a.data b.data za.2.1
  have I := kZm a.list b.list za.2.2.1
  by_cases q_op : ((a.op : Int) != b.op) = true
  ·have hne : a ≠ b := fun e => by subst e; simp at q_op
   simp [zZe.c, zZe.r0, zZe.r1, zZe.r2, g0, g1, he, hcc, b0, b1, c0, c1, evPick, T_beq, eqc_b, vZi, q_op, hne]
  have q_opf : ((a.op : Int) != b.op) = false := by simpa using q_op
  by_cases q_a : (a.a != b.a) = true
  ·have hne : a ≠ b := fun e => by subst e; simp at q_a
   simp [zZe.c, zZe.r0, zZe.r1, zZe.r2, g0, g1, he, hcc, b0, b1, c0, c1, evPick, T_beq, eqc_b, vZi, q_opf, q_a, hne]
  have q_af : (a.a != b.a) = false := by simpa using q_a
  by_cases q_b : (a.b != b.b) = true
  ·have hne : a ≠ b := fun e => by subst e; simp at q_b
   simp [zZe.c, zZe.r0, zZe.r1, zZe.r2, g0, g1, he, hcc, b0, b1, c0, c1, evPick, T_beq, eqc_b, vZi, q_opf, q_af, q_b, hne]
  have q_bf : (a.b != b.b) = false := by simpa using q_b
  by_cases q_c : (a.c != b.c) = true
  ·have hne : a ≠ b := fun e => by subst e; simp at q_c
   simp [zZe.c, zZe.r0, zZe.r1, zZe.r2, g0, g1, he, hcc, b0, b1, c0, c1, evPick, T_beq, eqc_b, vZi, q_opf, q_af, q_bf, q_c, hne]
  have q_cf : (a.c != b.c) = false := by simpa using q_c
  by_cases q_n : (a.n != b.n) = true
  ·have hne : a ≠ b := fun e => by subst e; simp at q_n
   simp [zZe.c, zZe.r0, zZe.r1, zZe.r2, g0, g1, he, hcc, b0, b1, c0, c1, evPick, T_beq, eqc_b, vZi, q_opf, q_af, q_bf, q_cf, q_n, hne]
  have q_nf : (a.n != b.n) = false := by simpa using q_n
  by_cases q_m : (a.m != b.m) = true
  ·have hne : a ≠ b := fun e => by subst e; simp at q_m
   simp [zZe.c, zZe.r0, zZe.r1, zZe.r2, g0, g1, he, hcc, b0, b1, c0, c1, evPick, T_beq, eqc_b, vZi, q_opf, q_af, q_bf, q_cf, q_nf, q_m, hne]
  have q_mf : (a.m != b.m) = false := by simpa using q_m
  by_cases q_s : (a.s == b.s) = false
  ·have hne : a ≠ b := fun e => by subst e; simp at q_s
   simp [zZe.c, zZe.r0, zZe.r1, zZe.r2, g0, g1, he, hcc, b0, b1, c0, c1, evPick, T_beq, eqc_b, vZi, q_opf, q_af, q_bf, q_cf, q_nf, q_mf, q_s, hne]
  have q_sf : (a.s == b.s) = true := by simpa using q_s
  by_cases q_t : (a.t == b.t) = false
  ·have hne : a ≠ b := fun e => by subst e; simp at q_t
   simp [zZe.c, zZe.r0, zZe.r1, zZe.r2, g0, g1, he, hcc, b0, b1, c0, c1, evPick, T_beq, eqc_b, vZi, q_opf, q_af, q_bf, q_cf, q_nf, q_mf, q_sf, q_t, hne]
  have q_tf : (a.t == b.t) = true := by simpa using q_t
  by_cases q_yes : (a.yes != b.yes) = true
  ·have hne : a ≠ b := fun e => by subst e; simp at q_yes
   simp [zZe.c, zZe.r0, zZe.r1, zZe.r2, g0, g1, he, hcc, b0, b1, c0, c1, evPick, T_beq, eqc_b, vZi, q_opf, q_af, q_bf, q_cf, q_nf, q_mf, q_sf, q_tf, q_yes, hne]
  have q_yesf : (a.yes != b.yes) = false := by simpa using q_yes
  by_cases q_len : ((a.names.length : Int) != b.names.length) = true
  ·have hne : a ≠ b := fun e => by subst e; simp at q_len
   simp [zZe.c, zZe.r0, zZe.r1, zZe.r2, g0, g1, he, hcc, b0, b1, c0, c1, evPick, T_beq, eqc_b, vZi, q_opf, q_af, q_bf, q_cf, q_nf, q_mf, q_sf, q_tf, q_yesf, q_len, hne]
  have q_lenf : ((a.names.length : Int) != b.names.length) = false := by simpa using q_len
  have hll : a.names.length = b.names.length := by simp at q_lenf; omega
  simp [zZe.c, zZe.r0, zZe.r1, zZe.r3, g0, g1, he, hcc, b0, b1, c0, c1, evPick, T_beq, eqc_b, vZi, q_opf, q_af, q_bf, q_cf, q_nf, q_mf, q_sf, q_tf, q_yesf, q_lenf]
  refine kLoop (fun m s => ∃ i : Nat, m = a.names.length - i ∧ i ≤ a.names.length ∧ eget s.env 2 = .ptr 0 0 ∧ eget s.env 3 = .ptr 1 0 ∧ eget s.env 5 = .int .i64 i ∧ s.env.length = 106 ∧ s.marks = [] ∧ s.heap = [.cells (cC a), .cells (cC b)] ∧ a.names.take i = b.names.take i) a.names.length
   ⟨0, rfl, by omega, by simp [he], by simp [he], by simp [he], by simpa using he, rfl, rfl, rfl⟩ ?_
  rintro m ⟨env, mk, Hh⟩ ⟨i, rfl, hi, k2, k3, k5, hl, hm, hH, hw⟩
  simp only at k2 k3 k5 hl hm hH
  obtain rfl := hm
  obtain rfl := hH
  by_cases c : i < a.names.length
  ·obtain ⟨x, hx⟩ : ∃ x, a.names[i]? = some x := ⟨_, List.getElem?_eq_getElem c⟩
   obtain ⟨y, hy⟩ : ∃ y, b.names[i]? = some y := ⟨_, List.getElem?_eq_getElem (by omega)⟩
   have ia := fun H => zYat (h := H) (k := .i64) hx
   have ib := fun H => zYat (h := H) (k := .i64) hy
   have wr := wrap64 (n := (i : Int) + 1) (by have := za.2.2.2; omega) (by have := za.2.2.2; omega)
   simp [zZe.b8, zZe.r4, zZe.r6, zZe.r7, k2, k3, k5, hl, c0, c1, vZi, c]
   refine kDraw1 zZe.r5.ord ?_
   cases hq : (x == y)
   ·have hxy : x ≠ y := by simpa using hq
    have hne : a ≠ b := fun e => ne_at hx hy hxy (by rw [e])
    simp [zZe.r5, zZe.b8, zZe.r4, zZe.r6, zZe.r7, k2, k3, k5, hl, c0, c1, ia, ib, cT, T_beq, hq, hne]
   ·have hxy : x = y := by simpa using hq
    simp [zZe.r5, zZe.b8, zZe.r4, zZe.r6, zZe.r7, k2, k3, k5, hl, c0, c1, ia, ib, cT, T_beq, hq, wr]
    exact ⟨a.names.length - (i + 1), by omega, i + 1, rfl, by omega, by simp, kZr hw hx (by rw [hy, hxy])⟩
  ·have hn : a.names = b.names := by
    rw [List.take_of_length_le (by omega), List.take_of_length_le (by omega)] at hw
    exact hw
   have heq : (a = b) = (a.data = b.data ∧ a.list = b.list) := by
    have e1 : a.op = b.op := by simp at q_opf; omega
    have e2 : a.a = b.a := by simpa using q_af
    have e3 : a.b = b.b := by simpa using q_bf
    have e4 : a.c = b.c := by simpa using q_cf
    have e5 : a.n = b.n := by simpa using q_nf
    have e6 : a.m = b.m := by simpa using q_mf
    have e7 : a.s = b.s := by simpa using q_sf
    have e8 : a.t = b.t := by simpa using q_tf
    have e9 : a.yes = b.yes := by simpa using q_yesf
    cases a; cases b
    simp only at *
    subst e1 e2 e3 e4 e5 e6 e7 e8 e9 hn
    simp
   have Uh := U [.cells (cC a), .cells (cC b)]
   have Ih := I [.cells (cC a), .cells (cC b)]
   have hres : decide (a = b) = (decide (a.data = b.data) && decide (a.list = b.list)) := by
    rw [Bool.eq_iff_iff]
    simp only [decide_eq_true_eq, Bool.and_eq_true]
    exact Eq.to_iff heq
   clear heq
   cases hd : decide (a.data = b.data)
   ·rw [hd] at Uh hres
    simp [zZe.b8, zZe.r4, zZe.r6, zZe.r7, zZe.c, zZe.r0, zZe.r1, zZe.r2, zZe.r3, zZe.r9, k2, k3, k5, hl, c0, c1, vZi, c, Uh, Ih, evPick, hres]
   ·rw [hd] at Uh hres
    simp [zZe.b8, zZe.r4, zZe.r6, zZe.r7, zZe.c, zZe.r0, zZe.r1, zZe.r2, zZe.r3, zZe.r9, k2, k3, k5, hl, c0, c1, vZi, c, Uh, Ih, evPick, hres]
 obtain ⟨h', hb⟩ := this
 exact qZ7 (h := H) zZe.Φ rfl (args := [.agg (cC a), .agg (cC b)]) rfl hb rfl
end Go.Proofs.Sc
