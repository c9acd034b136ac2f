/- Whether reactions are right: the book's answer. No conditions. -/
import Derived.Test.YtoakkanklhfpmaaGreatDoorRcG
set_option maxHeartbeats 16000000
set_option maxRecDepth 100000
set_option linter.unusedVariables false
set_option linter.unusedSimpArgs false
set_option linter.unusedSectionVars false
namespace Go.Proofs.Rc
open Go Go.Ev
theorem kEnvR {call : CallF} {rnd : Option Nat} {Q : Ex → St → Prop} {k : List It} {env : List V} {mk : List Nat} {H : Heap} (h : ∀ env2 : List V, env2 = env → WK call rnd Q k { env := env2, marks := mk, heap := H }) : WK call rnd Q k { env := env, marks := mk, heap := H } := h _ rfl
def RI1 (s : Rs) (m : Nat) (st : St) : Prop := st.marks = [] ∧ ∃ i : Nat, m = s.qs.length - i ∧ i ≤ s.qs.length ∧ (eget st.env 1 = .ptr 0 0 ∧ eget st.env 3 = .int .i64 i ∧ st.env.length = 105) ∧ st.heap[0]? = some (.cells (cS s)) ∧ okQs (s.qs.take i) = true
def RI2 (s : Rs) (i p : Nat) (q : Qu) (m : Nat) (st : St) : Prop := st.marks = [] ∧ ∃ k : Nat, m = i - k ∧ k ≤ i ∧ (eget st.env 1 = .ptr 0 0 ∧ eget st.env 3 = .int .i64 i ∧ eget st.env 4 = .ptr p 0 ∧ eget st.env 5 = .int .i64 k ∧ st.env.length = 105) ∧
 st.heap[0]? = some (.cells (cS s)) ∧ st.heap[p]? = some (.cells (cQu q)) ∧ q.el ∉ els (s.qs.take k)
def RI3 (s : Rs) (i p : Nat) (q : Qu) (m : Nat) (st : St) : Prop := st.marks = [] ∧ ∃ j : Nat, m = q.l.length - j ∧ j ≤ q.l.length ∧ (eget st.env 1 = .ptr 0 0 ∧ eget st.env 3 = .int .i64 i ∧ eget st.env 4 = .ptr p 0 ∧ eget st.env 6 = .int .i64 j ∧ st.env.length = 105) ∧
 st.heap[0]? = some (.cells (cS s)) ∧ st.heap[p]? = some (.cells (cQu q)) ∧ (q.l.take j).all (okX q.el) = true
def RI4 (s : Rs) (m : Nat) (st : St) : Prop := st.marks = [] ∧ ∃ i : Nat, m = s.st.length - i ∧ i ≤ s.st.length ∧ (eget st.env 1 = .ptr 0 0 ∧ eget st.env 7 = .int .i64 i ∧ st.env.length = 105) ∧ st.heap[0]? = some (.cells (cS s)) ∧ (s.st.take i).all elemsB = true
theorem xZT (s : Rs) (z : SzS s) (H : Heap) : callW Φ zZC [.agg (cS s)] H = some (.bool (rightB s), H) := by
 have : ∃ hh, evBodyW (callW Φ) zZC.c [.agg (cS s)] [] = some (.bool (rightB s), hh) := by
  refine jZ0 (Nat.le_of_ble_eq_true rfl) (fun env he h0 => ?_)
  have g0 := h0 0 (by simp)
  change eget env 0 = .agg (cS s) at g0
  clear h0
  simp [zZC.c] at he
  obtain ⟨R, hR⟩ : ∃ R : Bool, R = rightB s := ⟨_, rfl⟩
  rw [← hR]
  have hmany := jZy s z
  obtain ⟨z1, z2, z3, z4, z5⟩ := z
  have b0 : evBox [] (cS s) = some (.ptr 0 0, [.cells (cS s)]) := wZs [] _ rfl
  have hcc : (V.agg (cS s)).cells = cS s := rfl
  have ok4 : ∀ H : Heap, okCells H (some 4) (some (cS s)) = some (.agg (cS s), H) := fun _ => rfl
  have okq : ∀ H : Heap, okCells H none (some (cS s)) = some (.arr (s.qs.map cQu), H) := fun _ => rfl
  have hel := xZW s.bk z3
  have bad : ∀ {b : Bool}, rightB s = b → R = b := fun h => by rw [hR, h]
  simp [zZC.c, zZC.r0, zZC.r1, g0, he, hcc, b0]
  refine kLoop (RI1 s) s.qs.length ⟨rfl, 0, rfl, by omega, ⟨by simp [he], by simp [he], by simpa using he⟩, rfl, by simp [okQs, els]⟩ ?_
  clear g0 he env b0 hcc
  rintro m ⟨env, mk, S⟩ ⟨hm, i, rfl, hi, ⟨k1, k3, hl⟩, hS, hok⟩
  simp only at hm k1 k3 hl hS
  obtain rfl := hm
  have hlS := (List.getElem?_eq_some_iff.1 hS).1
  have c0 : cellsAt S (.ptr 0 0) = some (cS s) := qZo hS 0
  by_cases c : i < s.qs.length
  ·have cc : (i : Int) < s.qs.length := by omega
   obtain ⟨q, hq⟩ : ∃ q, s.qs[i]? = some q := ⟨_, List.getElem?_eq_getElem c⟩
   have ia := jZq (h := S) (k := .i64) hq
   have sx := zYaa S q
   have wr := wrap64 (n := (i : Int) + 1) (by omega) (by omega)
   obtain ⟨S1, hS1⟩ : ∃ S1, S1 = S ++ [.cells (cQu q)] := ⟨_, rfl⟩
   have cq := cells_qu S q
   rw [← hS1] at sx cq
   have zq := z4 q (List.mem_of_getElem? hq)
   unfold SzQ at zq
   by_cases e1 : q.el < 1
   ·have hb := bad (jZL (kZr hq (.inl (by simp [okQ1]; omega))))
    simp [zZC.c, zZC.r0, zZC.r1, zZC.r20, zZC.r26, zZC.b11, zZC.b17, zZC.b19, zZC.b25, zZC.r2, zZC.r3, zZC.r4, zZC.r5, zZC.r6, zZC.r7, zZC.r9, zZC.r10, zZC.r12, zZC.r13, zZC.r15, zZC.r16, zZC.r18, zZC.r21, zZC.r22, zZC.r23, zZC.r24, k1, k3, hl, c0, okq, vZa, cc, ia, okQu, sx, cq, e1, evPick, hb]
   by_cases e3 : q.l = []
   ·have hb := bad (jZL (kZr hq (.inl (by simp [okQ1, e3]))))
    simp [zZC.c, zZC.r0, zZC.r1, zZC.r20, zZC.r26, zZC.b11, zZC.b17, zZC.b19, zZC.b25, zZC.r2, zZC.r3, zZC.r4, zZC.r5, zZC.r6, zZC.r7, zZC.r9, zZC.r10, zZC.r12, zZC.r13, zZC.r15, zZC.r16, zZC.r18, zZC.r21, zZC.r22, zZC.r23, zZC.r24, k1, k3, hl, c0, okq, cc, ia, okQu, sx, cq, e1, e3, vZa, evPick, hb]
   have e4 : ((q.l.length : Int) == 0) = false := by
    have : q.l.length ≠ 0 := fun e => e3 (List.eq_nil_of_length_eq_zero e)
    simp; omega
   have hS1' : S1[0]? = some (.cells (cS s)) := by rw [hS1, List.getElem?_append_left hlS]; exact hS
   have hP1 : S1[S.length]? = some (.cells (cQu q)) := by rw [hS1]; simp
   simp [zZC.b19, zZC.r2, zZC.r3, zZC.r4, zZC.r6, k1, k3, hl, c0, okq, cc, ia, okQu, sx, cq, e1, e4, vZa, evPick]
   refine kLoop (RI2 s i S.length q) i ⟨rfl, 0, rfl, by omega, ⟨by simp [hl, k1], by simp [hl, k3], by simp [hl], by simp [hl], by simpa using hl⟩, hS1', hP1, by simp [els]⟩ ?_
   obtain ⟨p, hp⟩ : ∃ p, p = S.length := ⟨_, rfl⟩
   rw [← hp]
   clear k1 k3 hl ia sx hS1 cq hS1' hP1 hS hlS c0 hp env S1 S
   rintro m ⟨env, mk, S⟩ ⟨hm, k, rfl, hk, ⟨k1, k3, k4, k5, hl⟩, hS, hP, hn⟩
   simp only at hm k1 k3 k4 k5 hl hS hP
   obtain rfl := hm
   have c0 : cellsAt S (.ptr 0 0) = some (cS s) := qZo hS 0
   have cp : cellsAt S (.ptr p 0) = some (cQu q) := qZo hP 0
   have x3 : ∀ H, okCells H none (some (cQu q)) = some (.int .i64 q.el, H) := fun _ => rfl
   by_cases d : k < i
   ·have dd : (k : Int) < i := by omega
    obtain ⟨x, hx⟩ : ∃ x, s.qs[k]? = some x := ⟨_, List.getElem?_eq_getElem (by omega)⟩
    have ib := jZq (h := S) (k := .i64) hx
    have x4 : ∀ H, okCells H none (some (cQu x)) = some (.int .i64 x.el, H) := fun _ => rfl
    have wk := wrap64 (n := (k : Int) + 1) (by omega) (by omega)
    simp [zZC.b11, zZC.r7, k1, k3, k4, k5, hl, dd]
    refine kDraw1 zZC.r8.ord ?_
    cases e1 : (x.el == q.el)
    ·have e2 : x.el ≠ q.el := by simpa using e1
     simp [zZC.r8, zZC.r10, k1, k3, k4, k5, hl, c0, okq, cp, ib, x3, x4, cQu, e1, wk]
     refine ⟨i - (k + 1), by omega, rfl, k + 1, rfl, by omega, ⟨by simp [hl, k1], by simp [hl, k3], by simp [hl, k4], by simp [hl], by simp [hl]⟩, hS, hP, ?_⟩
     rw [els_take hx, List.mem_append, List.mem_singleton]
     exact fun h => h.elim hn fun h => e2 h.symm
    ·have e2 : x.el = q.el := by simpa using e1
     have hmem : q.el ∈ els (s.qs.take i) := by
      rw [← e2]
      exact List.mem_map.2 ⟨x, List.mem_take_iff_getElem.2 ⟨k, by omega, Option.some.inj ((List.getElem?_eq_getElem (by omega)).symm.trans hx)⟩, rfl⟩
     have hb := bad (jZL (kZr hq (.inr hmem)))
     simp [zZC.c, zZC.b19, zZC.b11, zZC.r8, zZC.r9, k1, k3, k4, k5, hl, c0, okq, cp, ib, x3, x4, cQu, e1, hb]
   ·have dd : ¬ (k : Int) < i := by omega
    obtain rfl : k = i := by omega
    simp [zZC.b11, zZC.r7, zZC.r12, k1, k3, k4, k5, hl, dd]
    refine kLoop (RI3 s k p q) q.l.length ⟨rfl, 0, rfl, by omega, ⟨by simp [hl, k1], by simp [hl, k3], by simp [hl, k4], by simp [hl], by simpa using hl⟩, hS, hP, by simp⟩ ?_
    clear k1 k3 k4 k5 hl hS hP c0 cp dd d hk env S
    rintro m ⟨env, mk, S⟩ ⟨hm, j, rfl, hj, ⟨k1, k3, k4, k6, hl⟩, hS, hP, hw⟩
    simp only at hm k1 k3 k4 k6 hl hS hP
    obtain rfl := hm
    have cp : cellsAt S (.ptr p 0) = some (cQu q) := qZo hP 0
    have cp1 : cellsAt S (.ptr p 1) = some [.arr (q.l.map cX)] := qZo hP 1
    by_cases d : j < q.l.length
    ·have dd : (j : Int) < q.l.length := by omega
     obtain ⟨r, hr⟩ : ∃ r, q.l[j]? = some r := ⟨_, List.getElem?_eq_getElem d⟩
     have ib := xZ9 (h := S) (k := .i64) hr
     have wj := wrap64 (n := (j : Int) + 1) (by omega) (by omega)
     have x1 : ∀ H, okCells H none (some (cX r)) = some (.int .i64 r.el, H) := fun _ => rfl
     have x2 : ∀ H, okCells H none (some (cX r).tail) = some (.int .u8 r.kind, H) := fun _ => rfl
     have f1 : faddrV 1 (.iptr (cX r)) = some (.iptr (cX r).tail) := rfl
     simp [zZC.b17, zZC.r13, k1, k3, k4, k6, hl, cp1, vZa, dd]
     refine kDraw1 zZC.r14.ord ?_
     cases e1 : (r.el != q.el)
     ·have e1' : r.el = q.el := by simpa using e1
      by_cases e2 : ((r.kind : Int) == 0) = true
      ·have hb := bad (jZL (kZr hq (.inl (zYah hr (by simp at e2; simp [okX, e2])))))
       simp [zZC.c, zZC.b19, zZC.b17, zZC.r14, zZC.r15, k1, k3, k4, k6, hl, cp, cp1, ib, x1, x2, x3, f1, e1, e2, evPick, hb]
      have e2f : ((r.kind : Int) == 0) = false := by simpa using e2
      by_cases e3 : 6 ≤ (r.kind : Int)
      ·have hb := bad (jZL (kZr hq (.inl (zYah hr (by simp [okX]; omega)))))
       simp [zZC.c, zZC.b19, zZC.b17, zZC.r14, zZC.r15, k1, k3, k4, k6, hl, cp, cp1, ib, x1, x2, x3, f1, e1, e2f, e3, evPick, hb]
      have hok1 : okX q.el r = true := by simp at e2f; simp [okX, e1']; omega
      simp [zZC.r14, zZC.r16, k1, k3, k4, k6, hl, cp, cp1, ib, x1, x2, x3, f1, e1, e2f, e3, evPick, wj]
      exact ⟨q.l.length - (j + 1), by omega, rfl, j + 1, rfl, by omega, ⟨by simp [hl, k1], by simp [hl, k3], by simp [hl, k4], by simp [hl], by simp [hl]⟩, hS, hP, xZ8 hr hw hok1⟩
     ·have e1' : r.el ≠ q.el := by simpa using e1
      have hb := bad (jZL (kZr hq (.inl (zYah hr (by simp [okX, e1'])))))
      simp [zZC.c, zZC.b19, zZC.b17, zZC.r14, zZC.r15, k1, k3, k4, k6, hl, cp, cp1, ib, x1, x2, x3, f1, e1, evPick, hb]
    ·have dd : ¬ (j : Int) < q.l.length := by omega
     rw [List.take_of_length_le (by omega)] at hw
     have hq1 : okQ1 q = true := by
      simp only [okQ1, hw, Bool.and_true, Bool.and_eq_true, decide_eq_true_eq]
      exact ⟨by omega, e3⟩
     simp [zZC.b17, zZC.r13, zZC.r18, k1, k3, k4, k6, hl, cp1, vZa, dd, wr]
     exact ⟨s.qs.length - (k + 1), by omega, rfl, k + 1, rfl, by omega, ⟨by simp [hl, k1], by simp [hl], by simp [hl]⟩, hS, okQs_take hq hok hq1 hn⟩
  ·have cc : ¬ (i : Int) < s.qs.length := by omega
   rw [List.take_of_length_le (by omega)] at hok
   simp [zZC.b19, zZC.r2, zZC.r20, k1, k3, hl, c0, okq, cc, vZa]
   refine kLoop (RI4 s) s.st.length ⟨rfl, 0, rfl, by omega, ⟨by simp [hl, k1], by simp [hl], by simpa using hl⟩, hS, by simp⟩ ?_
   clear k1 k3 hl hS hlS c0 env S
   rintro m ⟨env, mk, S⟩ ⟨hm, j, rfl, hj, ⟨k1, k7, hl⟩, hS, hw⟩
   simp only at hm k1 k7 hl hS
   obtain rfl := hm
   have c0 : cellsAt S (.ptr 0 0) = some (cS s) := qZo hS 0
   have c1 : cellsAt S (.ptr 0 1) = some ((cS s).drop 1) := qZo hS 1
   have c2 : cellsAt S (.ptr 0 2) = some ((cS s).drop 2) := qZo hS 2
   by_cases d : j < s.st.length
   ·have dd : (j : Int) < s.st.length := by omega
    obtain ⟨l, hll⟩ : ∃ l, s.st[j]? = some l := ⟨_, List.getElem?_eq_getElem d⟩
    have ib := xZ1 (h := S) (k := .i64) hll
    have wj := wrap64 (n := (j : Int) + 1) (by omega) (by omega)
    have hel := xZW l (z5 l (List.mem_of_getElem? hll))
    cases e1 : elemsB l
    ·have hb := bad (wrong_st (List.mem_of_getElem? hll) e1)
     simp [zZC.c, zZC.b25, zZC.r21, zZC.r22, zZC.r23, k1, k7, hl, c1, dd, ib, okL, hel, e1, vZa, hb]
    ·simp [zZC.b25, zZC.r21, zZC.r22, zZC.r24, k1, k7, hl, c1, dd, ib, okL, hel, e1, vZa, wj]
     exact ⟨s.st.length - (j + 1), by omega, rfl, j + 1, rfl, by omega, ⟨by simp [hl, k1], by simp [hl], by simp [hl]⟩, hS, xZ8 hll hw e1⟩
   ·have dd : ¬ (j : Int) < s.st.length := by omega
    rw [List.take_of_length_le (by omega)] at hw
    simp [zZC.b25, zZC.r21, k1, k7, hl, c1, dd, vZa]
    refine kEnvR fun env2 hE => ?_
    have j1 : eget env2 1 = .ptr 0 0 := by rw [hE]; simp [hl, k1]
    have jl : env2.length = 105 := by rw [hE]; simp [hl]
    clear hE k1 k7 hl
    by_cases q1 : manyW s.qs ≤ 4096
    ·by_cases q2 : s.st.length ≤ 1024
     ·have q2' : (s.st.length : Int) ≤ 1024 := by omega
      cases q3 : elemsB s.bk
      ·have hb := bad (wrong_bk q3)
       simp [zZC.c, zZC.r26, j1, jl, c0, c1, c2, ok4, hmany, q1, q2', hel, q3, vZa, evPick, hb]
      ·have hb := bad (right_all (by omega) (by omega) q3 hok hw)
       simp [zZC.c, zZC.r26, j1, jl, c0, c1, c2, ok4, hmany, q1, q2', hel, q3, vZa, evPick, hb]
     ·have q2' : ¬ (s.st.length : Int) ≤ 1024 := by omega
      have hb := bad (zYaf (by omega))
      simp [zZC.c, zZC.r26, j1, jl, c0, c1, ok4, hmany, q1, q2', vZa, evPick, hb]
    ·have hb := bad (zYai (by omega))
     simp [zZC.c, zZC.r26, j1, jl, c0, c1, ok4, hmany, q1, vZa, evPick, hb]
 obtain ⟨h', hb⟩ := this
 exact wZe (h := H) zZC.Φ rfl (args := [.agg (cS s)]) rfl hb rfl
end Go.Proofs.Rc
