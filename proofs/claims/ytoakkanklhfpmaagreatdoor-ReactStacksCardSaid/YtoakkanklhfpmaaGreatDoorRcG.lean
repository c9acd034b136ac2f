/- Whether reactions are right: the program's answer. No conditions. -/
import Derived.Test.YtoakkanklhfpmaaGreatDoorRcD
set_option maxHeartbeats 16000000
set_option maxRecDepth 100000
set_option linter.unusedVariables false
set_option linter.unusedSimpArgs false
set_option linter.unusedSectionVars false
namespace Go.Proofs.Rc
open Go Go.Ev
theorem zYai {s : Rs} (h : 4096 < manyW s.qs) : rightB s = false := by
 have : decide (manyW s.qs ≤ 4096) = false := by simp; omega
 simp only [rightB, this, Bool.and_false, Bool.false_and]
theorem zYaf {s : Rs} (h : 1024 < s.st.length) : rightB s = false := by
 have : decide (s.st.length ≤ 1024) = false := by simp; omega
 simp only [rightB, this, Bool.and_false, Bool.false_and]
theorem wrong_bk {s : Rs} (h : elemsB s.bk = false) : rightB s = false := by simp only [rightB, h, Bool.and_false]
theorem jZL {s : Rs} (h : okQs s.qs = false) : rightB s = false := by simp only [rightB, h, Bool.false_and]
theorem wrong_st {s : Rs} {l : List Int} (hl : l ∈ s.st) (h : elemsB l = false) : rightB s = false := by
 have : s.st.all elemsB = false := List.all_eq_false.2 ⟨l, hl, by rw [h]; simp⟩
 simp only [rightB, this, Bool.and_false, Bool.false_and]
theorem right_all {s : Rs} (h1 : ¬ 4096 < manyW s.qs) (h2 : ¬ 1024 < s.st.length) (h3 : elemsB s.bk = true) (h4 : okQs s.qs = true) (h5 : s.st.all elemsB = true) : rightB s = true := by
 have a : decide (manyW s.qs ≤ 4096) = true := by simp; omega
 have b : decide (s.st.length ≤ 1024) = true := by simp; omega
 simp only [rightB, a, b, h3, h4, h5, Bool.and_self]
theorem zYah {q : Qu} {j : Nat} {r : Rx} (hr : q.l[j]? = some r) (h : okX q.el r = false) : okQ1 q = false := by
 have : q.l.all (okX q.el) = false := List.all_eq_false.2 ⟨r, List.mem_of_getElem? hr, by rw [h]; simp⟩
 simp only [okQ1, this, Bool.and_false]
theorem xZ8 {α : Type} {f : α → Bool} {l : List α} {j : Nat} {r : α} (hr : l[j]? = some r) (h : (l.take j).all f = true) (h1 : f r = true) : (l.take (j + 1)).all f = true := by
 rw [List.take_add_one, hr]
 simp only [Option.toList_some, List.all_append, h, List.all_cons, h1, List.all_nil, Bool.and_self]
def CI1 (s : Rs) (M : Nat) (m : Nat) (st : St) : Prop := st.marks = [] ∧ ∃ i : Nat, m = s.qs.length - i ∧ i ≤ s.qs.length ∧
 (eget st.env 1 = .ptr 0 0 ∧ eget st.env 3 = .map M ∧ eget st.env 27 = .arr (s.qs.map cQu) ∧ eget st.env 28 = .int .i64 s.qs.length ∧ eget st.env 29 = .int .i64 i ∧ st.env.length = 86) ∧
 st.heap[0]? = some (.cells (cS s)) ∧ SetM st.heap M (els (s.qs.take i)) ∧ okQs (s.qs.take i) = true
def CI2 (s : Rs) (M i p : Nat) (q : Qu) (m : Nat) (st : St) : Prop := st.marks = [] ∧ ∃ j : Nat, m = q.l.length - j ∧ j ≤ q.l.length ∧
  (eget st.env 1 = .ptr 0 0 ∧ eget st.env 3 = .map M ∧ eget st.env 27 = .arr (s.qs.map cQu) ∧ eget st.env 28 = .int .i64 s.qs.length ∧ eget st.env 29 = .int .i64 i ∧ st.env.length = 86 ∧
   eget st.env 5 = .ptr p 0 ∧ eget st.env 52 = .arr (q.l.map cX) ∧ eget st.env 53 = .int .i64 q.l.length ∧ eget st.env 54 = .int .i64 j) ∧
  st.heap[0]? = some (.cells (cS s)) ∧ st.heap[p]? = some (.cells (cQu q)) ∧ SetM st.heap M (els (s.qs.take (i + 1))) ∧ (q.l.take j).all (okX q.el) = true
def CI3 (s : Rs) (m : Nat) (st : St) : Prop := st.marks = [] ∧ ∃ i : Nat, m = s.st.length - i ∧ i ≤ s.st.length ∧
 (eget st.env 76 = .arr (s.st.map cL) ∧ eget st.env 77 = .int .i64 s.st.length ∧ eget st.env 78 = .int .i64 i ∧ st.env.length = 86) ∧ (s.st.take i).all elemsB = true
theorem wZi (s : Rs) (z : SzS s) (H : Heap) : callW Φ zZe [.agg (cS s)] H = some (.int .i64 (if rightB s then 0 else 15), H) := by
 have : ∃ hh, evBodyW (callW Φ) zZe.c [.agg (cS s)] [] = some (.int .i64 (if rightB s then 0 else 15), hh) := by
  refine jZ0 (Nat.le_of_ble_eq_true rfl) (fun env he h0 => ?_)
  have g0 := h0 0 (by simp)
  change eget env 0 = .agg (cS s) at g0
  clear h0
  simp [zZe.c] at he
  obtain ⟨R, hR⟩ : ∃ R : Int, R = (if rightB s then 0 else 15) := ⟨_, rfl⟩
  rw [← hR]
  obtain ⟨r0, S1, hm1, rfl, hl1, hk1⟩ := xZh s z [.cells (cS s)]
  obtain ⟨z1, z2, z3, z4, z5⟩ := z
  have b0 : evBox [] (cS s) = some (.ptr 0 0, [.cells (cS s)]) := wZs [] _ rfl
  have hcc : (V.agg (cS s)).cells = cS s := rfl
  have c0 : cellsAt [.cells (cS s)] (.ptr 0 0) = some (cS s) := rfl
  have ok0 : ∀ H : Heap, okCells H (some 4) (some (cS s)) = some (.agg (cS s), H) := fun _ => rfl
  have p0 : S1[0]? = some (.cells (cS s)) := by rw [hk1 0 (by simp)]; rfl
  have c1 := qZo p0 1
  have c2 := qZo p0 2
  have c3 := qZo p0 0
  have hel := wZM s.bk z3
  have bad : ∀ {b : Bool}, rightB s = b → R = (if b then 0 else 15) := fun h => by rw [hR, h]
  by_cases q1 : 4096 < manyW s.qs
  ·have hb := bad (zYai q1)
   simp at hb
   simp [zZe.c, zZe.r0, zZe.r1, zZe.r2, zZe.r3, zZe.r4, zZe.r19, zZe.r26, g0, he, hcc, b0, c0, ok0, hm1, q1, evPick, hb]
  by_cases q2 : 1024 < s.st.length
  ·have hb := bad (zYaf q2)
   simp at hb
   have q2' : (1024 : Int) < s.st.length := by omega
   simp [zZe.c, zZe.r0, zZe.r1, zZe.r2, zZe.r3, zZe.r4, zZe.r19, zZe.r26, g0, he, hcc, b0, c0, ok0, hm1, q1, c1, vZa, q2', evPick, hb]
  have q2' : ¬ (1024 : Int) < s.st.length := by omega
  cases q3 : elemsB s.bk
  ·have hb := bad (wrong_bk q3)
   simp at hb
   simp [zZe.c, zZe.r0, zZe.r1, zZe.r2, zZe.r3, zZe.r4, zZe.r19, zZe.r26, g0, he, hcc, b0, c0, ok0, hm1, q1, c1, c2, vZa, q2', hel, q3, evPick, hb]
  have p1 : (S1 ++ [Ob.map [] 0])[0]? = some (.cells (cS s)) := by rw [List.getElem?_append_left (by simp at hl1; omega)]; exact p0
  have c4 := qZo p1 0
  simp [zZe.c, zZe.r0, zZe.r1, zZe.r3, zZe.r4, g0, he, hcc, b0, c0, ok0, hm1, q1, c1, c2, c3, c4, vZa, q2', hel, q3, evPick]
  obtain ⟨M, hM⟩ : ∃ M, M = S1.length := ⟨_, rfl⟩
  have hM0 : M ≠ 0 := by rw [hM]; simp at hl1; omega
  have m1 : SetM (S1 ++ [Ob.map [] 0]) M [] := by unfold SetM; rw [hM]; simp [mpS]
  rw [← hM]
  refine kLoop (CI1 s M) s.qs.length ⟨rfl, 0, rfl, by omega, ⟨by simp [he], by simp [he], by simp [he], by simp [he], by simp [he], by simpa using he⟩, p1, by simpa [els] using m1, by simp [okQs, els]⟩ ?_
  clear g0 he env b0 hcc c0 ok0 hm1 hl1 hk1 p0 c1 c2 c3 hel p1 c4 m1 hM S1
  rintro m ⟨env, mk, S⟩ ⟨hm, i, rfl, hi, ⟨k1, k3, k27, k28, k29, hl⟩, hS, hM, hok⟩
  simp only at hm k1 k3 k27 k28 k29 hl hS hM
  obtain rfl := hm
  by_cases c : i < s.qs.length
  ·have cc : (i : Int) < s.qs.length := by omega
   obtain ⟨q, hq⟩ : ∃ q, s.qs[i]? = some q := ⟨_, List.getElem?_eq_getElem c⟩
   have ia := jZq (h := S) (k := .i64) hq
   have sx := zYaa S q
   have wr := wrap64 (n := (i : Int) + 1) (by omega) (by omega)
   obtain ⟨S1, hS1⟩ : ∃ S1, S1 = S ++ [.cells (cQu q)] := ⟨_, rfl⟩
   have cq := cells_qu S q
   rw [← hS1] at sx cq
   have hlS := (List.getElem?_eq_some_iff.1 hS).1
   have hlM := (List.getElem?_eq_some_iff.1 hM).1
   have hMS1 : SetM S1 M (els (s.qs.take i)) := hM.mono (by rw [hS1, List.getElem?_append_left hlM])
   have lk := hMS1.look q.el
   have zq := z4 q (List.mem_of_getElem? hq)
   unfold SzQ at zq
   by_cases e1 : q.el < 1
   ·have hb := bad (jZL (kZr hq (.inl (by simp [okQ1]; omega))))
    simp at hb
    simp [zZe.c, zZe.r0, zZe.r1, zZe.r2, zZe.r3, zZe.r4, zZe.r19, zZe.r26, zZe.b16, zZe.b18, zZe.b25, zZe.r5, zZe.r6, zZe.r7, zZe.r8, zZe.r9, zZe.r10, zZe.r11, zZe.r12, zZe.r13, zZe.r14, zZe.r15, zZe.r17, zZe.r20, zZe.r21, zZe.r22, zZe.r23, zZe.r24, k1, k3, k27, k28, k29, hl, cc, ia, okQu, sx, cq, e1, evPick, hb]
   by_cases e2 : q.el ∈ els (s.qs.take i)
   ·have hb := bad (jZL (kZr hq (.inr e2)))
    simp at hb
    simp [zZe.c, zZe.r0, zZe.r1, zZe.r2, zZe.r3, zZe.r4, zZe.r19, zZe.r26, zZe.b16, zZe.b18, zZe.b25, zZe.r5, zZe.r6, zZe.r7, zZe.r8, zZe.r9, zZe.r10, zZe.r11, zZe.r12, zZe.r13, zZe.r14, zZe.r15, zZe.r17, zZe.r20, zZe.r21, zZe.r22, zZe.r23, zZe.r24, k1, k3, k27, k28, k29, hl, cc, ia, okQu, sx, cq, e1, lk, e2, evPick, hb]
   by_cases e3 : q.l = []
   ·have hb := bad (jZL (kZr hq (.inl (by simp [okQ1, e3]))))
    simp at hb
    simp [zZe.c, zZe.r0, zZe.r1, zZe.r2, zZe.r3, zZe.r4, zZe.r19, zZe.r26, zZe.b16, zZe.b18, zZe.b25, zZe.r5, zZe.r6, zZe.r7, zZe.r8, zZe.r9, zZe.r10, zZe.r11, zZe.r12, zZe.r13, zZe.r14, zZe.r15, zZe.r17, zZe.r20, zZe.r21, zZe.r22, zZe.r23, zZe.r24, k1, k3, k27, k28, k29, hl, cc, ia, okQu, sx, cq, e1, lk, e2, e3, vZa, evPick, hb]
   have e4 : ((q.l.length : Int) == 0) = false := by
    have : q.l.length ≠ 0 := fun e => e3 (List.eq_nil_of_length_eq_zero e)
    simp; omega
   obtain ⟨S2, up, hM2, hl2, hk2⟩ := hMS1.put e2
   have hMp : M ≠ S.length := by omega
   have p2 : S2[S.length]? = some (.cells (cQu q)) := by rw [hk2 _ (Ne.symm hMp), hS1]; simp
   have c2 := qZo p2 1
   have hS2 : S2[0]? = some (.cells (cS s)) := by rw [hk2 _ (Ne.symm hM0), hS1, List.getElem?_append_left hlS]; exact hS
   rw [← els_take hq] at hM2
   have c2' : cellsAt S2 (.ptr S.length 1) = some [.arr (q.l.map cX)] := c2
   simp [zZe.b18, zZe.r5, zZe.r6, zZe.r7, zZe.r9, zZe.r10, k1, k3, k27, k28, k29, hl, cc, ia, okQu, sx, cq, e1, lk, e2, e4, up, c2', vZa, evPick]
   refine kLoop (CI2 s M i S.length q) q.l.length ⟨rfl, 0, rfl, by omega, ⟨by simp [hl, k1], by simp [hl, k3], by simp [hl, k27], by simp [hl, k28], by simp [hl, k29], by simpa using hl, by simp [hl], by simp [hl], by simp [hl], by simp [hl]⟩, hS2, p2, hM2, by simp⟩ ?_
   obtain ⟨p, hp⟩ : ∃ p, p = S.length := ⟨_, rfl⟩
   rw [← hp]
   clear k1 k3 k27 k28 k29 hl ia sx hS1 cq hMS1 lk up hM2 hl2 hk2 hMp p2 c2 c2' hS2 hS hM hlS hlM hp env S2 S1 S
   rintro m ⟨env, mk, S⟩ ⟨hm, j, rfl, hj, ⟨k1, k3, k27, k28, k29, hl, k5, k52, k53, k54⟩, hS, hP, hM, hw⟩
   simp only at hm k1 k3 k27 k28 k29 hl k5 k52 k53 k54 hS hP hM
   obtain rfl := hm
   have hlS := (List.getElem?_eq_some_iff.1 hS).1
   have hlM := (List.getElem?_eq_some_iff.1 hM).1
   have hlP := (List.getElem?_eq_some_iff.1 hP).1
   by_cases d : j < q.l.length
   ·have dd : (j : Int) < q.l.length := by omega
    obtain ⟨r, hr⟩ : ∃ r, q.l[j]? = some r := ⟨_, List.getElem?_eq_getElem d⟩
    have ib := xZ9 (h := S) (k := .i64) hr
    have sr := store_rx S r
    have wj := wrap64 (n := (j : Int) + 1) (by omega) (by omega)
    obtain ⟨S1, hS1⟩ : ∃ S1, S1 = S ++ [.cells (cX r)] := ⟨_, rfl⟩
    have cr0 : cellsAt (S ++ [.cells (cX r)]) (.ptr S.length 0) = some (cX r) := wZt S (cX r) 0
    have cr1 : cellsAt (S ++ [.cells (cX r)]) (.ptr S.length 1) = some ((cX r).drop 1) := wZt S (cX r) 1
    have hP1 : (S ++ [.cells (cX r)])[p]? = some (.cells (cQu q)) := by rw [List.getElem?_append_left hlP]; exact hP
    have cp : cellsAt (S ++ [.cells (cX r)]) (.ptr p 0) = some (cQu q) := qZo hP1 0
    rw [← hS1] at sr cr0 cr1 cp
    have x1 : ∀ H, okCells H none (some (cX r)) = some (.int .i64 r.el, H) := fun _ => rfl
    have x2 : ∀ H, okCells H none (some (cX r).tail) = some (.int .u8 r.kind, H) := fun _ => rfl
    have x3 : ∀ H, okCells H none (some (cQu q)) = some (.int .i64 q.el, H) := fun _ => rfl
    cases e1 : (r.el != q.el)
    ·have e1' : r.el = q.el := by simpa using e1
     by_cases e2 : (r.kind : Int) < 1
     ·have hb := bad (jZL (kZr hq (.inl (zYah hr (by simp [okX]; omega)))))
      simp at hb
      simp [zZe.c, zZe.b16, zZe.b18, zZe.r11, zZe.r12, zZe.r13, zZe.r14, zZe.r26, k1, k3, k27, k28, k29, hl, k5, k52, k53, k54, dd, ib, okX1, sr, cr0, cr1, cp, x1, x2, x3, e1, e2, evPick, hb]
     by_cases e3 : 6 ≤ (r.kind : Int)
     ·have hb := bad (jZL (kZr hq (.inl (zYah hr (by simp [okX]; omega)))))
      simp at hb
      simp [zZe.c, zZe.b16, zZe.b18, zZe.r11, zZe.r12, zZe.r13, zZe.r14, zZe.r26, k1, k3, k27, k28, k29, hl, k5, k52, k53, k54, dd, ib, okX1, sr, cr0, cr1, cp, x1, x2, x3, e1, e2, e3, evPick, hb]
     have hok1 : okX q.el r = true := by simp [okX, e1']; omega
     simp [zZe.b16, zZe.r11, zZe.r12, zZe.r13, zZe.r15, k1, k3, k27, k28, k29, hl, k5, k52, k53, k54, dd, ib, okX1, sr, cr0, cr1, cp, x1, x2, x3, e1, e2, e3, evPick, wj]
     exact ⟨q.l.length - (j + 1), by omega, rfl, j + 1, rfl, by omega, ⟨by simp [hl, k1], by simp [hl, k3], by simp [hl, k27], by simp [hl, k28], by simp [hl, k29], by simp [hl], by simp [hl, k5], by simp [hl, k52], by simp [hl, k53], by simp [hl]⟩, by rw [hS1, List.getElem?_append_left hlS]; exact hS, by rw [hS1]; exact hP1, hM.mono (by rw [hS1, List.getElem?_append_left hlM]), xZ8 hr hw hok1⟩
    ·have e1' : r.el ≠ q.el := by simpa using e1
     have hb := bad (jZL (kZr hq (.inl (zYah hr (by simp [okX, e1'])))))
     simp at hb
     simp [zZe.c, zZe.b16, zZe.b18, zZe.r11, zZe.r12, zZe.r13, zZe.r14, zZe.r26, k1, k3, k27, k28, k29, hl, k5, k52, k53, k54, dd, ib, okX1, sr, cr0, cr1, cp, x1, x2, x3, e1, evPick, hb]
   ·have dd : ¬ (j : Int) < q.l.length := by omega
    rw [List.take_of_length_le (by omega)] at hw
    have hq1 : okQ1 q = true := by
     simp only [okQ1, hw, Bool.and_true, Bool.and_eq_true, decide_eq_true_eq]
     exact ⟨by omega, e3⟩
    simp [zZe.b16, zZe.r11, zZe.r17, k1, k3, k27, k28, k29, hl, k5, k52, k53, k54, dd, wr]
    exact ⟨s.qs.length - (i + 1), by omega, rfl, i + 1, rfl, by omega, ⟨by simp [hl, k1], by simp [hl, k3], by simp [hl, k27], by simp [hl, k28], by simp [hl], by simp [hl]⟩, hS, hM, okQs_take hq hok hq1 e2⟩
  ·have cc : ¬ (i : Int) < s.qs.length := by omega
   rw [List.take_of_length_le (by omega)] at hok
   have c1 := qZo hS 1
   have c1' : cellsAt S (.ptr 0 1) = some ((cS s).drop 1) := c1
   simp [zZe.b18, zZe.r5, zZe.r19, k1, k3, k27, k28, k29, hl, cc, c1', vZa]
   refine kLoop (CI3 s) s.st.length ⟨rfl, 0, rfl, by omega, ⟨by simp [hl], by simp [hl], by simp [hl], by simpa using hl⟩, by simp⟩ ?_
   clear k1 k3 k27 k28 k29 hl hS hM c1 c1' env S
   rintro m ⟨env, mk, S⟩ ⟨hm, j, rfl, hj, ⟨k76, k77, k78, hl⟩, hw⟩
   simp only at hm k76 k77 k78 hl
   obtain rfl := hm
   by_cases d : j < s.st.length
   ·have dd : (j : Int) < s.st.length := by omega
    obtain ⟨l, hll⟩ : ∃ l, s.st[j]? = some l := ⟨_, List.getElem?_eq_getElem d⟩
    have ib := xZ1 (h := S) (k := .i64) hll
    have wj := wrap64 (n := (j : Int) + 1) (by omega) (by omega)
    have hel := wZM l (z5 l (List.mem_of_getElem? hll))
    cases e1 : elemsB l
    ·have hb := bad (wrong_st (List.mem_of_getElem? hll) e1)
     simp at hb
     simp [zZe.c, zZe.b25, zZe.r20, zZe.r21, zZe.r22, zZe.r23, k76, k77, k78, hl, dd, ib, okL, hel, e1, hb]
    ·simp [zZe.b25, zZe.r20, zZe.r21, zZe.r22, zZe.r24, k76, k77, k78, hl, dd, ib, okL, hel, e1, wj]
     exact ⟨s.st.length - (j + 1), by omega, rfl, j + 1, rfl, by omega, ⟨by simp [hl, k76], by simp [hl, k77], by simp [hl], by simp [hl]⟩, xZ8 hll hw e1⟩
   ·have dd : ¬ (j : Int) < s.st.length := by omega
    rw [List.take_of_length_le (by omega)] at hw
    have hb := bad (right_all q1 q2 q3 hok hw)
    simp at hb
    simp [zZe.c, zZe.b25, zZe.r20, zZe.r26, k76, k77, k78, hl, dd, hb]
 obtain ⟨h', hb⟩ := this
 exact wZe (h := H) zZe.Φ rfl (args := [.agg (cS s)]) rfl hb rfl
end Go.Proofs.Rc
