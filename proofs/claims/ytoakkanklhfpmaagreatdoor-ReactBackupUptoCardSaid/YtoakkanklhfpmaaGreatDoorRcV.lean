/- ReactDrained: the law's walk. No conditions. -/
import Derived.Test.YtoakkanklhfpmaaGreatDoorRcS
set_option maxHeartbeats 16000000
set_option maxRecDepth 100000
set_option linter.unusedVariables false
set_option linter.unusedSimpArgs false
set_option linter.unusedSectionVars false
namespace Go.Proofs.Rc
open Go Go.Ev
structure Good (a : Rs) : Prop where
 q : okQs a.qs = true
 t : tot a.qs ≤ 4096
 st : a.st.length ≤ 1024
 all : a.st.all elemsB = true
 bk : elemsB a.bk = true
theorem tot_len {qs : List Qu} (h : okQs qs = true) : qs.length ≤ tot qs := by
 have ha := (jZ8 h).1
 clear h
 induction qs with
 | nil => simp [tot]
 | cons q r ih =>
  have := ih fun x hx => ha x (by simp [hx])
  have hn := (xZb (ha q (by simp))).1
  have : q.l.length ≠ 0 := fun e => hn (List.eq_nil_of_length_eq_zero e)
  simp only [tot, List.map_cons, List.sum_cons, List.length_cons] at *
  omega
theorem jZn {l : List Int} (h : elemsB l = true) : l.length ≤ 4096 := by
 simp only [elemsB, Bool.and_eq_true, decide_eq_true_eq] at h
 exact h.1
theorem Good.right {a : Rs} (h : Good a) : rightB a = true := by
 have := jZ6 a.qs (by have := h.t; omega)
 exact right_all (by rw [this]; have := h.t; omega) (by have := h.st; omega) h.bk h.q h.all
theorem Good.sz {a : Rs} (h : Good a) : SzS a := by
 have h1 := tot_len h.q
 have h2 := h.t
 have h3 := h.st
 refine ⟨by omega, by omega, by have := jZn h.bk; unfold SzL; omega, fun q hq => ?_, fun l hl => ?_⟩
 ·have := tot_le hq
  unfold SzQ; omega
 ·have := jZn (List.all_eq_true.1 h.all l hl)
  unfold SzL; omega
theorem good_of {s : Rs} (h : rightB s = true) (ht : tot s.qs < 2 ^ 62) : Good s := by
 simp only [rightB, Bool.and_eq_true, decide_eq_true_eq] at h
 obtain ⟨⟨⟨⟨h1, h2⟩, h3⟩, h4⟩, h5⟩ := h
 rw [jZ6 _ ht] at h3
 exact ⟨h1, by omega, h4, h2, h5⟩
theorem Good.step {a a' : Rs} {l l' : List Int} {r : Rx} (h : Good a) (hs : Step a a' l l' r) : Good a' :=
 ⟨hs.q, by have := h.t; have := hs.tot; omega, by rw [hs.st]; exact h.st, by rw [hs.st]; exact h.all, by rw [hs.bk]; exact h.bk⟩
def DL1 (l : List Int) (n : Nat) (m : Nat) (st : St) : Prop := st.marks = [] ∧ ∃ (i : Nat) (a : Rs) (list : List Int), m = n + 1 - i ∧ tot a.qs + i = n ∧ Good a ∧ list.length ≤ 4096 ∧ (∀ x ∈ l, x ∈ list ∨ waitB a x = []) ∧
 (eget st.env 3 = .ptr 1 0 ∧ eget st.env 4 = .arr (l.map cI) ∧ eget st.env 6 = .int .i64 n ∧ eget st.env 7 = .arr (list.map cI) ∧ eget st.env 8 = .int .i64 i ∧ st.env.length = 95) ∧ st.heap[1]? = some (.cells (cS a))
def DL2 (l : List Int) (a : Rs) (m : Nat) (st : St) : Prop := st.marks = [] ∧ ∃ i : Nat, m = l.length - i ∧ i ≤ l.length ∧
 (eget st.env 3 = .ptr 1 0 ∧ eget st.env 4 = .arr (l.map cI) ∧ eget st.env 16 = .int .i64 i ∧ st.env.length = 95) ∧ st.heap[1]? = some (.cells (cS a))
theorem wZ7 (s : Rs) (z : SzS s) (ht : tot s.qs < 2 ^ 62) (H : Heap) : callW Φ zZd [.agg (cS s)] H = some (.bool true, H) := by
 have : ∃ hh, evBodyW (callW Φ) zZd.c [.agg (cS s)] [] = some (.bool true, hh) := by
  refine jZ0 (Nat.le_of_ble_eq_true rfl) (fun env he h0 => ?_)
  have g0 := h0 0 (by simp)
  change eget env 0 = .agg (cS s) at g0
  clear h0
  simp [zZd.c] at he
  have b0 : evBox [] (cS s) = some (.ptr 0 0, [.cells (cS s)]) := wZs [] _ rfl
  have hcc : (V.agg (cS s)).cells = cS s := rfl
  have ok4 : ∀ (s : Rs) (H : Heap), okCells H (some 4) (some (cS s)) = some (.agg (cS s), H) := fun _ _ => rfl
  have c0 : cellsAt [.cells (cS s)] (.ptr 0 0) = some (cS s) := rfl
  have hb := kZS [.cells (cS s)]
  have hp := xZr s z [.cells (cS s)]
  have st3 : ∀ a : Rs, evStoreV [.cells (cS s), .cells z4] 4 (.ptr 1 0) (.agg (cS a)) = some (V.non, [.cells (cS s), .cells (cS a)]) := fun a => vZE (H := [.cells (cS s), .cells z4]) (id := 1) (B := z4) rfl rfl rfl rfl
  cases hr : rightB s
  ·rw [show popR s = .tup [.agg (cS {}), .arr [], .int .i64 15] by unfold popR; rw [if_pos hr]] at hp
   have st := st3 {}
   simp [zZd.c, zZd.r0, zZd.r1, zZd.r3, zZd.r4, zZd.r5, g0, he, hcc, b0, hb, c0, ok4, hp, evExt, st, vZa]
  by_cases ce : s.st = []
  ·rw [show popR s = .tup [.agg (cS {}), .arr [], .int .i64 11] by unfold popR; rw [if_neg (by rw [hr]; simp), if_pos ce]] at hp
   have st := st3 {}
   simp [zZd.c, zZd.r0, zZd.r1, zZd.r3, zZd.r4, zZd.r5, g0, he, hcc, b0, hb, c0, ok4, hp, evExt, st, vZa]
  rw [show popR s = .tup [.agg (cS ⟨s.qs, s.st.dropLast, s.bk, s.busy⟩), .arr ((s.st.getLastD []).map cI), .int .i64 0] by unfold popR; rw [if_neg (by rw [hr]; simp), if_neg ce]] at hp
  have hg := good_of hr ht
  obtain ⟨A, hA⟩ : ∃ A : Rs, A = ⟨s.qs, s.st.dropLast, s.bk, s.busy⟩ := ⟨_, rfl⟩
  obtain ⟨l, hl0⟩ : ∃ l, l = s.st.getLastD [] := ⟨_, rfl⟩
  rw [← hA, ← hl0] at hp
  obtain ⟨D, x0, hDx⟩ : ∃ D x, s.st = D ++ [x] := ⟨s.st.dropLast, s.st.getLast ce, (List.dropLast_concat_getLast ce).symm⟩
  have hlm : l ∈ s.st := by rw [hl0, hDx]; simp
  have hll := jZn (List.all_eq_true.1 hg.all l hlm)
  have hgA : Good A := by
   rw [hA]
   exact ⟨hg.q, hg.t, by simp only [List.length_dropLast]; have := hg.st; omega, List.all_eq_true.2 fun x hx => List.all_eq_true.1 hg.all x (by rw [hDx] at hx ⊢; simp at hx; simp [hx]), hg.bk⟩
  have hmany := jZy A hgA.sz [.cells (cS s), .cells (cS A)]
  rw [jZ6 A.qs (by have := hgA.t; omega)] at hmany
  obtain ⟨n, hn⟩ : ∃ n, n = tot A.qs := ⟨_, rfl⟩
  rw [← hn] at hmany
  have hn2 : n ≤ 4096 := by rw [hn]; exact hgA.t
  have st := st3 A
  have c1 : cellsAt [.cells (cS s), .cells (cS A)] (.ptr 1 0) = some (cS A) := rfl
  simp [zZd.c, zZd.r0, zZd.r1, zZd.r3, zZd.r4, zZd.r6, zZd.r7, zZd.r8, g0, he, hcc, b0, hb, c0, ok4, hp, evExt, st, c1, hmany]
  refine kLoop (DL1 l n) (n + 1) ⟨rfl, 0, A, l, rfl, by omega, hgA, hll, fun x hx => .inl hx, ⟨by simp [he], by simp [he], by simp [he], by simp [he], by simp [he], by simpa using he⟩, rfl⟩ ?_
  clear c1 st hmany hn hgA hlm hA hp st3 hb c0 hcc b0 g0 he hl0 hg env A
  rintro m ⟨env, mk, S⟩ ⟨hm, i, a, list, rfl, hi, hg, hlist, hsuf, ⟨k3, k4, k6, k7, k8, hl⟩, hS⟩
  simp only at hm k3 k4 k6 k7 k8 hl hS
  obtain rfl := hm
  have hlt := (List.getElem?_eq_some_iff.1 hS).1
  have c3 := qZo hS 0
  have cc1 : (i : Int) ≤ n := by omega
  have htk := xZg a hg.sz list (by unfold SzL; omega) S
  rcases xZk hg.q list with ⟨hT, hnone⟩ | ⟨a', l', r, hT, hstep⟩
  ·have hR : takeR a list = .tup [.agg (cS a), .arr [], .agg (cX {}), .bool false, .int .i64 0] := by
    unfold takeR
    rw [if_neg (by rw [hg.right]; simp), if_neg (by omega), hT]; rfl
   rw [hR] at htk
   obtain ⟨S1, hS1⟩ : ∃ S1, S1 = S ++ [Ob.cells (cS a), Ob.cells (cX {})] := ⟨_, rfl⟩
   have s1 : evStoreV (S ++ [.cells z4, .cells zX]) 4 (.ptr S.length 0) (.agg (cS a)) = some (V.non, S ++ [.cells (cS a), .cells zX]) := by
    rw [vZE (n := 4) (A := cS a) (B := z4) (by simp) rfl rfl rfl]; simp [List.set_append]
   have s2 : evStoreV (S ++ [.cells (cS a), .cells zX]) 12 (.ptr (S.length + 1) 0) (.agg (cX {})) = some (V.non, S1) := by
    rw [vZE (n := 12) (A := cX {}) (B := zX) (by simp) rfl rfl rfl, hS1]; simp [List.set_append]
   have hS1' : S1[1]? = some (.cells (cS a)) := by rw [hS1, List.getElem?_append_left hlt]; exact hS
   have hall : ∀ x ∈ l, waitB a x = [] := fun x hx => (hsuf x hx).elim (hnone x) id
   simp [zZd.c, zZd.b21, zZd.r9, zZd.r10, zZd.r11, zZd.r13, zZd.r22, k3, k4, k6, k7, k8, hl, cc1, c3, ok4, htk, evExt, s1, s2]
   refine kLoop (DL2 l a) l.length ⟨rfl, 0, rfl, by omega, ⟨by simp [hl, k3], by simp [hl, k4], by simp [hl], by simpa using hl⟩, hS1'⟩ ?_
   clear k3 k4 k6 k7 k8 hl hS hlt c3 htk s1 s2 hS1 hS1' hR env S S1
   rintro m ⟨env, mk, S⟩ ⟨hm, j, rfl, hj, ⟨k3, k4, k16, hl⟩, hS⟩
   simp only at hm k3 k4 k16 hl hS
   obtain rfl := hm
   have c3 := qZo hS 0
   by_cases d : j < l.length
   ·have dd : (j : Int) < l.length := by omega
    obtain ⟨x, hx⟩ : ∃ x, l[j]? = some x := ⟨_, List.getElem?_eq_getElem d⟩
    have ia := wZ6 (h := S) (k := .i64) hx
    have wj := wrap64 (n := (j : Int) + 1) (by omega) (by omega)
    have hw := wZa a hg.sz x S
    rw [hall x (List.mem_of_getElem? hx), List.map_nil] at hw
    simp [zZd.b27, zZd.r23, k3, k4, k16, hl, dd, vZa]
    refine kDraw1 zZd.r24.ord ?_
    simp [zZd.r24, zZd.r26, k3, k4, k16, hl, c3, ok4, ia, cI, hw, vZa, wj]
    exact ⟨l.length - (j + 1), by omega, rfl, j + 1, rfl, by omega, ⟨by simp [hl, k3], by simp [hl, k4], by simp [hl], by simp [hl]⟩, hS⟩
   ·have dd : ¬ (j : Int) < l.length := by omega
    simp [zZd.c, zZd.b27, zZd.r23, zZd.r28, k3, k4, k16, hl, dd, vZa]
  ·have hR : takeR a list = .tup [.agg (cS a'), .arr (l'.map cI), .agg (cX r), .bool true, .int .i64 0] := by
    unfold takeR
    rw [if_neg (by rw [hg.right]; simp), if_neg (by omega), hT]
   rw [hR] at htk
   have hg' := hg.step hstep
   obtain ⟨S1, hS1⟩ : ∃ S1, S1 = S ++ [Ob.cells (cS a'), Ob.cells (cX r)] := ⟨_, rfl⟩
   have s1 : evStoreV (S ++ [.cells z4, .cells zX]) 4 (.ptr S.length 0) (.agg (cS a')) = some (V.non, S ++ [.cells (cS a'), .cells zX]) := by
    rw [vZE (n := 4) (A := cS a') (B := z4) (by simp) rfl rfl rfl]; simp [List.set_append]
   have s2 : evStoreV (S ++ [.cells (cS a'), .cells zX]) 12 (.ptr (S.length + 1) 0) (.agg (cX r)) = some (V.non, S1) := by
    rw [vZE (n := 12) (A := cX r) (B := zX) (by simp) rfl rfl rfl, hS1]; simp [List.set_append]
   have hS1' : S1[1]? = some (.cells (cS a)) := by rw [hS1, List.getElem?_append_left hlt]; exact hS
   have d3 : cellsAt S1 (.ptr 1 0) = some (cS a) := qZo hS1' 0
   have d9 : cellsAt S1 (.ptr S.length 0) = some (cS a') := qZo (by rw [hS1]; simp) 0
   have d11 : cellsAt S1 (.ptr (S.length + 1) 0) = some (cX r) := qZo (by rw [hS1, List.getElem?_append_right (by omega), show S.length + 1 - S.length = 1 by omega]; rfl) 0
   have okr : ∀ S : Heap, okCells S none (some (cX r)) = some (.int .i64 r.el, S) := fun _ => rfl
   have w1 := wZa a hg.sz r.el S1
   have w2 := wZa a' hg'.sz r.el S1
   obtain ⟨N, hN⟩ : ∃ N, N = waitB a' r.el := ⟨_, rfl⟩
   rw [hstep.was, ← hN] at w1
   rw [← hN] at w2
   have hNl : N.length ≤ 4096 := by
    have h1 := hg'.t
    rw [hN]
    unfold waitB
    cases hf : a'.qs.find? (fun q => q.el == r.el) with
    | none => simp
    | some q =>
     have := tot_le (List.mem_of_find?_eq_some hf)
     show q.l.length ≤ 4096
     omega
   have wn := wrap64 (n := (N.length : Int) + 1) (by omega) (by omega)
   have ia0 : iaddrV S1 12 (.arr ((r :: N).map cX)) (.int .i64 0) = some (.iptr (cX r)) := iaddr_cX (i := 0) rfl
   have sl1 : sliceV .l S1 12 (.arr ((r :: N).map cX)) (some (.int .i64 1)) none = some (.arr (N.map cX)) := by
    have hz : szOk 12 ((r :: N).map cX) = true := jZK (plainX _)
    simp only [sliceV, sliceL, hz, if_true, lohi, bound, List.length_map, List.length_cons]
    rw [if_pos ⟨by omega, by omega⟩]
    simp [List.take_of_length_le]
   have hbg := kZF N (by omega) S1
   have eq := eqc_rx S1 r r
   simp at eq
   have s3 := vZE (H := S1) (id := 1) (n := 4) (A := cS a') (B := cS a) hS1' rfl rfl rfl
   obtain ⟨S2, hS2⟩ : ∃ S2, S2 = S1.set 1 (.cells (cS a')) := ⟨_, rfl⟩
   rw [← hS2] at s3
   have hS2' : S2[1]? = some (.cells (cS a')) := by rw [hS2]; exact wZd hS1' _
   have wi := wrap64 (n := (i : Int) + 1) (by omega) (by omega)
   obtain ⟨p, hp1, hp2⟩ := hstep.suf
   have hll' : l'.length ≤ 4096 := by rw [hp1] at hlist; simp at hlist; omega
   have hsuf' : ∀ x ∈ l, x ∈ l' ∨ waitB a' x = [] := fun x hx => by
    rcases hsuf x hx with h | h
    ·rw [hp1] at h
     rcases List.mem_append.1 h with h | h
     ·exact .inr (hp2 x h)
     ·exact .inl h
    ·by_cases e : x = r.el
     ·rw [e, hstep.was] at h; cases h
     ·exact .inr (by rw [hstep.other x e]; exact h)
   have htot := hstep.tot
   simp [zZd.b21, zZd.r9, zZd.r10, zZd.r11, zZd.r13, zZd.r14, zZd.r15, k3, k4, k6, k7, k8, hl, cc1, c3, ok4, htk, evExt, s1, s2, d3, d9, d11, okr, w1, w2]
   refine kDraw1 zZd.r16.ord ?_
   have x1 : List.map cX (r :: N) = cX r :: List.map cX N := rfl
   rw [x1] at ia0 sl1
   simp [zZd.r16, zZd.r18, zZd.r19, zZd.r20, k3, k4, k6, k7, k8, hl, vZa, wn, ia0, okX1, d11, eq, sl1, hbg, d9, ok4, s3, evPick, wi]
   exact ⟨n + 1 - (i + 1), by omega, rfl, i + 1, a', l', rfl, by omega, hg', hll', hsuf', ⟨by simp [hl, k3], by simp [hl, k4], by simp [hl, k6], by simp [hl], by simp [hl], by simp [hl]⟩, hS2'⟩
 obtain ⟨h', hb⟩ := this
 exact wZe (h := H) zZd.Φ rfl (args := [.agg (cS s)]) rfl hb rfl
end Go.Proofs.Rc
