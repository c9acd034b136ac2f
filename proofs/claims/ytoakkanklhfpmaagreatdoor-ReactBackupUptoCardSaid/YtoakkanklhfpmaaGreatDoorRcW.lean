/- ReactBackup: the law's walk. No conditions. -/
import Derived.Test.YtoakkanklhfpmaaGreatDoorRcV
set_option maxHeartbeats 16000000
set_option maxRecDepth 100000
set_option linter.unusedVariables false
set_option linter.unusedSimpArgs false
set_option linter.unusedSectionVars false
namespace Go.Proofs.Rc
open Go Go.Ev
theorem elems_suf {p l : List Int} (h : elemsB (p ++ l) = true) : elemsB l = true := by
 simp only [elemsB, Bool.and_eq_true, decide_eq_true_eq, List.length_append, List.all_append] at h ⊢
 exact ⟨by omega, h.2.2⟩
def DB1 (s : Rs) (n : Nat) (m : Nat) (st : St) : Prop := st.marks = [] ∧ ∃ (i : Nat) (a : Rs), m = n + 1 - i ∧ tot a.qs + i = n ∧ Good a ∧ (∀ x ∈ s.bk, x ∈ a.bk ∨ waitB a x = []) ∧
 (eget st.env 1 = .ptr 0 0 ∧ eget st.env 3 = .ptr 1 0 ∧ eget st.env 4 = .int .i64 n ∧ eget st.env 5 = .int .i64 i ∧ st.env.length = 60) ∧ st.heap[0]? = some (.cells (cS s)) ∧ st.heap[1]? = some (.cells (cS a))
def DB2 (s a : Rs) (m : Nat) (st : St) : Prop := st.marks = [] ∧ ∃ i : Nat, m = s.bk.length - i ∧ i ≤ s.bk.length ∧
 (eget st.env 1 = .ptr 0 0 ∧ eget st.env 3 = .ptr 1 0 ∧ eget st.env 10 = .int .i64 i ∧ st.env.length = 60) ∧ st.heap[0]? = some (.cells (cS s)) ∧ st.heap[1]? = some (.cells (cS a))
theorem jZf (s : Rs) (z : SzS s) (ht : tot s.qs < 2 ^ 62) (H : Heap) : callW Φ zZh [.agg (cS s)] H = some (.bool true, H) := by
 have : ∃ hh, evBodyW (callW Φ) zZh.c [.agg (cS s)] [] = some (.bool true, hh) := by
  refine jZ0 (Nat.le_of_ble_eq_true rfl) (fun env he h0 => ?_)
  have g0 := h0 0 (by simp)
  change eget env 0 = .agg (cS s) at g0
  clear h0
  simp [zZh.c] at he
  have b0 : evBox [] (cS s) = some (.ptr 0 0, [.cells (cS s)]) := wZs [] _ rfl
  have hcc : (V.agg (cS s)).cells = cS s := rfl
  have ok4 : ∀ (s : Rs) (H : Heap), okCells H (some 4) (some (cS s)) = some (.agg (cS s), H) := fun _ _ => rfl
  have c0 : cellsAt [.cells (cS s)] (.ptr 0 0) = some (cS s) := rfl
  have hb := kZS [.cells (cS s)]
  have hck := wZi s z [.cells (cS s)]
  cases hr : rightB s
  ·rw [hr] at hck
   simp at hck
   simp [zZh.c, zZh.r0, zZh.r1, zZh.r3, zZh.r4, g0, he, hcc, b0, hb, c0, ok4, hck]
  rw [hr] at hck
  simp at hck
  have hg := good_of hr ht
  have hbk := jZn hg.bk
  have hmany := jZy s z [.cells (cS s), .cells (cS s)]
  rw [jZ6 s.qs ht] at hmany
  obtain ⟨n, hn⟩ : ∃ n, n = tot s.qs := ⟨_, rfl⟩
  rw [← hn] at hmany
  have hn2 : n ≤ 4096 := by rw [hn]; exact hg.t
  have st : evStoreV [.cells (cS s), .cells z4] 4 (.ptr 1 0) (.agg (cS s)) = some (V.non, [.cells (cS s), .cells (cS s)]) := vZE (H := [.cells (cS s), .cells z4]) (id := 1) (B := z4) rfl rfl rfl rfl
  have c1 : cellsAt [.cells (cS s), .cells (cS s)] (.ptr 1 0) = some (cS s) := rfl
  simp [zZh.c, zZh.r0, zZh.r1, zZh.r3, zZh.r5, zZh.r6, zZh.r7, g0, he, hcc, b0, hb, c0, ok4, hck, st, c1, hmany]
  refine kLoop (DB1 s n) (n + 1) ⟨rfl, 0, s, rfl, by omega, hg, fun x hx => .inl hx, ⟨by simp [he], by simp [he], by simp [he], by simp [he], by simpa using he⟩, rfl, rfl⟩ ?_
  clear c1 st hmany hn hg hck hb c0 hcc b0 g0 he env
  rintro m ⟨env, mk, S⟩ ⟨hm, i, a, rfl, hi, hg, hsuf, ⟨k1, k3, k4, k5, hl⟩, hS0, hS⟩
  simp only at hm k1 k3 k4 k5 hl hS0 hS
  obtain rfl := hm
  have hlt := (List.getElem?_eq_some_iff.1 hS).1
  have c3 := qZo hS 0
  have cc1 : (i : Int) ≤ n := by omega
  have htk := kZt a hg.sz S
  rcases xZk hg.q a.bk with ⟨hT, hnone⟩ | ⟨a', l', r, hT, hstep⟩
  ·obtain ⟨A, hA⟩ : ∃ A : Rs, A = ⟨a.qs, a.st, [], false⟩ := ⟨_, rfl⟩
   have hR : backR a = .tup [.agg (cS A), .agg (cX {}), .bool false, .int .i64 0] := by
    unfold backR
    rw [if_neg (by rw [hg.right]; simp), hT, hA]; rfl
   rw [hR] at htk
   have hgA : Good A := by rw [hA]; exact ⟨hg.q, hg.t, hg.st, hg.all, rfl⟩
   obtain ⟨S1, hS1⟩ : ∃ S1, S1 = S ++ [Ob.cells (cS A), Ob.cells (cX {})] := ⟨_, rfl⟩
   have s1 : evStoreV (S ++ [.cells z4, .cells zX]) 4 (.ptr S.length 0) (.agg (cS A)) = some (V.non, S ++ [.cells (cS A), .cells zX]) := by
    rw [vZE (n := 4) (A := cS A) (B := z4) (by simp) rfl rfl rfl]; simp [List.set_append]
   have s2 : evStoreV (S ++ [.cells (cS A), .cells zX]) 12 (.ptr (S.length + 1) 0) (.agg (cX {})) = some (V.non, S1) := by
    rw [vZE (n := 12) (A := cX {}) (B := zX) (by simp) rfl rfl rfl, hS1]; simp [List.set_append]
   have d6 : cellsAt S1 (.ptr S.length 0) = some (cS A) := qZo (by rw [hS1]; simp) 0
   have q1 : S1[1]? = some (.cells (cS a)) := by rw [hS1, List.getElem?_append_left hlt]; exact hS
   have s3 := vZE (H := S1) (id := 1) (n := 4) (A := cS A) (B := cS a) q1 rfl rfl rfl
   obtain ⟨S2, hS2⟩ : ∃ S2, S2 = S1.set 1 (.cells (cS A)) := ⟨_, rfl⟩
   rw [← hS2] at s3
   have q2 : S2[1]? = some (.cells (cS A)) := by rw [hS2]; exact wZd q1 _
   have q0 : S2[0]? = some (.cells (cS s)) := by rw [hS2, List.getElem?_set_ne (by omega), hS1, List.getElem?_append_left (by omega)]; exact hS0
   have e3 : cellsAt S2 (.ptr 1 3) = some [.bool A.busy] := qZo q2 3
   have e2 : cellsAt S2 (.ptr 1 2) = some [.arr (A.bk.map cI), .bool A.busy] := qZo q2 2
   have hAb : A.busy = false := by rw [hA]
   have hAk : A.bk = [] := by rw [hA]
   rw [hAb] at e3 e2
   rw [hAk] at e2
   have hall : ∀ x ∈ s.bk, waitB A x = [] := fun x hx => by
    have : waitB A x = waitB a x := by rw [hA]; rfl
    rw [this]
    exact (hsuf x hx).elim (hnone x) id
   simp [zZh.c, zZh.b15, zZh.r8, zZh.r9, zZh.r10, zZh.r12, zZh.r13, zZh.r16, zZh.r18, k1, k3, k4, k5, hl, cc1, c3, ok4, htk, evExt, s1, s2, d6, s3, e3, e2, evPick, vZa]
   refine kLoop (DB2 s A) s.bk.length ⟨rfl, 0, rfl, by omega, ⟨by simp [hl, k1], by simp [hl, k3], by simp [hl], by simpa using hl⟩, q0, q2⟩ ?_
   clear k1 k3 k4 k5 hl hS hS0 hlt c3 htk s1 s2 d6 q1 s3 hS2 q2 q0 e3 e2 hS1 hR env S S1 S2
   rintro m ⟨env, mk, S⟩ ⟨hm, j, rfl, hj, ⟨k1, k3, k10, hl⟩, hS0, hS⟩
   simp only at hm k1 k3 k10 hl hS0 hS
   obtain rfl := hm
   have c3 := qZo hS 0
   have c2 : cellsAt S (.ptr 0 2) = some [.arr (s.bk.map cI), .bool s.busy] := qZo hS0 2
   by_cases d : j < s.bk.length
   ·have dd : (j : Int) < s.bk.length := by omega
    obtain ⟨x, hx⟩ : ∃ x, s.bk[j]? = some x := ⟨_, List.getElem?_eq_getElem d⟩
    have ia := wZ6 (h := S) (k := .i64) hx
    have wj := wrap64 (n := (j : Int) + 1) (by omega) (by omega)
    have hw := wZa A hgA.sz x S
    rw [hall x (List.mem_of_getElem? hx), List.map_nil] at hw
    simp [zZh.b23, zZh.r19, k1, k3, k10, hl, c2, dd, vZa]
    refine kDraw1 zZh.r20.ord ?_
    simp [zZh.r20, zZh.r22, k1, k3, k10, hl, c2, c3, ok4, ia, cI, hw, vZa, wj]
    exact ⟨s.bk.length - (j + 1), by omega, rfl, j + 1, rfl, by omega, ⟨by simp [hl, k1], by simp [hl, k3], by simp [hl], by simp [hl]⟩, hS0, hS⟩
   ·have dd : ¬ (j : Int) < s.bk.length := by omega
    simp [zZh.c, zZh.b23, zZh.r19, zZh.r24, k1, k3, k10, hl, c2, dd, vZa]
  ·obtain ⟨A, hA⟩ : ∃ A : Rs, A = ⟨a'.qs, a.st, l', a.busy⟩ := ⟨_, rfl⟩
   have hR : backR a = .tup [.agg (cS A), .agg (cX r), .bool true, .int .i64 0] := by
    unfold backR
    rw [if_neg (by rw [hg.right]; simp), hT, hA]
    simp
   rw [hR] at htk
   obtain ⟨p, hp1, hp2⟩ := hstep.suf
   have hg' := hg.step hstep
   have hgA : Good A := by
    have hb := hg.bk
    rw [hp1] at hb
    rw [hA]; exact ⟨hg'.q, hg'.t, hg.st, hg.all, elems_suf hb⟩
   obtain ⟨S1, hS1⟩ : ∃ S1, S1 = S ++ [Ob.cells (cS A), Ob.cells (cX r)] := ⟨_, rfl⟩
   have s1 : evStoreV (S ++ [.cells z4, .cells zX]) 4 (.ptr S.length 0) (.agg (cS A)) = some (V.non, S ++ [.cells (cS A), .cells zX]) := by
    rw [vZE (n := 4) (A := cS A) (B := z4) (by simp) rfl rfl rfl]; simp [List.set_append]
   have s2 : evStoreV (S ++ [.cells (cS A), .cells zX]) 12 (.ptr (S.length + 1) 0) (.agg (cX r)) = some (V.non, S1) := by
    rw [vZE (n := 12) (A := cX r) (B := zX) (by simp) rfl rfl rfl, hS1]; simp [List.set_append]
   have d6 : cellsAt S1 (.ptr S.length 0) = some (cS A) := qZo (by rw [hS1]; simp) 0
   have q1 : S1[1]? = some (.cells (cS a)) := by rw [hS1, List.getElem?_append_left hlt]; exact hS
   have s3 := vZE (H := S1) (id := 1) (n := 4) (A := cS A) (B := cS a) q1 rfl rfl rfl
   obtain ⟨S2, hS2⟩ : ∃ S2, S2 = S1.set 1 (.cells (cS A)) := ⟨_, rfl⟩
   rw [← hS2] at s3
   have q2 : S2[1]? = some (.cells (cS A)) := by rw [hS2]; exact wZd q1 _
   have q0 : S2[0]? = some (.cells (cS s)) := by rw [hS2, List.getElem?_set_ne (by omega), hS1, List.getElem?_append_left (by omega)]; exact hS0
   have wi := wrap64 (n := (i : Int) + 1) (by omega) (by omega)
   have hwA : ∀ x, waitB A x = waitB a' x := fun x => by rw [hA]; rfl
   have hsuf' : ∀ x ∈ s.bk, x ∈ A.bk ∨ waitB A x = [] := fun x hx => by
    rw [hwA, show A.bk = l' by rw [hA]]
    rcases hsuf x hx with h | h
    ·rw [hp1] at h
     rcases List.mem_append.1 h with h | h
     ·exact .inr (hp2 x h)
     ·exact .inl h
    ·by_cases e : x = r.el
     ·rw [e, hstep.was] at h; cases h
     ·exact .inr (by rw [hstep.other x e]; exact h)
   have htot := hstep.tot
   have hAq : A.qs = a'.qs := by rw [hA]
   simp [zZh.b15, zZh.r8, zZh.r9, zZh.r10, zZh.r12, zZh.r13, zZh.r14, k1, k3, k4, k5, hl, cc1, c3, ok4, htk, evExt, s1, s2, d6, s3, wi]
   exact ⟨n + 1 - (i + 1), by omega, rfl, i + 1, A, rfl, by rw [hAq]; omega, hgA, hsuf', ⟨by simp [hl, k1], by simp [hl, k3], by simp [hl, k4], by simp [hl], by simp [hl]⟩, q0, q2⟩
 obtain ⟨h', hb⟩ := this
 exact wZe (h := H) zZh.Φ rfl (args := [.agg (cS s)]) rfl hb rfl
end Go.Proofs.Rc
