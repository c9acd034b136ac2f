/- How they read; lists of numbers compared. How many wait; whether a list is one of elements. No conditions. -/
import Derived.Test.YtoakkanklhfpmaaGreatDoorRcD0
import Derived.Test.YtoakkanklhfpmaaGreatDoorRcA
set_option maxHeartbeats 16000000
set_option maxRecDepth 100000
set_option linter.unusedVariables false
set_option linter.unusedSimpArgs false
set_option linter.unusedSectionVars false
namespace Go.Proofs.Rc
open Go Go.Ev
abbrev zX : List V := [.int .i64 0, .int .u8 0, .int .i64 0, .str ⟨#[]⟩, .str ⟨#[]⟩, .str ⟨#[]⟩, .str ⟨#[]⟩, .str ⟨#[]⟩, .bool false, .bool false, .int .i64 0, .int .i64 0]
theorem xZ9 {h : Heap} {l : List Rx} {k : IntKind} {i : Nat} {c : Rx} (hx : l[i]? = some c) : iaddrV h 12 (.arr (l.map cX)) (.int k i) = some (.iptr (cX c)) := wZK (enc := cX) (fun _ => rfl) hx
theorem jZq {h : Heap} {l : List Qu} {k : IntKind} {i : Nat} {c : Qu} (hx : l[i]? = some c) : iaddrV h 2 (.arr (l.map cQu)) (.int k i) = some (.iptr (cQu c)) := wZK (enc := cQu) (fun _ => rfl) hx
theorem xZ1 {h : Heap} {l : List (List Int)} {k : IntKind} {i : Nat} {c : List Int} (hx : l[i]? = some c) : iaddrV h 1 (.arr (l.map cL)) (.int k i) = some (.iptr (cL c)) := wZK (enc := cL) (fun _ => rfl) hx
theorem okX1 (r : Rx) (H : Heap) : okCells H (some 12) (some (cX r)) = some (.agg (cX r), H) := rfl
theorem okQu (q : Qu) (H : Heap) : okCells H (some 2) (some (cQu q)) = some (.agg (cQu q), H) := rfl
theorem okL (l : List Int) (H : Heap) : okCells H none (some (cL l)) = some (.arr (l.map cI), H) := rfl
theorem wZO {H : Heap} {zs cs : List V} {n : Nat} (hn : cs.length = n) (hz : zs.length = n) (hc : cs.all V.isCell = true) : evStoreV (H ++ [.cells zs]) n (.ptr H.length 0) (.agg cs) = some (V.non, H ++ [.cells cs]) := by
 have hsr : setRange zs 0 cs = some cs := by
  unfold setRange
  rw [if_pos (by omega), Nat.zero_add, List.drop_eq_nil_of_le (by omega)]
  simp
 simp only [evStoreV, V.cells, hn, hc, and_self, if_true, store_last, hsr, Option.map_some]
theorem zYaa (S : Heap) (q : Qu) : evStoreV (S ++ [.cells [.int .i64 0, .nils]]) 2 (.ptr S.length 0) (.agg (cQu q)) = some (V.non, S ++ [.cells (cQu q)]) := wZO rfl rfl rfl
theorem store_rx (S : Heap) (r : Rx) : evStoreV (S ++ [.cells zX]) 12 (.ptr S.length 0) (.agg (cX r)) = some (V.non, S ++ [.cells (cX r)]) := wZO rfl rfl rfl
theorem cells_qu (S : Heap) (q : Qu) : cellsAt (S ++ [.cells (cQu q)]) (.ptr S.length 0) = some [.int .i64 q.el, .arr (q.l.map cX)] ∧ cellsAt (S ++ [.cells (cQu q)]) (.ptr S.length 1) = some [.arr (q.l.map cX)] := ⟨wZt S (cQu q) 0, wZt S (cQu q) 1⟩
theorem zYad (a b : List Int) (h : a.length < 2 ^ 62) (H : Heap) : callW Φ zZJ [.arr (a.map cI), .arr (b.map cI)] H = some (.bool (decide (a = b)), H) := by
 have : ∃ hh, evBodyW (callW Φ) zZJ.c [.arr (a.map cI), .arr (b.map cI)] [] = some (.bool (decide (a = b)), hh) := by
  refine jZ0 (Nat.le_of_ble_eq_true rfl) (fun env he h0 => ?_)
  have g0 := h0 0 (by simp)
  change eget env 0 = .arr (a.map cI) at g0
  have g1 := h0 1 (by simp)
  change eget env 1 = .arr (b.map cI) at g1
  clear h0
  simp [zZJ.c] at he
  cases hlen : ((a.length : Int) != b.length)
  ·have hl2 : a.length = b.length := by simp at hlen; omega
   have hll : (a.length : Int) = b.length := by omega
   simp [zZJ.c, zZJ.r0, zZJ.r1, zZJ.r2, zZJ.r3, zZJ.r9, g0, g1, he, hlen, hll]
   refine kLoop (fun m s => ∃ i : Nat, m = a.length - i ∧ i ≤ a.length ∧ eget s.env 0 = .arr (a.map cI) ∧ eget s.env 1 = .arr (b.map cI) ∧ eget s.env 5 = .int .i64 i ∧ s.env.length = 26 ∧ s.marks = [] ∧ a.take i = b.take i) a.length
    ⟨0, rfl, by omega, by simpa using g0, by simpa using g1, by simp [he], by simpa using he, rfl, rfl⟩ ?_
   rintro m ⟨env, mk, Hh⟩ ⟨i, rfl, hi, k0, k1, k5, hl, hm, hw⟩
   simp only at k0 k1 k5 hl hm
   obtain rfl := hm
   by_cases c : i < a.length
   ·have c1 : (i : Int) < a.length := by omega
    obtain ⟨x, hx⟩ : ∃ x, a[i]? = some x := ⟨_, List.getElem?_eq_getElem c⟩
    obtain ⟨y, hy⟩ : ∃ y, b[i]? = some y := ⟨_, List.getElem?_eq_getElem (by omega)⟩
    have ia := wZ6 (h := Hh) (k := .i64) hx
    have ib := wZ6 (h := Hh) (k := .i64) hy
    have wr := wrap64 (n := (i : Int) + 1) (by omega) (by omega)
    simp [zZJ.b8, zZJ.r4, zZJ.r6, zZJ.r7, k0, k5, hl, c]
    refine kDraw1 zZJ.r5.ord ?_
    cases hq : (x != y)
    ·have hxy : x = y := by simpa using hq
     simp [zZJ.r5, zZJ.b8, zZJ.r4, zZJ.r6, zZJ.r7, k0, k1, k5, hl, ia, ib, cI, hq, wr]
     exact ⟨a.length - (i + 1), by omega, i + 1, rfl, by omega, by simp, take_same hw hx (by rw [hy, hxy])⟩
    ·have hxy : x ≠ y := by simpa using hq
     have hne := ne_at hx hy hxy
     simp [zZJ.r5, zZJ.b8, zZJ.r4, zZJ.r6, zZJ.r7, k0, k1, k5, hl, ia, ib, cI, hq, hne]
   ·have c1 : ¬ (i : Int) < a.length := by omega
    have hab : a = b := by
     rw [List.take_of_length_le (by omega), List.take_of_length_le (by omega)] at hw
     exact hw
    subst hab
    simp [zZJ.b8, zZJ.r4, zZJ.r6, zZJ.r7, zZJ.c, zZJ.r0, zZJ.r1, zZJ.r2, zZJ.r3, zZJ.r9, k0, k5, hl, c]
  ·have hne : a ≠ b := fun e => by subst e; simp at hlen
   simp [zZJ.c, zZJ.r0, zZJ.r1, zZJ.r2, zZJ.r3, zZJ.r9, g0, g1, he, hlen, hne]
 obtain ⟨h', hb⟩ := this
 exact wZe (h := H) zZJ.Φ rfl (args := [.arr (a.map cI), .arr (b.map cI)]) rfl hb rfl
open Go Go.Ev
def MI (H : Heap) (s : Rs) (m : Nat) (st : St) : Prop := st.marks = [] ∧ ∃ i : Nat, m = s.qs.length - i ∧ i ≤ s.qs.length ∧ (eget st.env 3 = .int .i64 (manyW (s.qs.take i)) ∧ eget st.env 7 = .arr (s.qs.map cQu) ∧ eget st.env 8 = .int .i64 s.qs.length ∧ eget st.env 9 = .int .i64 i ∧ st.env.length = 20) ∧ H.length ≤ st.heap.length ∧ ∀ j, j < H.length → st.heap[j]? = H[j]?
theorem xZh (s : Rs) (z : SzS s) (H : Heap) : ∃ r h', callW Φ (.fn (.func zZ3.k) [] []) [.agg (cS s)] H = some (r, h') ∧ (fun r h' => r = .int .i64 (manyW s.qs) ∧ H.length ≤ h'.length ∧ ∀ j, j < H.length → h'[j]? = H[j]?) r h' := by
 obtain ⟨P, hP⟩ : ∃ P : V → Heap → Prop, P = fun r h' => r = .int .i64 (manyW s.qs) ∧ H.length ≤ h'.length ∧ ∀ j, j < H.length → h'[j]? = H[j]? := ⟨_, rfl⟩
 suffices hgo : ∃ r h', callW Φ (.fn (.func zZ3.k) [] []) [.agg (cS s)] H = some (r, h') ∧ P r h' by rw [hP] at hgo; exact hgo
 have hPi : ∀ r h', (fun r h' => r = .int .i64 (manyW s.qs) ∧ H.length ≤ h'.length ∧ ∀ j, j < H.length → h'[j]? = H[j]?) r h' → P r h' := fun r h' q => by rw [hP]; exact q
 clear hP
 refine wZS zZ3.Φ rfl (Nat.le_of_ble_eq_true rfl) (fun env he h0 => ?_)
 have g0 := h0 0 (by simp)
 change eget env 0 = .agg (cS s) at g0
 clear h0
 simp [zZ3.c] at he
 obtain ⟨z1, z2, z3, z4, z5⟩ := z
 have b0 : evBox H (cS s) = some (.ptr H.length 0, H ++ [.cells (cS s)]) := wZs _ _ rfl
 have hcc : (V.agg (cS s)).cells = cS s := rfl
 have c0 := wZt H (cS s) 0
 simp [zZ3.c, zZ3.r0, zZ3.r1, zZ3.r2, zZ3.r8, g0, he, hcc, b0, c0, vZa]
 refine kLoop (MI H s) s.qs.length ⟨rfl, 0, rfl, by omega, ⟨by simp [he]; rfl, by simp [he], by simp [he], by simp [he], by simpa using he⟩, by simp, fun j hj => by simp [List.getElem?_append_left hj]⟩ ?_
 clear g0 he env b0 hcc c0
 rintro m ⟨env, mk, S⟩ ⟨hm, i, rfl, hi, ⟨k3, k7, k8, k9, hl⟩, hS, hk⟩
 simp only at hm k3 k7 k8 k9 hl hS hk
 obtain rfl := hm
 by_cases c : i < s.qs.length
 ·have c1 : (i : Int) < s.qs.length := by omega
  obtain ⟨q, hq⟩ : ∃ q, s.qs[i]? = some q := ⟨_, List.getElem?_eq_getElem c⟩
  have ia := jZq (h := S) (k := .i64) hq
  have sx := zYaa S q
  have c2 := (cells_qu S q).2
  have wr := wrap64 (n := (i : Int) + 1) (by omega) (by omega)
  have wm := many_take hq
  simp [zZ3.b7, zZ3.r3, zZ3.r4, zZ3.r5, zZ3.r6, k3, k7, k8, k9, hl, c1, ia, okQu, sx, c2, vZa, wr]
  exact ⟨s.qs.length - (i + 1), by omega, rfl, i + 1, rfl, by omega, ⟨by simp [hl, wm], by simp [hl, k7], by simp [hl, k8], by simp [hl], by simp [hl]⟩, by simp; omega, fun j hj => by rw [← hk j hj]; exact List.getElem?_append_left (by omega)⟩
 ·have c1 : ¬ (i : Int) < s.qs.length := by omega
  rw [List.take_of_length_le (by omega)] at k3
  have fin := hPi (.int .i64 (manyW s.qs)) S ⟨rfl, hS, hk⟩
  simp [zZ3.c, zZ3.r0, zZ3.r1, zZ3.r2, zZ3.r8, zZ3.b7, zZ3.r3, zZ3.r4, zZ3.r5, zZ3.r6, k3, k7, k8, k9, hl, c1, fin]
theorem jZv (n : Int) (H : Heap) : callW Φ zZZ [.int .i64 n] H = some (.bool (decide (n < 1)), H) := by
 have : ∃ hh, evBodyW (callW Φ) zZZ.c [.int .i64 n] [] = some (.bool (decide (n < 1)), hh) := by
  refine jZ0 (Nat.le_of_ble_eq_true rfl) (fun env he h0 => ?_)
  have g0 := h0 0 (by simp)
  change eget env 0 = .int .i64 n at g0
  clear h0
  simp [zZZ.c] at he
  simp [zZZ.c, zZZ.r0, zZZ.r1, g0, he]
 obtain ⟨h', hb⟩ := this
 exact wZe (h := H) zZZ.Φ rfl (args := [.int .i64 n]) rfl hb rfl
theorem ixE (l : List Int) (hz : l.length ≤ 2 ^ 44) (H : Heap) : ∃ r h', callW Φ (.fn (.func zZi.k) [] []) [.arr (l.map cI), zZZ] H = some (r, h') ∧ (fun r h' => h' = H ∧ ∃ n : Int, r = .int .i64 n ∧ decide (0 ≤ n) = l.any (fun n => decide (n < 1))) r h' := by
 obtain ⟨P, hP⟩ : ∃ P : V → Heap → Prop, P = fun r h' => h' = H ∧ ∃ n : Int, r = .int .i64 n ∧ decide (0 ≤ n) = l.any (fun n => decide (n < 1)) := ⟨_, rfl⟩
 suffices hgo : ∃ r h', callW Φ (.fn (.func zZi.k) [] []) [.arr (l.map cI), zZZ] H = some (r, h') ∧ P r h' by rw [hP] at hgo; exact hgo
 have hPi : ∀ r h', (fun r h' => h' = H ∧ ∃ n : Int, r = .int .i64 n ∧ decide (0 ≤ n) = l.any (fun n => decide (n < 1))) r h' → P r h' := fun r h' q => by rw [hP]; exact q
 clear hP
 refine wZS zZi.Φ rfl (Nat.le_of_ble_eq_true rfl) (fun env he h0 => ?_)
 have g0 := h0 0 (by simp)
 change eget env 0 = .arr (l.map cI) at g0
 have g1 := h0 1 (by simp)
 change eget env 1 = zZZ at g1
 clear h0
 simp [zZi.c] at he
 simp [zZi.c, zZi.r0, zZi.r1, zZi.r8, g0, g1, he, vZa]
 refine kLoop (fun m s => ∃ i : Nat, m = l.length - i ∧ i ≤ l.length ∧ eget s.env 0 = .arr (l.map cI) ∧ eget s.env 1 = zZZ ∧ eget s.env 7 = .int .i64 l.length ∧ eget s.env 8 = .int .i64 i ∧ s.env.length = 19 ∧ s.marks = [] ∧ s.heap = H ∧ (l.take i).any (fun n => decide (n < 1)) = false) l.length
  ⟨0, rfl, by omega, by simpa using g0, by simpa using g1, by simp [he], by simp [he], by simpa using he, rfl, rfl, by simp⟩ ?_
 rintro m ⟨env, mk, Hh⟩ ⟨i, rfl, hi, k0, k1, k7, k8, hl, hm, hH, hw⟩
 simp only at k0 k1 k7 k8 hl hm hH
 obtain rfl := hm
 obtain rfl := hH
 by_cases c : i < l.length
 ·have c1 : (i : Int) < l.length := by omega
  obtain ⟨x, hx⟩ : ∃ x, l[i]? = some x := ⟨_, List.getElem?_eq_getElem c⟩
  have ia := wZ6 (h := Hh) (k := .i64) hx
  have wr := wrap64 (n := (i : Int) + 1) (by omega) (by omega)
  have S := jZv x Hh
  by_cases cx : x < 1
  ·rw [decide_eq_true cx] at S
   have hany : l.any (fun n => decide (n < 1)) = true := by
    rw [List.any_eq_true]
    exact ⟨x, List.mem_of_getElem? hx, by simpa using cx⟩
   have := hPi (.int .i64 i) Hh ⟨rfl, i, rfl, by rw [hany]; simp⟩
   simp [zZi.c, zZi.r0, zZi.r1, zZi.r8, zZi.b7, zZi.r2, zZi.r3, zZi.r4, zZi.r5, zZi.r6, k0, k1, k7, k8, hl, c1, ia, cI, S, this]
  ·rw [decide_eq_false cx] at S
   simp [zZi.b7, zZi.r2, zZi.r3, zZi.r4, zZi.r5, zZi.r6, k0, k1, k7, k8, hl, c1, ia, cI, S, wr]
   refine ⟨l.length - (i + 1), by omega, i + 1, rfl, by omega, by simp, ?_⟩
   intro y hy
   rw [List.take_add_one, hx] at hy
   rcases List.mem_append.1 hy with hy | hy
   ·have := List.any_eq_false.1 hw y hy
    simpa using this
   ·simp at hy
    subst hy; omega
 ·have c1 : ¬ (i : Int) < l.length := by omega
  rw [List.take_of_length_le (by omega)] at hw
  have := hPi (.int .i64 (-1)) Hh ⟨rfl, -1, rfl, by rw [hw]; rfl⟩
  simp [zZi.c, zZi.r0, zZi.r1, zZi.r8, zZi.b7, zZi.r2, zZi.r3, zZi.r4, zZi.r5, zZi.r6, k0, k1, k7, k8, hl, c1, this]
theorem cfE (l : List Int) (hz : l.length ≤ 2 ^ 44) (H : Heap) : ∃ r h', callW Φ (.fn (.func zZF.k) [] []) [.arr (l.map cI), zZZ] H = some (r, h') ∧ (fun r h' => h' = H ∧ r = .bool (l.any (fun n => decide (n < 1)))) r h' := by
 obtain ⟨P, hP⟩ : ∃ P : V → Heap → Prop, P = fun r h' => h' = H ∧ r = .bool (l.any (fun n => decide (n < 1))) := ⟨_, rfl⟩
 suffices hgo : ∃ r h', callW Φ (.fn (.func zZF.k) [] []) [.arr (l.map cI), zZZ] H = some (r, h') ∧ P r h' by rw [hP] at hgo; exact hgo
 have hPi : ∀ r h', (fun r h' => h' = H ∧ r = .bool (l.any (fun n => decide (n < 1)))) r h' → P r h' := fun r h' q => by rw [hP]; exact q
 clear hP
 refine wZS zZF.Φ rfl (Nat.le_of_ble_eq_true rfl) (fun env he h0 => ?_)
 have g0 := h0 0 (by simp)
 change eget env 0 = .arr (l.map cI) at g0
 have g1 := h0 1 (by simp)
 change eget env 1 = zZZ at g1
 clear h0
 simp [zZF.c] at he
 obtain ⟨r, h', h1, rfl, n, rfl, hn⟩ := ixE l hz H
 have := hPi (.bool (decide (0 ≤ n))) h' ⟨rfl, by rw [hn]⟩
 simp [zZF.c, zZF.r0, zZF.r1, g0, g1, he, h1, this]
theorem any_all (l : List Int) : (!l.any (fun n => decide (n < 1))) = l.all fun x => decide (1 ≤ x) := by
 rw [List.not_any_eq_all_not]
 congr 1
 funext x
 have : (¬ x < 1) ↔ 1 ≤ x := by omega
 simp [← decide_not, this]
theorem wZM (l : List Int) (hz : SzL l) (H : Heap) : callW Φ qZk [.arr (l.map cI)] H = some (.bool (elemsB l), H) := by
 have : ∃ hh, evBodyW (callW Φ) qZk.c [.arr (l.map cI)] [] = some (.bool (elemsB l), hh) := by
  refine jZ0 (Nat.le_of_ble_eq_true rfl) (fun env he h0 => ?_)
  have g0 := h0 0 (by simp)
  change eget env 0 = .arr (l.map cI) at g0
  clear h0
  simp [qZk.c] at he
  obtain ⟨r, h', h1, rfl, rfl⟩ := cfE l hz []
  have hel : elemsB l = (decide (l.length ≤ 4096) && !l.any (fun n => decide (n < 1))) := by rw [any_all]; rfl
  by_cases c : l.length ≤ 4096
  ·have c1 : (l.length : Int) ≤ 4096 := by omega
   simp [qZk.c, qZk.r0, qZk.r1, g0, he, vZa, c1, h1, evPick, hel, c]
  ·have c1 : ¬ (l.length : Int) ≤ 4096 := by omega
   simp [qZk.c, qZk.r0, qZk.r1, g0, he, vZa, c1, evPick, hel, c]
 obtain ⟨h', hb⟩ := this
 exact wZe (h := H) qZk.Φ rfl (args := [.arr (l.map cI)]) rfl hb rfl
theorem xZW (l : List Int) (hz : SzL l) (H : Heap) : callW Φ zZw [.arr (l.map cI)] H = some (.bool (elemsB l), H) := by
 have : ∃ hh, evBodyW (callW Φ) zZw.c [.arr (l.map cI)] [] = some (.bool (elemsB l), hh) := by
  refine jZ0 (Nat.le_of_ble_eq_true rfl) (fun env he h0 => ?_)
  have g0 := h0 0 (by simp)
  change eget env 0 = .arr (l.map cI) at g0
  clear h0
  simp [zZw.c] at he
  unfold SzL at hz
  simp [zZw.c, zZw.r0, zZw.r1, zZw.r7, g0, he]
  refine kLoop (fun m s => ∃ i : Nat, m = l.length - i ∧ i ≤ l.length ∧ eget s.env 0 = .arr (l.map cI) ∧ eget s.env 3 = .int .i64 i ∧ s.env.length = 18 ∧ s.marks = [] ∧ (l.take i).all (fun n => decide (1 ≤ n)) = true) l.length
   ⟨0, rfl, by omega, by simpa using g0, by simp [he], by simpa using he, rfl, by simp⟩ ?_
  rintro m ⟨env, mk, Hh⟩ ⟨i, rfl, hi, k0, k3, hl, hm, hw⟩
  simp only at k0 k3 hl hm
  obtain rfl := hm
  by_cases c : i < l.length
  ·have c1 : (i : Int) < l.length := by omega
   obtain ⟨x, hx⟩ : ∃ x, l[i]? = some x := ⟨_, List.getElem?_eq_getElem c⟩
   have ia := wZ6 (h := Hh) (k := .i64) hx
   have wr := wrap64 (n := (i : Int) + 1) (by omega) (by omega)
   by_cases cx : x < 1
   ·have hel : elemsB l = false := by
     have : (l.all fun x => decide (1 ≤ x)) = false := by
      rw [List.all_eq_false]
      exact ⟨x, List.mem_of_getElem? hx, by simp; omega⟩
     simp [elemsB, this]
    simp [zZw.c, zZw.r0, zZw.r1, zZw.r7, zZw.b6, zZw.r2, zZw.r3, zZw.r4, zZw.r5, k0, k3, hl, c1, ia, cI, cx, vZa, hel]
   ·simp [zZw.b6, zZw.r2, zZw.r3, zZw.r4, zZw.r5, k0, k3, hl, c1, ia, cI, cx, vZa, wr]
    refine ⟨l.length - (i + 1), by omega, i + 1, rfl, by omega, by simp, ?_⟩
    intro y hy
    rw [List.take_add_one, hx] at hy
    rcases List.mem_append.1 hy with hy | hy
    ·have := List.all_eq_true.1 hw y hy
     simpa using this
    ·simp at hy
     subst hy; omega
  ·have c1 : ¬ (i : Int) < l.length := by omega
   rw [List.take_of_length_le (by omega)] at hw
   have hel : elemsB l = decide (l.length ≤ 4096) := by unfold elemsB; rw [hw, Bool.and_true]
   have hd : decide ((l.length : Int) ≤ 4096) = decide (l.length ≤ 4096) := by
    by_cases q : l.length ≤ 4096 <;> simp [q] <;> omega
   simp [zZw.c, zZw.r0, zZw.r1, zZw.r7, zZw.b6, zZw.r2, zZw.r3, zZw.r4, zZw.r5, k0, k3, hl, c1, vZa, hel, hd]
 obtain ⟨h', hb⟩ := this
 exact wZe (h := H) zZw.Φ rfl (args := [.arr (l.map cI)]) rfl hb rfl
theorem jZy (s : Rs) (z : SzS s) (H : Heap) : callW Φ zZ9 [.agg (cS s)] H = some (.int .i64 (manyW s.qs), H) := by
 have : ∃ hh, evBodyW (callW Φ) zZ9.c [.agg (cS s)] [] = some (.int .i64 (manyW s.qs), hh) := by
  refine jZ0 (Nat.le_of_ble_eq_true rfl) (fun env he h0 => ?_)
  have g0 := h0 0 (by simp)
  change eget env 0 = .agg (cS s) at g0
  clear h0
  simp [zZ9.c] at he
  obtain ⟨z1, z2, z3, z4, z5⟩ := z
  have b0 : evBox [] (cS s) = some (.ptr 0 0, [.cells (cS s)]) := wZs [] _ rfl
  have hcc : (V.agg (cS s)).cells = cS s := rfl
  have c0 : ∀ off, cellsAt [.cells (cS s)] (.ptr 0 off) = some ((cS s).drop off) := fun off => rfl
  simp [zZ9.c, zZ9.r0, zZ9.r1, zZ9.r2, zZ9.r7, g0, he, hcc, b0, c0, vZa]
  refine kLoop (fun m st => ∃ i : Nat, m = s.qs.length - i ∧ i ≤ s.qs.length ∧ eget st.env 1 = .ptr 0 0 ∧ eget st.env 3 = .int .i64 (manyW (s.qs.take i)) ∧ eget st.env 4 = .int .i64 i ∧ st.env.length = 22 ∧ st.marks = [] ∧ st.heap = [.cells (cS s)]) s.qs.length
   ⟨0, rfl, by omega, by simp [he], by simp [he]; rfl, by simp [he], by simpa using he, rfl, rfl⟩ ?_
  rintro m ⟨env, mk, S⟩ ⟨i, rfl, hi, k1, k3, k4, hl, hm, hS⟩
  simp only at hm k1 k3 k4 hl hS
  obtain rfl := hm
  obtain rfl := hS
  by_cases c : i < s.qs.length
  ·have c1 : (i : Int) < s.qs.length := by omega
   obtain ⟨q, hq⟩ : ∃ q, s.qs[i]? = some q := ⟨_, List.getElem?_eq_getElem c⟩
   have ia := jZq (h := [.cells (cS s)]) (k := .i64) hq
   have wr := wrap64 (n := (i : Int) + 1) (by omega) (by omega)
   have wm := many_take hq
   simp [zZ9.b6, zZ9.r3, zZ9.r4, zZ9.r5, k1, k3, k4, hl, c0, c1, ia, vZa, wr, cQu]
   exact ⟨s.qs.length - (i + 1), by omega, i + 1, rfl, by omega, wm.symm, rfl⟩
  ·have c1 : ¬ (i : Int) < s.qs.length := by omega
   rw [List.take_of_length_le (by omega)] at k3
   simp [zZ9.c, zZ9.r0, zZ9.r1, zZ9.r2, zZ9.r7, zZ9.b6, zZ9.r3, zZ9.r4, zZ9.r5, k1, k3, k4, hl, c0, c1, vZa]
 obtain ⟨h', hb⟩ := this
 exact wZe (h := H) zZ9.Φ rfl (args := [.agg (cS s)]) rfl hb rfl
end Go.Proofs.Rc
