/- Where an element's queue stands; one taken out. A queue taken out of those that wait. No conditions. -/
import Derived.Test.YtoakkanklhfpmaaGreatDoorRcI
set_option maxHeartbeats 16000000
set_option maxRecDepth 100000
set_option linter.unusedVariables false
set_option linter.unusedSimpArgs false
set_option linter.unusedSectionVars false
namespace Go.Proofs.Rc
open Go Go.Ev
theorem cQu_at {q : Qu} {xs : List (List V)} : ∀ {n : Nat}, (cQu q)[n]? = some (.arr xs) → n = 1
 | 0, h => by simp [cQu] at h
 | 1, _ => rfl
 | n + 2, h => by simp [cQu] at h
theorem El.toQ {H : Heap} {e : List V} {o : Option Nat} {q : Qu} (h : El H 12 e o (cQu q)) : ∃ v, e = [.int .i64 q.el, v] ∧ VS H 12 v o (q.l.map cX) := by
 obtain ⟨a, b, v, xs, rfl, h2, h3, h4, h5⟩ := h
 have hx : (cQu q)[a.length]? = some (.arr xs) := by rw [h2, List.getElem?_append_right (Nat.le_refl _), Nat.sub_self]; rfl
 have ha := cQu_at hx
 match a, b, ha, h2 with
 | [a0], [], _, h2 =>
  simp only [cQu, List.cons_append, List.nil_append, List.cons.injEq, and_true] at h2
  obtain ⟨e0, e1⟩ := h2
  simp only [V.arr.injEq] at e1
  subst e0 e1
  exact ⟨v, rfl, h5⟩
 | [a0], b0 :: br, _, h2 => simp [cQu] at h2
theorem Subs.get {H : Heap} {z : Nat} : ∀ {es : List (List V)} {os : List (Option Nat)} {ps : List (List V)} {i : Nat} {p : List V}, Subs H z es os ps → ps[i]? = some p → ∃ e o, es[i]? = some e ∧ os[i]? = some o ∧ El H z e o p
 | [], [], [], i, p, _, h => by simp at h
 | e :: es, o :: os, q :: ps, 0, p, ⟨h1, _, _⟩, h => by
  simp only [List.getElem?_cons_zero, Option.some.injEq] at h
  subst h
  exact ⟨e, o, rfl, rfl, h1⟩
 | e :: es, o :: os, q :: ps, i + 1, p, ⟨_, _, h3⟩, h => by
  obtain ⟨e', o', h4, h5, h6⟩ := h3.get (i := i) (by simpa using h)
  exact ⟨e', o', by simpa using h4, by simpa using h5, h6⟩
 | [], [], _ :: _, _, _, h, _ => h.elim
 | [], _ :: _, _, _, _, h, _ => h.elim
 | _ :: _, [], _, _, _, h, _ => h.elim
 | _ :: _, _ :: _, [], _, _, h, _ => h.elim
theorem VQ.at {H : Heap} {sz z : Nat} {v : V} {o : Option Nat} {os : List (Option Nat)} {ps ex : List (List V)} (h : VQ H sz z v o os ps ex) {i : Nat} {p : List V} (hp : ps[i]? = some p) :
  ∃ id ep e oe, o = some id ∧ iaddrV H sz v (.int .i64 i) = some (.eptr id ep i 0) ∧ (∀ off, cellsAt H (.eptr id ep i off) = some (e.drop off)) ∧ El H z e oe p ∧ os[i]? = some oe := by
 have hi := (List.getElem?_eq_some_iff.1 hp).1
 rcases h with ⟨_, rfl, _⟩ | ⟨id, ep, es, rfl, rfl, hr, hs, hn⟩
 ·simp at hp
 ·obtain ⟨e, oe, h1, h2, h3⟩ := hs.get hp
  have hl := hs.len
  have he : (es ++ ex)[i]? = some e := by rw [List.getElem?_append_left (by omega)]; exact h1
  refine ⟨id, ep, e, oe, rfl, ?_, fun off => by simp only [cellsAt, hr, if_true, he, Option.map_some], h3, h2⟩
  simp only [iaddrV, hr, Nat.zero_add, true_and, Int.toNat_natCast]
  rw [if_pos ⟨by omega, by omega⟩, if_pos (List.getElem?_eq_some_iff.1 he).1]
def SS (H : Heap) (v : V) (o : Option Nat) (l : List Int) : Prop := (v = .arr (l.map cI) ∧ o = none) ∨ VS H 1 v o (l.map cI)
theorem SS.mono {H H' : Heap} {v : V} {o : Option Nat} {l : List Int} (h : SS H v o l) (hh : ∀ id, o = some id → H'[id]? = H[id]?) : SS H' v o l := h.elim .inl fun h => .inr (h.mono hh)
theorem SS.lt {H : Heap} {v : V} {o : Option Nat} {l : List Int} (h : SS H v o l) {id : Nat} (ho : o = some id) : id < H.length := by
 rcases h with ⟨_, h⟩ | h
 ·rw [h] at ho; cases ho
 ·exact h.lt ho
theorem SS.len {H : Heap} {v : V} {o : Option Nat} {l : List Int} (h : SS H v o l) (H2 : Heap) : evLen H2 .l v = some (.int .i64 l.length, H2) := by
 rcases h with ⟨rfl, _⟩ | h
 ·rw [vZa, List.length_map]
 ·rw [h.len, List.length_map]
theorem SS.at {H : Heap} {v : V} {o : Option Nat} {l : List Int} (h : SS H v o l) {i : Nat} {x : Int} (hx : l[i]? = some x) : ∃ a, iaddrV H 1 v (.int .i64 i) = some a ∧ cellsAt H a = some (cI x) := by
 rcases h with ⟨rfl, _⟩ | h
 ·exact ⟨_, wZ6 hx, rfl⟩
 ·have hi := (List.getElem?_eq_some_iff.1 hx).1
  rcases h with ⟨_, h2, _⟩ | ⟨id, ep, off, ys, rfl, rfl, hr, hp, h1, hl⟩
  ·have := congrArg List.length h2
   simp at this
   subst this; simp at hx
  ·rw [List.length_map] at hl h1
   have hy : ys[off + i]? = some (cI x) := by
    have : (l.map cI)[i]? = some (cI x) := by simp [hx]
    rw [h1, List.getElem?_take, if_pos hi, List.getElem?_drop] at this
    exact this
   refine ⟨.eptr id ep (off + i) 0, ?_, by simp only [cellsAt, hr, if_true, hy, Option.map_some, List.drop_zero]⟩
   simp only [iaddrV, hr, List.length_map, true_and, Int.toNat_natCast]
   rw [if_pos ⟨by omega, by omega⟩, if_pos (by omega)]
theorem SS.from {H : Heap} {v : V} {o : Option Nat} {l : List Int} (h : SS H v o l) {i : Nat} (hi : i < l.length) : ∃ v', sliceV .l H 1 v (some (.int .i64 i)) none = some v' ∧ elemsOf H v' = some ((l.drop i).map cI) ∧ v' ≠ .nils ∧ ∀ s, v' ≠ .str s := by
 rcases h with ⟨rfl, _⟩ | h
 ·refine ⟨.arr ((l.drop i).map cI), ?_, rfl, by simp, by simp⟩
  have hz : szOk 1 (l.map cI) = true := jZK (plainI l)
  have e0 : (i : Int) ≤ l.length := by omega
  simp only [sliceV, sliceL, hz, if_true, lohi, bound, List.length_map, Int.toNat_natCast]
  rw [if_pos ⟨by omega, by omega⟩]
  simp [List.take_of_length_le]
 ·rcases h with ⟨_, h2, _⟩ | ⟨id, ep, off, ys, rfl, rfl, hr, hp, h1, hl⟩
  ·have := congrArg List.length h2
   simp at this
   subst this; simp at hi
  ·rw [List.length_map] at hl h1
   refine ⟨.sl id ep (off + i) (l.length - i), ?_, ?_, by simp, by simp⟩
   ·simp only [sliceV, sliceL, hr, lohi, bound, List.length_map, Int.toNat_natCast, and_self, if_true]
    rw [if_pos ⟨by omega, by omega⟩]
   ·have : ((ys.drop (off + i)).take (l.length - i)) = (l.drop i).map cI := by
     rw [List.map_drop, h1, List.drop_take, List.drop_drop]
    simp only [elemsOf, hr, if_true, true_and]
    rw [if_pos (by omega), this]
def placeN (qs : List Qu) (n : Int) : Int := match qs.findIdx? (fun q => q.el == n) with | some a => a | none => -1
theorem kZa (q : Qu) (v : V) (b : Nat) (n : Int) (H : Heap) (hb : H[b]? = some (.cells [.int .i64 n])) (hv : v.isCell = true) : ∃ r h', callW Φ (.fn (.func qZp.k) [] [.ptr b 0]) [.agg [.int .i64 q.el, v]] H = some (r, h') ∧ (fun r h' => r = .bool (q.el == n) ∧ H.length ≤ h'.length ∧ ∀ j, j < H.length → h'[j]? = H[j]?) r h' := by
 obtain ⟨P, hP⟩ : ∃ P : V → Heap → Prop, P = fun r h' => r = .bool (q.el == n) ∧ H.length ≤ h'.length ∧ ∀ j, j < H.length → h'[j]? = H[j]? := ⟨_, rfl⟩
 suffices hgo : ∃ r h', callW Φ (.fn (.func qZp.k) [] [.ptr b 0]) [.agg [.int .i64 q.el, v]] H = some (r, h') ∧ P r h' by rw [hP] at hgo; exact hgo
 have hPi : ∀ r h', (fun r h' => r = .bool (q.el == n) ∧ H.length ≤ h'.length ∧ ∀ j, j < H.length → h'[j]? = H[j]?) r h' → P r h' := fun r h' q => by rw [hP]; exact q
 clear hP
 refine wZS qZp.Φ rfl (Nat.le_of_ble_eq_true rfl) (fun env he h0 => ?_)
 have g0 := h0 0 (by simp)
 change eget env 0 = .agg [.int .i64 q.el, v] at g0
 have g1 := h0 1 (by simp)
 change eget env 1 = .ptr b 0 at g1
 clear h0
 simp [qZp.c] at he
 have hcc : (V.agg [.int .i64 q.el, v]).cells = [.int .i64 q.el, v] := rfl
 have hall : ([.int .i64 q.el, v] : List V).all V.isCell = true := by simp only [List.all_cons, List.all_nil, hv]; rfl
 have b0 : evBox H [.int .i64 q.el, v] = some (.ptr H.length 0, H ++ [.cells [.int .i64 q.el, v]]) := wZs _ _ hall
 have hlb := (List.getElem?_eq_some_iff.1 hb).1
 obtain ⟨S, hS⟩ : ∃ S, S = H ++ [Ob.cells [.int .i64 q.el, v]] := ⟨_, rfl⟩
 have c0 : cellsAt S (.ptr H.length 0) = some [.int .i64 q.el, v] := by rw [hS]; exact wZt _ _ 0
 have c1 : cellsAt S (.ptr b 0) = some [.int .i64 n] := by rw [hS]; exact qZo (by rw [List.getElem?_append_left hlb]; exact hb) 0
 have fin := hPi (.bool (q.el == n)) S ⟨rfl, by rw [hS]; simp, fun j hj => by rw [hS, List.getElem?_append_left hj]⟩
 rw [← hS] at b0
 simp [qZp.c, qZp.r0, qZp.r1, g0, g1, he, hcc, b0, c0, c1, fin]
theorem ixQ (qs : List Qu) (v : V) (o : Option Nat) (os : List (Option Nat)) (ex : List (List V)) (b : Nat) (n : Int) (H : Heap) (hz : qs.length ≤ 2 ^ 42) (hb : H[b]? = some (.cells [.int .i64 n])) (hv : VQ H 2 12 v o os (qs.map cQu) ex) : ∃ r h', callW Φ (.fn (.func zZa.k) [] []) [v, .fn (.func qZp.k) [] [.ptr b 0]] H = some (r, h') ∧ (fun r h' => r = .int .i64 (placeN qs n) ∧ H.length ≤ h'.length ∧ ∀ j, j < H.length → h'[j]? = H[j]?) r h' := by
 obtain ⟨P, hP⟩ : ∃ P : V → Heap → Prop, P = fun r h' => r = .int .i64 (placeN qs n) ∧ H.length ≤ h'.length ∧ ∀ j, j < H.length → h'[j]? = H[j]? := ⟨_, rfl⟩
 suffices hgo : ∃ r h', callW Φ (.fn (.func zZa.k) [] []) [v, .fn (.func qZp.k) [] [.ptr b 0]] H = some (r, h') ∧ P r h' by rw [hP] at hgo; exact hgo
 have hPi : ∀ r h', (fun r h' => r = .int .i64 (placeN qs n) ∧ H.length ≤ h'.length ∧ ∀ j, j < H.length → h'[j]? = H[j]?) r h' → P r h' := fun r h' q => by rw [hP]; exact q
 clear hP
 refine wZS zZa.Φ rfl (Nat.le_of_ble_eq_true rfl) (fun env he h0 => ?_)
 have g0 := h0 0 (by simp)
 change eget env 0 = v at g0
 have g1 := h0 1 (by simp)
 change eget env 1 = .fn (.func qZp.k) [] [.ptr b 0] at g1
 clear h0
 simp [zZa.c] at he
 have hlb := (List.getElem?_eq_some_iff.1 hb).1
 have hll : ∀ H2, evLen H2 .l v = some (.int .i64 qs.length, H2) := fun H2 => by rw [hv.len, List.length_map]
 simp [zZa.c, zZa.r0, zZa.r1, zZa.r8, g0, g1, he, hll]
 refine kLoop (fun m s => ∃ i : Nat, m = qs.length - i ∧ i ≤ qs.length ∧ (eget s.env 0 = v ∧ eget s.env 1 = .fn (.func qZp.k) [] [.ptr b 0] ∧ eget s.env 7 = .int .i64 qs.length ∧ eget s.env 8 = .int .i64 i ∧ s.env.length = 19) ∧ s.marks = [] ∧ H.length ≤ s.heap.length ∧ (∀ j, j < H.length → s.heap[j]? = H[j]?) ∧ ∀ q ∈ qs.take i, (q.el == n) = false) qs.length
  ⟨0, rfl, by omega, ⟨by simpa using g0, by simpa using g1, by simp [he], by simp [he], by simpa using he⟩, rfl, Nat.le_refl _, fun _ _ => rfl, by simp⟩ ?_
 rintro m ⟨env, mk, S⟩ ⟨i, rfl, hi, ⟨k0, k1, k7, k8, hl⟩, hm, hS, hk, hw⟩
 simp only at k0 k1 k7 k8 hl hm hS hk
 obtain rfl := hm
 by_cases c : i < qs.length
 ·have c1 : (i : Int) < qs.length := by omega
  obtain ⟨x, hx⟩ : ∃ x, qs[i]? = some x := ⟨_, List.getElem?_eq_getElem c⟩
  have hv1 := hv.mono (H' := S) fun id h => hk id (h.elim (hv.lt.1 id) (hv.lt.2 id))
  obtain ⟨id, ep, e, oe, _, ia, ca, hE, _⟩ := hv1.at (i := i) (p := cQu x) (by simp [hx])
  obtain ⟨w, rfl, hw2⟩ := hE.toQ
  have ca0 := ca 0
  have ok : ∀ H : Heap, okCells H (some 2) (some [.int .i64 x.el, w]) = some (.agg [.int .i64 x.el, w], H) := fun _ => rfl
  have wr := wrap64 (n := (i : Int) + 1) (by omega) (by omega)
  obtain ⟨r, S2, hc, rfl, l2, n2⟩ := kZa x w b n S (by rw [hk b hlb]; exact hb) hw2.cell.1
  cases cx : (x.el == n)
  ·rw [cx] at hc
   simp [zZa.b7, zZa.r2, zZa.r3, zZa.r4, zZa.r5, zZa.r6, k0, k1, k7, k8, hl, c1, ia, ca0, ok, hc, wr]
   refine ⟨qs.length - (i + 1), by omega, i + 1, rfl, by omega, by simp, by omega, fun j hj => by rw [n2 j (by omega), hk j hj], fun y hy => ?_⟩
   rw [List.take_add_one, hx] at hy
   rcases List.mem_append.1 hy with hy | hy
   ·simpa using hw y hy
   ·simp at hy
    subst hy
    simpa using cx
  ·rw [cx] at hc
   have hpl : placeN qs n = i := by
    unfold placeN
    rw [(List.findIdx?_eq_some_iff_getElem (xs := qs) (i := i) (p := fun q => q.el == n)).2 ⟨c, by rw [show qs[i] = x from Option.some.inj ((List.getElem?_eq_getElem c).symm.trans hx)]; exact cx, fun j hj => by
     have := hw qs[j] (List.mem_take_iff_getElem.2 ⟨j, by omega, rfl⟩)
     simpa using this⟩]
   have fin := hPi (.int .i64 i) S2 ⟨by rw [hpl], by omega, fun j hj => by rw [n2 j (by omega), hk j hj]⟩
   simp [zZa.c, zZa.r0, zZa.r1, zZa.r8, zZa.b7, zZa.r2, zZa.r3, zZa.r4, zZa.r5, zZa.r6, k0, k1, k7, k8, hl, c1, ia, ca0, ok, hc, fin]
 ·have c1 : ¬ (i : Int) < qs.length := by omega
  have hpl : placeN qs n = -1 := by
   unfold placeN
   rw [List.findIdx?_eq_none_iff.2 fun q hq => hw q (by rw [List.take_of_length_le (by omega)]; exact hq)]
  have fin := hPi (.int .i64 (-1)) S ⟨by rw [hpl], hS, hk⟩
  simp [zZa.c, zZa.r0, zZa.r1, zZa.r8, zZa.b7, zZa.r2, zZa.r3, zZa.r4, zZa.r5, zZa.r6, k0, k1, k7, k8, hl, c1, fin]
theorem kZG (qs : List Qu) (v v1 v2 : V) (bz : Bool) (o : Option Nat) (os : List (Option Nat)) (ex : List (List V)) (n : Int) (H : Heap) (hz : qs.length ≤ 2 ^ 42) (hv : VQ H 2 12 v o os (qs.map cQu) ex) (h1 : v1.isCell = true) (h2 : v2.isCell = true) : ∃ r h', callW Φ (.fn (.func qZX.k) [] []) [.agg [v, v1, v2, .bool bz], .int .i64 n] H = some (r, h') ∧ (fun r h' => r = .int .i64 (placeN qs n) ∧ H.length ≤ h'.length ∧ ∀ j, j < H.length → h'[j]? = H[j]?) r h' := by
 obtain ⟨P, hP⟩ : ∃ P : V → Heap → Prop, P = fun r h' => r = .int .i64 (placeN qs n) ∧ H.length ≤ h'.length ∧ ∀ j, j < H.length → h'[j]? = H[j]? := ⟨_, rfl⟩
 suffices hgo : ∃ r h', callW Φ (.fn (.func qZX.k) [] []) [.agg [v, v1, v2, .bool bz], .int .i64 n] H = some (r, h') ∧ P r h' by rw [hP] at hgo; exact hgo
 have hPi : ∀ r h', (fun r h' => r = .int .i64 (placeN qs n) ∧ H.length ≤ h'.length ∧ ∀ j, j < H.length → h'[j]? = H[j]?) r h' → P r h' := fun r h' q => by rw [hP]; exact q
 clear hP
 refine wZS qZX.Φ rfl (Nat.le_of_ble_eq_true rfl) (fun env he h0 => ?_)
 have g0 := h0 0 (by simp)
 change eget env 0 = .agg [v, v1, v2, .bool bz] at g0
 have g1 := h0 1 (by simp)
 change eget env 1 = .int .i64 n at g1
 clear h0
 simp [qZX.c] at he
 have hcc : (V.agg [v, v1, v2, .bool bz]).cells = [v, v1, v2, .bool bz] := rfl
 have hci : (V.int .i64 n).cells = [.int .i64 n] := rfl
 have hall : ([v, v1, v2, .bool bz] : List V).all V.isCell = true := by simp only [List.all_cons, List.all_nil, hv.cell.1, h1, h2]; rfl
 have b0 : evBox H [v, v1, v2, .bool bz] = some (.ptr H.length 0, H ++ [.cells [v, v1, v2, .bool bz]]) := wZs _ _ hall
 have b1 : evBox (H ++ [.cells [v, v1, v2, .bool bz]]) [.int .i64 n] = some (.ptr (H.length + 1) 0, H ++ [.cells [v, v1, v2, .bool bz]] ++ [.cells [.int .i64 n]]) := by
  rw [wZs _ _ rfl]; simp
 obtain ⟨S, hS⟩ : ∃ S, S = H ++ [.cells [v, v1, v2, .bool bz]] ++ [Ob.cells [.int .i64 n]] := ⟨_, rfl⟩
 rw [← hS] at b1
 have kS : ∀ j, j < H.length → S[j]? = H[j]? := fun j hj => by rw [hS, List.append_assoc, List.getElem?_append_left hj]
 have c0 : cellsAt S (.ptr H.length 0) = some [v, v1, v2, .bool bz] := qZo (by rw [hS, List.append_assoc]; simp) 0
 have hb : S[H.length + 1]? = some (.cells [.int .i64 n]) := by rw [hS, List.getElem?_append_right (by simp)]; simp
 have hv1 := hv.mono (H' := S) fun id h => kS id (h.elim (hv.lt.1 id) (hv.lt.2 id))
 obtain ⟨r, S2, hc, rfl, l2, n2⟩ := ixQ qs v o os ex (H.length + 1) n S hz hb hv1
 have lS : H.length ≤ S.length := by rw [hS]; simp
 have okv : okCells S none (some [v, v1, v2, .bool bz]) = some (v, S) := by
  have := hv.cell.1
  simp [okCells, this]
 have fin := hPi (.int .i64 (placeN qs n)) S2 ⟨rfl, by omega, fun j hj => by rw [n2 j (by omega), kS j hj]⟩
 simp [qZX.c, qZX.r0, qZX.r1, g0, g1, he, hcc, hci, b0, b1, c0, okv, hc, fin]
open Go Go.Ev
theorem Subs.app2 {H : Heap} {z : Nat} {es2 : List (List V)} {os2 : List (Option Nat)} {ps2 : List (List V)} (hv : Subs H z es2 os2 ps2) {es : List (List V)} {os : List (Option Nat)} {ps : List (List V)} (h : Subs H z es os ps) (ha : ∀ o ∈ os, ∀ o' ∈ os2, Apart o o') : Subs H z (es ++ es2) (os ++ os2) (ps ++ ps2) := hv.app h ha
theorem Subs.td {H : Heap} {z : Nat} : ∀ {es : List (List V)} {os : List (Option Nat)} {ps : List (List V)} (n : Nat), Subs H z es os ps → Subs H z (es.take n) (os.take n) (ps.take n) ∧ Subs H z (es.drop n) (os.drop n) (ps.drop n) ∧ ∀ o ∈ os.take n, ∀ o' ∈ os.drop n, Apart o o'
 | es, os, ps, 0, h => ⟨by simp [Subs], h, by simp⟩
 | [], [], [], n + 1, h => ⟨trivial, trivial, by simp⟩
 | e :: es, o :: os, p :: ps, n + 1, ⟨h1, h2, h3⟩ => by
  obtain ⟨a, b, c⟩ := h3.td n
  refine ⟨⟨h1, fun o' ho' => h2 o' (List.mem_of_mem_take ho'), a⟩, b, fun o1 ho1 o' ho' => ?_⟩
  simp only [List.take_succ_cons, List.mem_cons] at ho1
  rcases ho1 with rfl | ho1
  ·exact h2 o' (List.mem_of_mem_drop ho')
  ·exact c o1 ho1 o' ho'
 | [], [], _ :: _, _ + 1, h => h.elim
 | [], _ :: _, _, _ + 1, h => h.elim
 | _ :: _, [], _, _ + 1, h => h.elim
 | _ :: _, _ :: _, [], _ + 1, h => h.elim
theorem Subs.two {H : Heap} {z : Nat} : ∀ {es : List (List V)} {os : List (Option Nat)} {ps : List (List V)}, Subs H z es os ps → ∀ e ∈ es, ∃ o p, El H z e o p ∧ p ∈ ps
 | [], [], [], _, e, h => by cases h
 | e :: es, o :: os, p :: ps, ⟨h1, _, h3⟩, x, h => by
  rcases List.mem_cons.1 h with rfl | h
  ·exact ⟨o, p, h1, by simp⟩
  ·obtain ⟨o', p', a, b⟩ := h3.two x h
   exact ⟨o', p', a, by simp [b]⟩
 | [], [], _ :: _, h, _, _ => h.elim
 | [], _ :: _, _, h, _, _ => h.elim
 | _ :: _, [], _, h, _, _ => h.elim
 | _ :: _, _ :: _, [], h, _, _ => h.elim
theorem Subs.cast {H : Heap} {z : Nat} {es : List (List V)} {os : List (Option Nat)} {ps ps2 : List (List V)} (h : Subs H z es os ps) (he : ps = ps2) : Subs H z es os ps2 := he ▸ h
def delP (qs : List Qu) (a : Nat) (o : Option Nat) (os : List (Option Nat)) (H : Heap) (r : V) (H' : Heap) : Prop := ∃ os' ex', VQ H' 2 12 r o os' ((qs.eraseIdx a).map cQu) ex' ∧ (∀ id, some id ∈ os' → some id ∈ os) ∧ H'.length = H.length ∧ ∀ j, o ≠ some j → H'[j]? = H[j]?
theorem delQ (qs : List Qu) (v : V) (o : Option Nat) (os : List (Option Nat)) (a : Nat) (H : Heap) (hz : qs.length ≤ 2 ^ 42) (ha : a < qs.length) (hv : VQ H 2 12 v o os (qs.map cQu) []) : ∃ r h', callW Φ (.fn (.func zZf.k) [] []) [v, .int .i64 a, .int .i64 (a + 1)] H = some (r, h') ∧ (delP qs a o os H) r h' := by
 obtain ⟨P, hP⟩ : ∃ P : V → Heap → Prop, P = delP qs a o os H := ⟨_, rfl⟩
 suffices hgo : ∃ r h', callW Φ (.fn (.func zZf.k) [] []) [v, .int .i64 a, .int .i64 (a + 1)] H = some (r, h') ∧ P r h' by rw [hP] at hgo; exact hgo
 have hPi : ∀ r h', (delP qs a o os H) r h' → P r h' := fun r h' q => by rw [hP]; exact q
 clear hP
 refine wZS zZf.Φ rfl (Nat.le_of_ble_eq_true rfl) (fun env he h0 => ?_)
 have g0 := h0 0 (by simp)
 change eget env 0 = v at g0
 have g1 := h0 1 (by simp)
 change eget env 1 = .int .i64 a at g1
 have g2 := h0 2 (by simp)
 change eget env 2 = .int .i64 (a + 1) at g2
 clear h0
 simp [zZf.c] at he
 rcases hv with ⟨_, h2, _⟩ | ⟨id, ep, es, rfl, rfl, hrow, hs, hno⟩
 ·simp at h2; subst h2; simp at ha
 have hles := hs.len
 simp only [List.length_map] at hles
 obtain ⟨sA, _, _⟩ := hs.td a
 obtain ⟨_, sE, _⟩ := hs.td (a + 1)
 obtain ⟨_, _, sF⟩ := hs.td a
 rw [List.append_nil] at hrow
 have hid := (List.getElem?_eq_some_iff.1 hrow).1
 have hl2 : ∀ e ∈ es, e.length = 2 := fun e he => by
  obtain ⟨o', p, h1, h2⟩ := hs.two e he
  obtain ⟨q, _, rfl⟩ := List.mem_map.1 h2
  exact h1.len
 have hlen : ∀ (H2 : Heap) (n : Nat), evLen H2 .l (.sl id ep 0 n) = some (.int .i64 n, H2) := fun H2 n => by simp [evLen, lenV, vZL]
 have sl3 : evSl3 H (.sl id ep 0 qs.length) (some (.int .i64 a)) (.int .i64 ((a : Int) + 1)) (.int .i64 qs.length) = some (.undef, H) := by
  simp only [evSl3, lenV, lohi, bound, Int.toNat_natCast]
  rw [if_pos ⟨by omega, by omega⟩]
  simp only
  rw [if_pos ⟨by omega, by omega⟩]
  simp only
  rw [if_pos ⟨by omega, by omega⟩]
 have ne : ((a : Int) == (a : Int) + 1) = false := by simp; omega
 have q1 : sliceV .l H 2 (.sl id ep 0 qs.length) none (some (.int .i64 a)) = some (.sl id ep 0 a) := by
  simp only [sliceV, sliceL, hrow, lohi, bound, Int.toNat_natCast, and_self, if_true]
  rw [if_pos ⟨by omega, by omega⟩]
  simp
 have q2 : sliceV .l H 2 (.sl id ep 0 qs.length) (some (.int .i64 ((a : Int) + 1))) none = some (.sl id ep (a + 1) (qs.length - (a + 1))) := by
  simp only [sliceV, sliceL, hrow, lohi, bound, and_self, if_true]
  rw [if_pos ⟨by omega, by omega⟩]
  have : ((a : Int) + 1).toNat = a + 1 := by omega
  simp [this]
 have hD : (es.drop (a + 1)).take (qs.length - (a + 1)) = es.drop (a + 1) := List.take_of_length_le (by rw [List.length_drop]; omega)
 have hq : elemsOf H (.sl id ep (a + 1) (qs.length - (a + 1))) = some (es.drop (a + 1)) := by
  simp only [elemsOf, hrow, if_true, true_and]
  rw [if_pos (by omega), hD]
 have happ : ∃ y H1, evApp H 2 32 (.sl id ep 0 a) (.sl id ep (a + 1) (qs.length - (a + 1))) = some (.sl id ep 0 (qs.length - 1), H1) ∧ H1[id]? = some (.row 2 (es.take a ++ es.drop (a + 1) ++ [y]) ep true) ∧ H1.length = H.length ∧ ∀ j, j ≠ id → H1[j]? = H[j]? := by
  by_cases hn : es.drop (a + 1) = []
  ·have hl : es.length = a + 1 := by
    have := congrArg List.length hn
    simp at this; omega
   refine ⟨es[a], H, ?_, ?_, rfl, fun _ _ => rfl⟩
   ·simp only [evApp, hq, hn, hrow]
    rw [show qs.length - 1 = a by omega]
   ·rw [hn, List.append_nil, hrow]
    congr 2
    have : es.drop a = [es[a]] := by rw [List.drop_eq_getElem_cons (by omega), hn]
    rw [← this, List.take_append_drop]
  ·obtain ⟨d, ds, hd⟩ : ∃ d ds, es.drop (a + 1) = d :: ds := by
    cases hh : es.drop (a + 1) with
    | nil => exact absurd hh hn
    | cons d ds => exact ⟨d, ds, rfl⟩
   have hlD : (es.drop (a + 1)).length = qs.length - (a + 1) := by rw [List.length_drop]; omega
   have hlast : es.drop (qs.length - 1) = [es[qs.length - 1]'(by omega)] := by
    rw [List.drop_eq_getElem_cons (by omega), List.drop_eq_nil_of_le (by omega)]
   have hsz : szOk 2 (es.drop (a + 1)) = true := by
    simp only [szOk, List.all_eq_true, beq_iff_eq]
    exact fun x hx => hl2 x (List.mem_of_mem_drop hx)
   refine ⟨es[qs.length - 1]'(by omega), H.set id (.row 2 (es.take a ++ es.drop (a + 1) ++ [es[qs.length - 1]'(by omega)]) ep true), ?_, by rw [List.getElem?_set_self hid], by simp, fun j hj => by rw [List.getElem?_set_ne (Ne.symm hj)]⟩
   have hc : (d :: ds).length = qs.length - (a + 1) := by rw [← hd]; exact hlD
   have ha2 : a ≤ qs.length := by omega
   have room : (a + (d :: ds).length) * 32 ≤ roomB := by rw [hc]; unfold roomB; omega
   simp only [evApp, hq, hrow]
   rw [hd] at hsz ⊢
   simp only [hsz, room, true_and, and_true]
   rw [if_pos trivial, if_neg (by omega), if_pos (by rw [hc]; omega), vZL, vZC, ← hd, Nat.zero_add, hlD, show a + (qs.length - (a + 1)) = qs.length - 1 by omega, hlast]
 obtain ⟨y, H1, e1, r1, l1, k1⟩ := happ
 have hl1 : (es.take a ++ es.drop (a + 1)).length = qs.length - 1 := by simp; omega
 have cast1 : ((qs.length - 1 : Nat) : Int) = (qs.length : Int) - 1 := by omega
 have q3 : sliceV .l H1 2 (.sl id ep 0 (qs.length - 1)) (some (.int .i64 ((qs.length - 1 : Nat) : Int))) (some (.int .i64 qs.length)) = some (.sl id ep (qs.length - 1) 1) := by
  have hrl : (es.take a ++ es.drop (a + 1) ++ [y]).length = qs.length := by rw [List.length_append, hl1]; simp; omega
  simp only [sliceV, sliceL, r1, lohi, bound, hrl, Int.toNat_natCast, and_self, if_true]
  rw [if_pos ⟨by omega, by omega⟩]
  simp only
  rw [if_pos ⟨by omega, by omega⟩]
  simp only [Option.some.injEq, V.sl.injEq, true_and]
  omega
 have hclr : evClr H1 2 [.int .i64 0, .nils] (.sl id ep (qs.length - 1) 1) = some (V.non, H1.set id (.row 2 (es.take a ++ es.drop (a + 1) ++ [[.int .i64 0, .nils]]) ep true)) := by
  simp only [evClr, r1, Nat.one_ne_zero, if_false, true_and]
  rw [if_pos ⟨by rw [List.length_append, hl1]; simp, rfl⟩, vZC]
  have t1 : (es.take a ++ es.drop (a + 1) ++ [y]).take (qs.length - 1) = es.take a ++ es.drop (a + 1) := by rw [← hl1, List.take_left]
  have t2 : (es.take a ++ es.drop (a + 1) ++ [y]).drop (qs.length - 1 + 1) = [] := List.drop_eq_nil_of_le (by rw [List.length_append, hl1]; simp)
  rw [t1, t2]
  simp
 have hid1 := (List.getElem?_eq_some_iff.1 r1).1
 obtain ⟨H2, hH2⟩ : ∃ H2, H2 = H1.set id (.row 2 (es.take a ++ es.drop (a + 1) ++ [[.int .i64 0, .nils]]) ep true) := ⟨_, rfl⟩
 rw [← hH2] at hclr
 have k2 : ∀ j, j ≠ id → H2[j]? = H[j]? := fun j hj => by rw [hH2, List.getElem?_set_ne (Ne.symm hj), k1 j hj]
 have fin := hPi (.sl id ep 0 (qs.length - 1)) H2 ⟨os.take a ++ os.drop (a + 1), [[.int .i64 0, .nils]], .inr ⟨id, ep, es.take a ++ es.drop (a + 1), rfl, by rw [List.length_map, List.length_eraseIdx, if_pos ha], by rw [hH2, List.getElem?_set_self hid1], ?_, ?_⟩, ?_, by rw [hH2]; simp [l1], fun j hj => k2 j fun e => hj (by rw [e])⟩
 ·rw [List.length_map] at g0
  rw [cast1] at q3
  have hw1 : IntKind.i64.wrap ((a : Int) + 1) = (a : Int) + 1 := wrap64 (by omega) (by omega)
  simp [zZf.c, zZf.r0, zZf.r1, zZf.r2, zZf.r4, g0, g1, g2, he, hlen, sl3, ne]
  refine kDraw1 zZf.r5.ord ?_
  simp [zZf.r5, zZf.r6, zZf.r7, g0, g1, g2, he, hlen, q1, q2, e1, q3, cast1, hclr, fin]
 ·rw [List.eraseIdx_eq_take_drop_succ, List.map_append]
  refine Subs.app ((sE.mono fun k h => k2 k fun e => hno (by rw [← e]; exact List.mem_of_mem_drop h)).cast ?_) ((sA.mono fun k h => k2 k fun e => hno (by rw [← e]; exact List.mem_of_mem_take h)).cast ?_) fun o ho o' ho' => sF o ho o' ?_
  ·rw [List.map_drop]
  ·rw [List.map_take]
  ·have : os.drop (a + 1) = (os.drop a).drop 1 := by rw [List.drop_drop]
   rw [this] at ho'
   exact List.mem_of_mem_drop ho'
 ·intro h
  rcases List.mem_append.1 h with h | h
  ·exact hno (List.mem_of_mem_take h)
  ·exact hno (List.mem_of_mem_drop h)
 ·intro k h
  rcases List.mem_append.1 h with h | h
  ·exact List.mem_of_mem_take h
  ·exact List.mem_of_mem_drop h
end Go.Proofs.Rc
