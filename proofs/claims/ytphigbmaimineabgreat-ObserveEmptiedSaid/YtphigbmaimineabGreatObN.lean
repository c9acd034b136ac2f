/- Registrations that go with what is handed over: found, dropped. Registrations that go with what is handed over: dropped. No conditions. -/
import Derived.Test.YtphigbmaimineabGreatObM
set_option maxHeartbeats 16000000
set_option maxRecDepth 100000
set_option linter.unusedVariables false
set_option linter.unusedSimpArgs false
set_option linter.unusedSectionVars false
namespace Go.Proofs.Ob
open Go Go.Ev
theorem cG_at {g : Rg} {xs : List (List V)} : ∀ {n : Nat}, (cG g)[n]? = some (.arr xs) → n = 9
 | 9, _ => rfl
 | 0, h | 1, h | 2, h | 3, h | 4, h | 5, h | 6, h | 7, h | 8, h | 10, h | 11, h => by simp [cG] at h
 | n + 12, h => by simp [cG] at h
theorem El.toG {H : Heap} {e : List V} {o : Option Nat} {g : Rg} (h : El H 1 e o (cG g)) : ∃ v, e = cGv g v ∧ VL H 1 v o (g.o.filt.map cT) := by
 obtain ⟨a, b, v, xs, h1, h2, h3, h4, h5⟩ := h
 have h9 : a.length = 9 := cG_at (g := g) (xs := xs) (by rw [h2]; simp)
 have ha : a = (cG g).take 9 := by rw [h2, ← h9, List.take_left]
 have hb : V.arr xs :: b = (cG g).drop 9 := by rw [h2, ← h9, List.drop_left]
 have hx : xs = g.o.filt.map cT ∧ b = [.bool g.o.fs, .int .i64 g.src] := by
  have : (cG g).drop 9 = [.arr (g.o.filt.map cT), .bool g.o.fs, .int .i64 g.src] := rfl
  rw [this] at hb
  simp only [List.cons.injEq, V.arr.injEq] at hb
  exact hb
 refine ⟨v, ?_, by rw [← hx.1]; exact h5⟩
 rw [h1, ha, hx.2]; rfl
def goes (n : Int) (g : Rg) : Bool := g.obs == n && !(g.src == 0)
theorem wZa (g : Rg) (v : V) (b : Nat) (n : Int) (H : Heap) (hb : H[b]? = some (.cells [.int .i64 n])) (hn : -9223372036854775808 ≤ n + 1 ∧ n + 1 < 9223372036854775808) (hv : v.isCell = true) : ∃ r h', callW Φ (.fn (.func zZI.k) [] [.ptr b 0]) [.agg (cGv g v)] H = some (r, h') ∧ (fun r h' => r = .bool (goes (n + 1) g) ∧ H.length ≤ h'.length ∧ ∀ j, j < H.length → h'[j]? = H[j]?) r h' := by
 obtain ⟨P, hP⟩ : ∃ P : V → Heap → Prop, P = fun r h' => r = .bool (goes (n + 1) g) ∧ H.length ≤ h'.length ∧ ∀ j, j < H.length → h'[j]? = H[j]? := ⟨_, rfl⟩
 suffices hgo : ∃ r h', callW Φ (.fn (.func zZI.k) [] [.ptr b 0]) [.agg (cGv g v)] H = some (r, h') ∧ P r h' by rw [hP] at hgo; exact hgo
 have hPi : ∀ r h', (fun r h' => r = .bool (goes (n + 1) g) ∧ H.length ≤ h'.length ∧ ∀ j, j < H.length → h'[j]? = H[j]?) r h' → P r h' := fun r h' q => by rw [hP]; exact q
 clear hP
 refine jZI zZI.Φ rfl (Nat.le_of_ble_eq_true rfl) (fun env he h0 => ?_)
 have g0 := h0 0 (by simp)
 change eget env 0 = .agg (cGv g v) at g0
 have g1 := h0 1 (by simp)
 change eget env 1 = .ptr b 0 at g1
 clear h0
 simp [zZI.c] at he
 have hall : (cGv g v).all V.isCell = true := by simp only [List.all_cons, List.all_nil, hv]; rfl
 have hcc : (V.agg (cGv g v)).cells = cGv g v := rfl
 have b0 : evBox H (cGv g v) = some (.ptr H.length 0, H ++ [.cells (cGv g v)]) := wZc _ _ hall
 have hlt := (List.getElem?_eq_some_iff.1 hb).1
 have cb : cellsAt (H ++ [.cells (cGv g v)]) (.ptr b 0) = some [.int .i64 n] := qZ4 (by rw [List.getElem?_append_left hlt]; exact hb) 0
 have cl : ∀ off, cellsAt (H ++ [.cells (cGv g v)]) (.ptr H.length off) = some ((cGv g v).drop off) := fun off => wZi _ _ _
 have wr := wrap64 (n := n + 1) hn.1 hn.2
 have fin := hPi (.bool (goes (n + 1) g)) (H ++ [.cells (cGv g v)]) ⟨rfl, by simp, fun j hj => List.getElem?_append_left hj⟩
 cases c1 : (g.obs == n + 1)
 ·have e : goes (n + 1) g = false := by simp [goes, c1]
  rw [e] at fin
  simp [zZI.c, zZI.r0, zZI.r1, g0, g1, he, hcc, b0, cb, cl, wr, evPick, c1, fin]
 ·cases c2 : (g.src == 0)
  ·have e : goes (n + 1) g = true := by simp [goes, c1, c2]
   have c3 : (g.src != 0) = true := by simp [bne, c2]
   rw [e] at fin
   simp [zZI.c, zZI.r0, zZI.r1, g0, g1, he, hcc, b0, cb, cl, wr, evPick, c1, c3, fin]
  ·have e : goes (n + 1) g = false := by simp [goes, c1, c2]
   have c3 : (g.src != 0) = false := by simp [bne, c2]
   rw [e] at fin
   simp [zZI.c, zZI.r0, zZI.r1, g0, g1, he, hcc, b0, cb, cl, wr, evPick, c1, c3, fin]
theorem Subs.get {H : Heap} {z : Nat} : ∀ {es : List (List V)} {os : List (Option Nat)} {ps : List (List V)} {i : Nat} {p : List V}, Subs H z es os ps → ps[i]? = some p → ∃ e o, es[i]? = some e ∧ os[i]? = some o ∧ El H z e o p
 | [], [], [], i, p, _, h => by simp at h
 | e :: es, o :: os, q :: ps, 0, p, ⟨h1, _, _⟩, h => by
  simp only [List.getElem?_cons_zero, Option.some.injEq] at h
  subst h
  exact ⟨e, o, rfl, rfl, h1⟩
 | e :: es, o :: os, q :: ps, i + 1, p, ⟨_, _, h3⟩, h => by
  obtain ⟨e', o', h4, h5, h6⟩ := h3.get (i := i) (by simpa using h)
  exact ⟨e', o', by simpa using h4, by simpa using h5, h6⟩
 | [], [], _ :: _, _, _, h, _ => h.elim
 | [], _ :: _, _, _, _, h, _ => h.elim
 | _ :: _, [], _, _, _, h, _ => h.elim
 | _ :: _, _ :: _, [], _, _, h, _ => h.elim
theorem VQ.atG {H : Heap} {v : V} {o : Option Nat} {os : List (Option Nat)} {gs : List Rg} {ex : List (List V)} (h : VQ H 12 1 v o os (gs.map cG) ex) {i : Nat} {g : Rg} (hg : gs[i]? = some g) :
  ∃ id ep f of, o = some id ∧ iaddrV H 12 v (.int .i64 i) = some (.eptr id ep i 0) ∧ cellsAt H (.eptr id ep i 0) = some (cGv g f) ∧ VL H 1 f of (g.o.filt.map cT) := by
 have hi := (List.getElem?_eq_some_iff.1 hg).1
 rcases h with ⟨_, h2, _⟩ | ⟨id, ep, es, rfl, rfl, hr, hs, hn⟩
 ·simp at h2; subst h2; simp at hg
 ·obtain ⟨e, of, h1, _, h3⟩ := hs.get (i := i) (p := cG g) (by simp [hg])
  obtain ⟨f, rfl, h4⟩ := h3.toG
  have hl := hs.len
  simp only [List.length_map] at hl
  have hx : (es ++ ex)[i]? = some (cGv g f) := by rw [List.getElem?_append_left (by omega)]; exact h1
  refine ⟨id, ep, f, of, rfl, ?_, by simp only [cellsAt, hr, if_true, hx, Option.map_some, List.drop_zero], h4⟩
  simp only [iaddrV, hr, Nat.zero_add, true_and, List.length_map, Int.toNat_natCast]
  rw [if_pos ⟨by omega, by omega⟩, if_pos (by simp; omega)]
def ixP (gs : List Rg) (n : Int) (H : Heap) (r : V) (H' : Heap) : Prop := H.length ≤ H'.length ∧ (∀ j, j < H.length → H'[j]? = H[j]?) ∧
 ((r = .int .i64 (-1) ∧ gs.filter (fun g => !goes (n + 1) g) = gs) ∨ ∃ (i : Nat) (g : Rg), r = .int .i64 i ∧ gs[i]? = some g ∧ goes (n + 1) g = true ∧ ∀ x ∈ gs.take i, goes (n + 1) x = false)
theorem ixG (gs : List Rg) (v : V) (o : Option Nat) (os : List (Option Nat)) (ex : List (List V)) (b : Nat) (n : Int) (H : Heap) (hz : gs.length ≤ 2 ^ 43) (hb : H[b]? = some (.cells [.int .i64 n])) (hn : -9223372036854775808 ≤ n + 1 ∧ n + 1 < 9223372036854775808) (hv : VQ H 12 1 v o os (gs.map cG) ex) : ∃ r h', callW Φ (.fn (.func zZb.k) [] []) [v, .fn (.func zZI.k) [] [.ptr b 0]] H = some (r, h') ∧ (ixP gs n H) r h' := by
 obtain ⟨P, hP⟩ : ∃ P : V → Heap → Prop, P = ixP gs n H := ⟨_, rfl⟩
 suffices hgo : ∃ r h', callW Φ (.fn (.func zZb.k) [] []) [v, .fn (.func zZI.k) [] [.ptr b 0]] H = some (r, h') ∧ P r h' by rw [hP] at hgo; exact hgo
 have hPi : ∀ r h', (ixP gs n H) r h' → P r h' := fun r h' q => by rw [hP]; exact q
 clear hP
 refine jZI zZb.Φ rfl (Nat.le_of_ble_eq_true rfl) (fun env he h0 => ?_)
 have g0 := h0 0 (by simp)
 change eget env 0 = v at g0
 have g1 := h0 1 (by simp)
 change eget env 1 = .fn (.func zZI.k) [] [.ptr b 0] at g1
 clear h0
 simp [zZb.c] at he
 have hlb := (List.getElem?_eq_some_iff.1 hb).1
 have hlen := fun H2 => hv.len H2
 simp [zZb.c, zZb.r0, zZb.r1, zZb.r8, g0, g1, he, hlen]
 refine kLoop (fun m s => ∃ i : Nat, m = gs.length - i ∧ i ≤ gs.length ∧ eget s.env 0 = v ∧ eget s.env 1 = .fn (.func zZI.k) [] [.ptr b 0] ∧ eget s.env 7 = .int .i64 gs.length ∧ eget s.env 8 = .int .i64 i ∧ s.env.length = 19 ∧ s.marks = [] ∧ H.length ≤ s.heap.length ∧ (∀ j, j < H.length → s.heap[j]? = H[j]?) ∧ ∀ x ∈ gs.take i, goes (n + 1) x = false) gs.length
  ⟨0, rfl, by omega, by simpa using g0, by simpa using g1, by simp [he], by simp [he], by simpa using he, rfl, Nat.le_refl _, fun _ _ => rfl, by simp⟩ ?_
 rintro m ⟨env, mk, S⟩ ⟨i, rfl, hi, k0, k1, k7, k8, hl, hm, hHl, hH, hw⟩
 simp only at k0 k1 k7 k8 hl hm hHl hH
 obtain rfl := hm
 have hvS := hv.mono (H' := S) fun id h => hH id (h.elim (hv.lt.1 id) (hv.lt.2 id))
 by_cases c : i < gs.length
 ·have c1 : (i : Int) < gs.length := by omega
  obtain ⟨x, hx⟩ : ∃ x, gs[i]? = some x := ⟨_, List.getElem?_eq_getElem c⟩
  obtain ⟨id, ep, f, of, _, ia, ca, hf⟩ := hvS.atG hx
  have ok : okCells S (some 12) (some (cGv x f)) = some (.agg (cGv x f), S) := rfl
  have wr := wrap64 (n := (i : Int) + 1) (by omega) (by omega)
  obtain ⟨r, h', hc, rfl, hl', hk'⟩ := wZa x f b n S (by rw [hH b hlb]; exact hb) hn hf.cell.1
  have hH' : ∀ j, j < H.length → h'[j]? = H[j]? := fun j hj => by rw [hk' j (by omega), hH j hj]
  cases cx : goes (n + 1) x
  ·rw [cx] at hc
   simp [zZb.b7, zZb.r2, zZb.r3, zZb.r4, zZb.r5, zZb.r6, k0, k1, k7, k8, hl, c1, ia, ca, ok, hc, wr]
   refine ⟨gs.length - (i + 1), by omega, i + 1, rfl, by omega, by simp, by omega, hH', ?_⟩
   intro y hy
   rw [List.take_add_one, hx] at hy
   rcases List.mem_append.1 hy with hy | hy
   ·exact hw y hy
   ·simp at hy
    subst hy; exact cx
  ·rw [cx] at hc
   have := hPi (.int .i64 i) h' ⟨by omega, hH', .inr ⟨i, x, rfl, hx, cx, hw⟩⟩
   simp [zZb.c, zZb.r0, zZb.r1, zZb.r8, zZb.b7, zZb.r2, zZb.r3, zZb.r4, zZb.r5, zZb.r6, k0, k1, k7, k8, hl, c1, ia, ca, ok, hc, this]
 ·have c1 : ¬ (i : Int) < gs.length := by omega
  rw [List.take_of_length_le (by omega)] at hw
  have := hPi (.int .i64 (-1)) S ⟨hHl, hH, .inl ⟨rfl, List.filter_eq_self.2 fun x hx => by rw [hw x hx]; rfl⟩⟩
  simp [zZb.c, zZb.r0, zZb.r1, zZb.r8, zZb.b7, zZb.r2, zZb.r3, zZb.r4, zZb.r5, zZb.r6, k0, k1, k7, k8, hl, c1, this]
open Go Go.Ev
theorem Subs.td {H : Heap} {z : Nat} : ∀ {es : List (List V)} {os : List (Option Nat)} {ps : List (List V)} (n : Nat), Subs H z es os ps → Subs H z (es.take n) (os.take n) (ps.take n) ∧ Subs H z (es.drop n) (os.drop n) (ps.drop n) ∧ ∀ o ∈ os.take n, ∀ o' ∈ os.drop n, Apart o o'
 | es, os, ps, 0, h => ⟨by simp [Subs], h, by simp⟩
 | [], [], [], n + 1, h => ⟨trivial, trivial, by simp⟩
 | e :: es, o :: os, p :: ps, n + 1, ⟨h1, h2, h3⟩ => by
  obtain ⟨a, b, c⟩ := h3.td n
  refine ⟨⟨h1, fun o' ho' => h2 o' (List.mem_of_mem_take ho'), a⟩, b, fun o1 ho1 o' ho' => ?_⟩
  simp only [List.take_succ_cons, List.mem_cons] at ho1
  rcases ho1 with rfl | ho1
  ·exact h2 o' (List.mem_of_mem_drop ho')
  ·exact c o1 ho1 o' ho'
 | [], [], _ :: _, _ + 1, h => h.elim
 | [], _ :: _, _, _ + 1, h => h.elim
 | _ :: _, [], _, _ + 1, h => h.elim
 | _ :: _, _ :: _, [], _ + 1, h => h.elim
def delP (gs : List Rg) (n : Int) (o : Option Nat) (os : List (Option Nat)) (H : Heap) (r : V) (H' : Heap) : Prop := ∃ os' ex', VQ H' 12 1 r o os' ((gs.filter fun g => !goes (n + 1) g).map cG) ex' ∧ (∀ id, some id ∈ os' → some id ∈ os) ∧ H.length ≤ H'.length ∧ ∀ j, j < H.length → o ≠ some j → H'[j]? = H[j]?
structure DI (H S : Heap) (gs : List Rg) (n : Int) (os : List (Option Nat)) (id ep i j : Nat) (K G R ex : List (List V)) (oK oR : List (Option Nat)) : Prop where
 row : S[id]? = some (.row 12 (K ++ G ++ R ++ ex) ep true)
 sK : Subs S 1 K oK (((gs.take j).filter fun g => !goes (n + 1) g).map cG)
 sR : Subs S 1 R oR ((gs.drop j).map cG)
 lK : K.length = i
 lG : i + G.length = j
 gG : 0 < G.length
 tw : ∀ x ∈ G, x.length = 12
 ap : ∀ o ∈ oK, ∀ o' ∈ oR, Apart o o'
 nK : some id ∉ oK
 nR : some id ∉ oR
 oKs : ∀ k, some k ∈ oK → some k ∈ os
 oRs : ∀ k, some k ∈ oR → some k ∈ os
 len : H.length ≤ S.length
 keep : ∀ k, k < H.length → k ≠ id → S[k]? = H[k]?
def DX (H : Heap) (gs : List Rg) (n : Int) (os : List (Option Nat)) (ex : List (List V)) (id ep b : Nat) (m : Nat) (s : St) : Prop := s.marks = [] ∧ ∃ (i j : Nat) (K G R : List (List V)) (oK oR : List (Option Nat)), m = gs.length - j ∧ j ≤ gs.length ∧
 (eget s.env 0 = .sl id ep 0 gs.length ∧ eget s.env 1 = .fn (.func zZI.k) [] [.ptr b 0] ∧ eget s.env 5 = .int .i64 i ∧ eget s.env 6 = .int .i64 j ∧ s.env.length = 42) ∧ DI H s.heap gs n os id ep i j K G R ex oK oR
theorem DI.mono {H S S' : Heap} {gs : List Rg} {n : Int} {os : List (Option Nat)} {id ep i j : Nat} {K G R ex : List (List V)} {oK oR : List (Option Nat)} (h : DI H S gs n os id ep i j K G R ex oK oR) (hl : S.length ≤ S'.length) (hk : ∀ k, k < S.length → S'[k]? = S[k]?) : DI H S' gs n os id ep i j K G R ex oK oR :=
 ⟨by rw [hk _ (List.getElem?_eq_some_iff.1 h.row).1]; exact h.row, h.sK.mono fun k e => hk k (h.sK.lt e), h.sR.mono fun k e => hk k (h.sR.lt e), h.lK, h.lG, h.gG, h.tw, h.ap, h.nK, h.nR, h.oKs, h.oRs, Nat.le_trans h.len hl, fun k a b => by rw [hk k (by have := h.len; omega)]; exact h.keep k a b⟩
theorem delG (gs : List Rg) (v : V) (o : Option Nat) (os : List (Option Nat)) (ex : List (List V)) (b : Nat) (n : Int) (H : Heap) (hz : gs.length ≤ 2 ^ 43) (hb : H[b]? = some (.cells [.int .i64 n])) (hbo : o ≠ some b) (hn : -9223372036854775808 ≤ n + 1 ∧ n + 1 < 9223372036854775808) (hv : VQ H 12 1 v o os (gs.map cG) ex) : ∃ r h', callW Φ (.fn (.func zZa.k) [] []) [v, .fn (.func zZI.k) [] [.ptr b 0]] H = some (r, h') ∧ (delP gs n o os H) r h' := by
 obtain ⟨P, hP⟩ : ∃ P : V → Heap → Prop, P = delP gs n o os H := ⟨_, rfl⟩
 suffices hgo : ∃ r h', callW Φ (.fn (.func zZa.k) [] []) [v, .fn (.func zZI.k) [] [.ptr b 0]] H = some (r, h') ∧ P r h' by rw [hP] at hgo; exact hgo
 have hPi : ∀ r h', (delP gs n o os H) r h' → P r h' := fun r h' q => by rw [hP]; exact q
 clear hP
 refine jZI zZa.Φ rfl (Nat.le_of_ble_eq_true rfl) (fun env he h0 => ?_)
 have g0 := h0 0 (by simp)
 change eget env 0 = v at g0
 have g1 := h0 1 (by simp)
 change eget env 1 = .fn (.func zZI.k) [] [.ptr b 0] at g1
 clear h0
 simp [zZa.c] at he
 have hlb := (List.getElem?_eq_some_iff.1 hb).1
 obtain ⟨r, H1, hc, hl1, hk1, hr⟩ := ixG gs v o os ex b n H hz hb hn hv
 have hv1 := hv.mono (H' := H1) fun id h => hk1 id (h.elim (hv.lt.1 id) (hv.lt.2 id))
 rcases hr with ⟨rfl, hall⟩ | ⟨i0, g0', rfl, hg0, hgo, htk⟩
 ·have := hPi v H1 ⟨os, ex, by rw [hall]; exact hv1, fun _ h => h, hl1, fun j hj _ => hk1 j hj⟩
  simp [zZa.c, zZa.r0, zZa.r1, zZa.r2, zZa.r3, zZa.r4, zZa.r12, zZa.r13, g0, g1, he, hc, this]
 have hi0 := (List.getElem?_eq_some_iff.1 hg0).1
 rcases hv1 with ⟨_, h2, _⟩ | ⟨id, ep, es, rfl, rfl, hrow, hs, hno⟩
 ·simp at h2; subst h2; simp at hg0
 have hles := hs.len
 simp only [List.length_map] at hles
 obtain ⟨sA, sB, sC⟩ := hs.td i0
 obtain ⟨sD, sE, sF⟩ := hs.td (i0 + 1)
 obtain ⟨e0, o0', he0, ho0, hE0⟩ := hs.get (i := i0) (p := cG g0') (by simp [hg0])
 have wr0 := wrap64 (n := (i0 : Int) + 1) (by omega) (by omega)
 have ne1 : ((i0 : Int) == -1) = false := by simp
 have hes : es = es.take i0 ++ [e0] ++ es.drop (i0 + 1) := by
  have hi : i0 < es.length := by omega
  have : es[i0] = e0 := by
   have := List.getElem?_eq_getElem hi
   rw [this] at he0; exact Option.some.inj he0
  rw [List.append_assoc, List.singleton_append, ← this, ← List.drop_eq_getElem_cons hi, List.take_append_drop]
 have hft : (gs.take (i0 + 1)).filter (fun g => !goes (n + 1) g) = gs.take i0 := by
  rw [List.take_add_one, hg0, List.filter_append]
  have h1 : (gs.take i0).filter (fun g => !goes (n + 1) g) = gs.take i0 := List.filter_eq_self.2 fun x hx => by rw [htk x hx]; rfl
  rw [h1]; simp [hgo]
 have hDI : DI H H1 gs n os id ep i0 (i0 + 1) (es.take i0) [e0] (es.drop (i0 + 1)) ex (os.take i0) (os.drop (i0 + 1)) := by
  refine ⟨by rw [← hes]; exact hrow, ?_, ?_, by rw [List.length_take]; omega, rfl, by simp, fun x hx => by rw [List.mem_singleton.1 hx, hE0.len]; rfl, fun o ho o' ho' => ?_, fun h => hno (List.mem_of_mem_take h), fun h => hno (List.mem_of_mem_drop h), fun k h => List.mem_of_mem_take h, fun k h => List.mem_of_mem_drop h, hl1, fun k hk _ => hk1 k hk⟩
  ·rw [hft, List.map_take]; exact sA
  ·rw [List.map_drop]; exact sE
  ·refine sF o ?_ o' ho'
   rw [List.take_add_one]; exact List.mem_append_left _ ho
 rw [List.length_map] at *
 simp [zZa.c, zZa.r0, zZa.r1, zZa.r2, zZa.r4, g0, g1, he, hc, ne1, wr0]
 refine kLoop (DX H gs n os ex id ep b) (gs.length - (i0 + 1)) ⟨rfl, i0, i0 + 1, _, _, _, _, _, rfl, by omega, ⟨by simpa using g0, by simpa using g1, by simp [he], by simp [he], by simpa using he⟩, hDI⟩ ?_
 clear hDI hft hes he0 ho0 hE0 sA sB sC sD sE sF hs hrow wr0 ne1 g0 g1 he env hles hgo htk hg0 hi0 hc hv
 rintro m ⟨env, mk, S⟩ ⟨hm, i, j, K, G, R, oK, oR, rfl, hj, ⟨k0, k1, k5, k6, hl⟩, hD⟩
 simp only at hm k0 k1 k5 k6 hl hD
 obtain rfl := hm
 have hbid : b ≠ id := fun e => hbo (by rw [e])
 have hSb : S[b]? = some (.cells [.int .i64 n]) := by rw [hD.keep b hlb hbid]; exact hb
 have hK := hD.lK
 have hG := hD.lG
 have hg := hD.gG
 have lK := hD.sK.len
 have lR := hD.sR.len
 simp only [List.length_map, List.length_drop] at lR
 have hll : ∀ H2, evLen H2 .l (.sl id ep 0 gs.length) = some (.int .i64 gs.length, H2) := fun H2 => by simp [evLen, lenV, vZm]
 by_cases c : j < gs.length
 ·have c1 : (j : Int) < gs.length := by omega
  obtain ⟨x, hx⟩ : ∃ x, gs[j]? = some x := ⟨_, List.getElem?_eq_getElem c⟩
  have hdr : gs.drop j = x :: gs.drop (j + 1) := by
   rw [List.drop_eq_getElem_cons c, ← Option.some.inj ((List.getElem?_eq_getElem c).symm.trans hx)]
  have hsR := hD.sR
  rw [hdr, List.map_cons] at hsR
  match R, oR, hsR, hD with
  | e :: R', of :: oR', ⟨hE, hA, hsR'⟩, hD =>
   obtain ⟨f, rfl, hf⟩ := hE.toG
   have hrow := hD.row
   have hix : (K ++ G ++ (cGv x f :: R') ++ ex)[j]? = some (cGv x f) := by
    rw [List.append_assoc, List.getElem?_append_right (by simp; omega)]
    simp only [List.length_append]
    rw [show j - (K.length + G.length) = 0 by omega]; rfl
   have ia : iaddrV S 12 (.sl id ep 0 gs.length) (.int .i64 j) = some (.eptr id ep j 0) := by
    simp only [iaddrV, hrow, Nat.zero_add, true_and, Int.toNat_natCast]
    rw [if_pos ⟨by omega, by omega⟩, if_pos (List.getElem?_eq_some_iff.1 hix).1]
   have ca : cellsAt S (.eptr id ep j 0) = some (cGv x f) := by simp only [cellsAt, hrow, if_true, hix, Option.map_some, List.drop_zero]
   have hall : (cGv x f).all V.isCell = true := by simp only [List.all_cons, List.all_nil, hf.cell.1]; rfl
   have ok : ∀ H : Heap, okCells H (some 12) (some (cGv x f)) = some (.agg (cGv x f), H) := fun _ => rfl
   have sx : evStoreV (S ++ [.cells zG]) 12 (.ptr S.length 0) (.agg (cGv x f)) = some (V.non, S ++ [.cells (cGv x f)]) := vZX rfl rfl hall
   obtain ⟨S1, hS1⟩ : ∃ S1, S1 = S ++ [.cells (cGv x f)] := ⟨_, rfl⟩
   rw [← hS1] at sx
   have p1 : S1[S.length]? = some (.cells (cGv x f)) := by rw [hS1]; simp
   have l1 : S1.length = S.length + 1 := by rw [hS1]; simp
   have n1 : ∀ k, k < S.length → S1[k]? = S[k]? := fun k hk => by rw [hS1, List.getElem?_append_left hk]
   have hblt := (List.getElem?_eq_some_iff.1 hSb).1
   obtain ⟨r, S2, hc, rfl, l2, n2⟩ := wZa x f b n S1 (by rw [n1 b hblt]; exact hSb) hn hf.cell.1
   have p2 : S2[S.length]? = some (.cells (cGv x f)) := by rw [n2 _ (by omega)]; exact p1
   have c1' := qZ4 p1 0
   have c2' := qZ4 p2 0
   have hD2 := hD.mono (S' := S2) (by omega) fun k hk => by rw [n2 k (by omega), n1 k hk]
   have wi := wrap64 (n := (i : Int) + 1) (by omega) (by omega)
   have wj := wrap64 (n := (j : Int) + 1) (by omega) (by omega)
   cases cx : goes (n + 1) x
   ·rw [cx] at hc
    match G, hg, hD2 with
    | y :: G', _, hD2 =>
     have hrow2 := hD2.row
     have hiy : (K ++ (y :: G') ++ (cGv x f :: R') ++ ex)[i]? = some y := by
      rw [List.append_assoc, List.append_assoc, List.getElem?_append_right (by omega), hK, Nat.sub_self]; rfl
     have ib : iaddrV S2 12 (.sl id ep 0 gs.length) (.int .i64 i) = some (.eptr id ep i 0) := by
      simp only [List.length_cons] at hG
      simp only [iaddrV, hrow2, Nat.zero_add, true_and, Int.toNat_natCast]
      rw [if_pos ⟨by omega, by omega⟩, if_pos (List.getElem?_eq_some_iff.1 hiy).1]
     have hset : (K ++ (y :: G') ++ (cGv x f :: R') ++ ex).set i (cGv x f) = (K ++ [cGv x f]) ++ (G' ++ [cGv x f]) ++ R' ++ ex := by
      rw [List.append_assoc, List.append_assoc, List.set_append_right _ _ (by omega), hK, Nat.sub_self]
      simp
     have hy : y.length = 12 := hD2.tw y (by simp)
     have st : evStoreV S2 12 (.eptr id ep i 0) (.agg (cGv x f)) = some (V.non, S2.set id (.row 12 ((K ++ [cGv x f]) ++ (G' ++ [cGv x f]) ++ R' ++ ex) ep true)) := by
      have hsr : setRange y 0 (cGv x f) = some (cGv x f) := by
       unfold setRange
       rw [if_pos (by simp [hy]), Nat.zero_add, List.drop_eq_nil_of_le (by simp [hy])]
       simp
      have hcl : (V.agg (cGv x f)).cells = cGv x f := rfl
      have hln : (cGv x f).length = 12 := rfl
      simp only [evStoreV, hcl, hln, hall, and_self, if_true, evStore, hrow2, hiy, hsr, qZ6, hset]
     obtain ⟨S3, hS3⟩ : ∃ S3, S3 = S2.set id (.row 12 ((K ++ [cGv x f]) ++ (G' ++ [cGv x f]) ++ R' ++ ex) ep true) := ⟨_, rfl⟩
     rw [← hS3] at st
     have hid := (List.getElem?_eq_some_iff.1 hrow2).1
     have off : ∀ k, k ≠ id → S3[k]? = S2[k]? := fun k hk => by rw [hS3, List.getElem?_set_ne (Ne.symm hk)]
     have hof : of ≠ some id := fun e => hD2.nR (by rw [e]; simp)
     have hfl : (gs.take (j + 1)).filter (fun g => !goes (n + 1) g) = (gs.take j).filter (fun g => !goes (n + 1) g) ++ [x] := by
      rw [List.take_add_one, hx, List.filter_append]; simp [cx]
     have hsR2 := hD2.sR
     rw [hdr, List.map_cons] at hsR2
     simp [zZa.c, zZa.r0, zZa.r1, zZa.r2, zZa.r3, zZa.r4, zZa.r12, zZa.r13, zZa.b11, zZa.r5, zZa.r6, zZa.r7, zZa.r8, zZa.r9, zZa.r10, k0, k1, k5, k6, hl, hll, c1, ia, ca, ok, sx, c1', hc, c2', ib, st, wi, wj]
     refine ⟨gs.length - (j + 1), by omega, rfl, i + 1, j + 1, K ++ [cGv x f], G' ++ [cGv x f], R', oK ++ [of], oR', rfl, by omega, ⟨by simp [hl, k0], by simp [hl, k1], by simp [hl], by simp [hl], by simp [hl]⟩, ?_⟩
     refine ⟨by show S3[id]? = _; rw [hS3, List.getElem?_set_self hid], ?_, ?_, by simp [hK], by simp only [List.length_cons, List.length_append, List.length_nil] at *; omega, by simp, fun z hz => ?_, ?_, ?_, fun h => hD2.nR (by simp [h]), ?_, fun k h => hD2.oRs k (by simp [h]), by show H.length ≤ S3.length; rw [hS3]; simp; exact hD2.len, fun k hk hne => by show S3[k]? = _; rw [off k hne]; exact hD2.keep k hk hne⟩
     ·rw [hfl, List.map_append]
      refine Subs.app (Subs.one (hsR2.1.mono fun k h => off k fun e => hof (by rw [h, e]))) (hD2.sK.mono fun k h => off k fun e => hD2.nK (by rw [← e]; exact h)) fun o ho o' ho' => by
       rw [List.mem_singleton.1 ho']; exact hD2.ap o ho of (by simp)
     ·exact hsR2.2.2.mono fun k h => off k fun e => hD2.nR (by rw [← e]; simp [h])
     ·rcases List.mem_append.1 hz with hz | hz
      ·exact hD2.tw z (by simp [hz])
      ·rw [List.mem_singleton.1 hz]; rfl
     ·intro o ho o' ho'
      rcases List.mem_append.1 ho with ho | ho
      ·exact hD2.ap o ho o' (by simp [ho'])
      ·rw [List.mem_singleton.1 ho]; exact hsR2.2.1 o' ho'
     ·intro h
      rcases List.mem_append.1 h with h | h
      ·exact hD2.nK h
      ·exact hof (List.mem_singleton.1 h).symm
     ·intro k h
      rcases List.mem_append.1 h with h | h
      ·exact hD2.oKs k h
      ·exact hD2.oRs k (by rw [List.mem_singleton.1 h]; simp)
   ·rw [cx] at hc
    have hfl : (gs.take (j + 1)).filter (fun g => !goes (n + 1) g) = (gs.take j).filter (fun g => !goes (n + 1) g) := by
     rw [List.take_add_one, hx, List.filter_append]; simp [cx]
    have hsR2 := hD2.sR
    rw [hdr, List.map_cons] at hsR2
    simp [zZa.b11, zZa.r5, zZa.r6, zZa.r7, zZa.r8, zZa.r9, zZa.r10, k0, k1, k5, k6, hl, hll, c1, ia, ca, ok, sx, c1', hc, wj]
    refine ⟨gs.length - (j + 1), by omega, rfl, i, j + 1, K, G ++ [cGv x f], R', oK, oR', rfl, by omega, ⟨by simp [hl, k0], by simp [hl, k1], by simp [hl, k5], by simp [hl], by simp [hl]⟩, ?_⟩
    refine ⟨by have := hD2.row; simpa using this, by rw [hfl]; exact hD2.sK, hsR2.2.2, hK, by simp only [List.length_append, List.length_cons, List.length_nil]; omega, by simp, fun z hz => ?_, fun o ho o' ho' => hD2.ap o ho o' (by simp [ho']), hD2.nK, fun h => hD2.nR (by simp [h]), hD2.oKs, fun k h => hD2.oRs k (by simp [h]), hD2.len, hD2.keep⟩
    rcases List.mem_append.1 hz with hz | hz
    ·exact hD2.tw z hz
    ·rw [List.mem_singleton.1 hz]; rfl
  | [], [], h, _ => exact h.elim
  | [], _ :: _, h, _ => exact h.elim
  | _ :: _, [], h, _ => exact h.elim
 ·have c1 : ¬ (j : Int) < gs.length := by omega
  have hjl : j = gs.length := by omega
  have hR : R = [] := List.eq_nil_of_length_eq_zero (by omega)
  subst hR
  have hrow := hD.row
  rw [List.append_nil] at hrow
  have hsK := hD.sK
  rw [hjl, List.take_length] at hsK
  have sl1 : sliceV .l S 12 (.sl id ep 0 gs.length) (some (.int .i64 i)) none = some (.sl id ep i (gs.length - i)) := by
   have e0 : (i : Int) ≤ max (gs.length : Int) 0 := by omega
   have e1 : i ≤ gs.length := by omega
   simp [sliceV, sliceL, hrow, lohi, bound, e0, e1]
  have zl : zG.length = 12 := rfl
  have cl : evClr S 12 zG (.sl id ep i (gs.length - i)) = some (V.non, S.set id (.row 12 (K ++ (List.replicate (gs.length - i) zG ++ ex)) ep true)) := by
   simp only [evClr, hrow, zl, true_and, and_true]
   rw [if_neg (by omega), if_pos (by simp; omega)]
   have t1 : (K ++ G ++ ex).take i = K := by rw [← hK, List.append_assoc, List.take_left]
   have t2 : (K ++ G ++ ex).drop (i + (gs.length - i)) = ex := by
    rw [show i + (gs.length - i) = (K ++ G).length by simp; omega, List.drop_left]
   simp only [qZ6, t1, t2]
   rw [List.append_assoc]
  obtain ⟨S3, hS3⟩ : ∃ S3, S3 = S.set id (.row 12 (K ++ (List.replicate (gs.length - i) zG ++ ex)) ep true) := ⟨_, rfl⟩
  rw [← hS3] at cl
  have hid := (List.getElem?_eq_some_iff.1 hrow).1
  have row3 : S3[id]? = some (.row 12 (K ++ (List.replicate (gs.length - i) zG ++ ex)) ep true) := by rw [hS3, List.getElem?_set_self hid]
  have sl2 : sliceV .l S3 12 (.sl id ep 0 gs.length) none (some (.int .i64 i)) = some (.sl id ep 0 i) := by
   have e0 : (i : Int) ≤ max (gs.length : Int) 0 := by omega
   have e1 : i ≤ gs.length := by omega
   have e2 : i ≤ max gs.length (K.length + (gs.length - i + ex.length)) := by omega
   simp [sliceV, sliceL, row3, lohi, bound, e0, e1, e2]
  have off : ∀ k, k ≠ id → S3[k]? = S[k]? := fun k hk => by rw [hS3, List.getElem?_set_ne (Ne.symm hk)]
  have fin := hPi (.sl id ep 0 i) S3 ⟨oK, List.replicate (gs.length - i) zG ++ ex, .inr ⟨id, ep, K, rfl, by rw [← hsK.len.1, hK], row3, hsK.mono fun k h => off k fun e => hD.nK (by rw [← e]; exact h), hD.nK⟩, hD.oKs, by rw [hS3]; simp; exact hD.len, fun k hk hne => by rw [off k (fun e => hne (by rw [e]))]; exact hD.keep k hk fun e => hne (by rw [e])⟩
  simp [zZa.c, zZa.r0, zZa.r1, zZa.r2, zZa.r3, zZa.r4, zZa.r12, zZa.r13, zZa.b11, zZa.r5, zZa.r6, zZa.r7, zZa.r8, zZa.r9, zZa.r10, k0, k1, k5, k6, hl, hll, c1, sl1, cl, sl2, fin]
end Go.Proofs.Ob
