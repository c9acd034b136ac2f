/- A watch's own copy, in the heap. No conditions. -/
import Derived.Test.YtphigbmaimineabGreatObK
set_option maxHeartbeats 16000000
set_option maxRecDepth 100000
set_option linter.unusedVariables false
set_option linter.unusedSimpArgs false
set_option linter.unusedSectionVars false
namespace Go.Proofs.Ob
open Go Go.Ev
structure Own (H : Heap) (lo : Nat) (v0 v2 : V) (o0 o2 : Option Nat) (os0 os2 : List (Option Nat)) (rs ex qs : List (List V)) : Prop where
 r : VQ H 12 1 v0 o0 os0 rs ex
 q : VQ H 1 11 v2 o2 os2 qs []
 lo0 : ∀ id, (o0 = some id ∨ some id ∈ os0) → lo ≤ id
 lo2 : ∀ id, (o2 = some id ∨ some id ∈ os2) → lo ≤ id
 ap : ∀ id, (o0 = some id ∨ some id ∈ os0) → ¬ (o2 = some id ∨ some id ∈ os2)
theorem bsG (H : Heap) (g : Rg) (v : V) (hv : v.isCell = true) : evBslice H zG 1 12 [(0, .agg (cGv g v))] = some (.sl H.length 0 0 1, H ++ [.row 12 [cGv g v] 0 true]) := by
 have hcc : (V.agg (cGv g v)).cells = cGv g v := rfl
 have hall : (cGv g v).all V.isCell = true := by simp only [List.all_cons, List.all_nil, hv]; rfl
 simp only [evBslice, List.map_cons, List.map_nil, placeParts, hcc, hall]
 simp [setRange, chunks, vZn]
theorem bsR (H : Heap) (q : Rec) : evBslice H zR 1 11 [(0, .agg (cR q))] = some (.sl H.length 0 0 1, H ++ [.row 11 [cR q] 0 true]) := by
 have hcc : (V.agg (cR q)).cells = cR q := rfl
 have hall : (cR q).all V.isCell = true := rfl
 have hlen : (cR q).length = 11 := rfl
 have htk : (cR q).take 11 = cR q := rfl
 simp only [evBslice, List.map_cons, List.map_nil, placeParts, hcc, hall]
 simp [setRange, chunks, vZn, hlen, htk]
theorem bsV (H : Heap) (v : V) (hv : v.isCell = true ∧ v.cells = [v]) : evBslice H [.nils] 1 1 [(0, v)] = some (.sl H.length 0 0 1, H ++ [.row 1 [[v]] 0 true]) := by
 simp only [evBslice, List.map_cons, List.map_nil, placeParts, hv.2, List.all_cons, List.all_nil, hv.1]
 simp [setRange, chunks, vZn]
theorem plainRec (l : List Rec) : plainR 11 (l.map cR) := plainR.map (enc := cR) (fun _ => rfl) (fun _ => rfl) (fun _ => rfl) l
theorem VL.addR {H : Heap} {v : V} {o : Option Nat} {l : List Rec} (hs : VL H 11 v o (l.map cR)) (c : Rec) (hr : l.length + 1 ≤ 2 ^ 39) :
  ∃ v' o' H2, evApp (H ++ [.row 11 [cR c] 0 true]) 11 160 v (.sl H.length 0 0 1) = some (v', H2) ∧ VL H2 11 v' o' ((l ++ [c]).map cR) ∧ H.length ≤ H2.length ∧ (∀ j, j < H.length → o ≠ some j → H2[j]? = H[j]?) ∧ ∀ id, o' = some id → o = some id ∨ H.length ≤ id := by
 obtain ⟨v', o', H2, h1, h2, h3, h4, h5⟩ := (hs.push [.row 11 [cR c] 0 true]).app (by_ := 160) (es := [cR c]) (plainRec [c]) (q := .sl H.length 0 0 1) (by simp [elemsOf]) (by simp [roomB]; omega)
 simp only [List.length_append, List.length_cons, List.length_nil] at h3 h4 h5
 refine ⟨v', o', H2, h1, by simpa using h2, by omega, fun j hj hne => ?_, fun id hid => (h5 id hid).imp (fun h => h) fun h => by omega⟩
 rw [h4 j (by omega) hne, List.getElem?_append_left hj]
theorem El.G {H : Heap} {g : Rg} {v : V} {o : Option Nat} (h : VL H 1 v o (g.o.filt.map cT)) : El H 1 (cGv g v) o (cG g) :=
 ⟨[.int .i64 g.id, .int .i64 g.obs, .int .i64 g.node, .bool g.o.kids, .bool g.o.sub, .int .u8 g.o.at_, .int .u8 g.o.da, .int .u8 g.o.oa, .int .u8 g.o.od], [.bool g.o.fs, .int .i64 g.src], v, _, rfl, rfl, rfl, rfl, h⟩
theorem El.Q {H : Heap} {q : List Rec} {v : V} {o : Option Nat} (h : VL H 11 v o (q.map cR)) : El H 11 [v] o (cQ q) := ⟨[], [], v, _, rfl, rfl, rfl, rfl, h⟩
def OI1 (H : Heap) (w : Wch) (m : Nat) (s : St) : Prop := s.marks = [] ∧ ∃ (i : Nat) (v : V) (o : Option Nat) (os : List (Option Nat)), m = w.regs.length - i ∧ i ≤ w.regs.length ∧
 (eget s.env 1 = .ptr H.length 0 ∧ eget s.env 2 = .ptr (H.length + 1) 0 ∧ eget s.env 3 = .ptr (H.length + 2) 0 ∧ eget s.env 16 = .arr (w.regs.map cG) ∧ eget s.env 17 = .int .i64 w.regs.length ∧ eget s.env 18 = .int .i64 i ∧ s.env.length = 62) ∧
 (∀ j, j < H.length → s.heap[j]? = H[j]?) ∧ s.heap[H.length]? = some (.cells (cW w)) ∧ s.heap[H.length + 1]? = some (.cells [.nils, .int .i64 0, .nils]) ∧ s.heap[H.length + 2]? = some (.cells [v, .int .i64 (max w.next 1), .nils]) ∧
 VQ s.heap 12 1 v o os ((w.regs.take i).map cG) [] ∧ ∀ id, (o = some id ∨ some id ∈ os) → H.length + 3 ≤ id
def OI2 (H : Heap) (w : Wch) (m : Nat) (s : St) : Prop := s.marks = [] ∧ ∃ (i : Nat) (v0 v2 : V) (o0 o2 : Option Nat) (os0 os2 : List (Option Nat)), m = w.qs.length - i ∧ i ≤ w.qs.length ∧
 (eget s.env 1 = .ptr H.length 0 ∧ eget s.env 2 = .ptr (H.length + 1) 0 ∧ eget s.env 3 = .ptr (H.length + 2) 0 ∧ eget s.env 36 = .arr (w.qs.map cQ) ∧ eget s.env 37 = .int .i64 w.qs.length ∧ eget s.env 38 = .int .i64 i ∧ s.env.length = 62) ∧
 (∀ j, j < H.length → s.heap[j]? = H[j]?) ∧ s.heap[H.length]? = some (.cells (cW w)) ∧ s.heap[H.length + 1]? = some (.cells [.nils, .int .i64 0, .nils]) ∧ s.heap[H.length + 2]? = some (.cells [v0, .int .i64 (max w.next 1), v2]) ∧
 Own s.heap (H.length + 3) v0 v2 o0 o2 os0 os2 (w.regs.map cG) [] ((w.qs.take i).map cQ)
def ownP (H : Heap) (w : Wch) (r : V) (H' : Heap) : Prop := ∃ v0 v2 o0 o2 os0 os2, r = .agg [v0, .int .i64 (max w.next 1), v2] ∧ (∀ j, j < H.length → H'[j]? = H[j]?) ∧ Own H' H.length v0 v2 o0 o2 os0 os2 (w.regs.map cG) [] (w.qs.map cQ)
def OI3 (H S0 : Heap) (w : Wch) (i : Nat) (q : List Rec) (m : Nat) (s : St) : Prop := s.marks = [] ∧ ∃ (j : Nat) (v8 : V) (o8 : Option Nat), m = q.length - j ∧ j ≤ q.length ∧
  (eget s.env 1 = .ptr H.length 0 ∧ eget s.env 2 = .ptr (H.length + 1) 0 ∧ eget s.env 3 = .ptr (H.length + 2) 0 ∧ eget s.env 36 = .arr (w.qs.map cQ) ∧ eget s.env 37 = .int .i64 w.qs.length ∧ eget s.env 38 = .int .i64 i ∧
   eget s.env 42 = .arr (q.map cR) ∧ eget s.env 43 = .int .i64 q.length ∧ eget s.env 44 = .int .i64 j ∧ eget s.env 8 = v8 ∧ s.env.length = 62) ∧
  (∀ k, k < S0.length → s.heap[k]? = S0[k]?) ∧ S0.length ≤ s.heap.length ∧ VL s.heap 11 v8 o8 ((q.take j).map cR) ∧ ∀ id, o8 = some id → S0.length ≤ id
theorem jZ0 (w : Wch) (z : SzW w) (z4 : ∀ q ∈ w.qs, q.length ≤ 4096) (z5 : w.regs.length ≤ 1024) (z6 : w.qs.length ≤ 256) (H : Heap) : ∃ r h', callW Φ (.fn (.func zZq.k) [] []) [.agg (cW w)] H = some (r, h') ∧ (ownP H w) r h' := by
 obtain ⟨P, hP⟩ : ∃ P : V → Heap → Prop, P = ownP H w := ⟨_, rfl⟩
 suffices hgo : ∃ r h', callW Φ (.fn (.func zZq.k) [] []) [.agg (cW w)] H = some (r, h') ∧ P r h' by rw [hP] at hgo; exact hgo
 have hPi : ∀ r h', (ownP H w) r h' → P r h' := fun r h' q => by rw [hP]; exact q
 clear hP
 refine jZI zZq.Φ rfl (Nat.le_of_ble_eq_true rfl) (fun env he h0 => ?_)
 have g0 := h0 0 (by simp)
 change eget env 0 = .agg (cW w) at g0
 clear h0
 simp [zZq.c] at he
 obtain ⟨zl, zq, zg, zr⟩ := z
 have b0 : evBox H (cW w) = some (.ptr H.length 0, H ++ [.cells (cW w)]) := wZc _ _ rfl
 have hcc : (V.agg (cW w)).cells = cW w := rfl
 have c01 : cellsAt (H ++ [.cells (cW w), .cells [.nils, .int .i64 0, .nils]]) (.ptr H.length 1) = some ((cW w).drop 1) := qZ4 (by simp) 1
 have bd : ∀ (H : Heap) (n : Int), evBuild H [.nils, .int .i64 0, .nils] [(1, 1, .int .i64 n)] = some (.agg [.nils, .int .i64 n, .nils], H) := fun _ _ => rfl
 have st : ∀ n : Int, evStoreV (H ++ [.cells (cW w), .cells [.nils, .int .i64 0, .nils], .cells [.nils, .int .i64 0, .nils]]) 3 (.ptr (H.length + 2) 0) (.agg [.nils, .int .i64 n, .nils]) = some (V.non, H ++ [.cells (cW w), .cells [.nils, .int .i64 0, .nils], .cells [.nils, .int .i64 n, .nils]]) := fun n => by
  rw [vZO (n := 3) (A := [.nils, .int .i64 n, .nils]) (B := [.nils, .int .i64 0, .nils]) (by simp) rfl rfl rfl]
  simp [List.set_append]
 have mxE : ∀ H : Heap, okV H (foldInt (fun x y => if x < y then y else x) [.int .i64 w.next, .int .i64 1]) = some (.int .i64 (max w.next 1), H) := fun H => by
  simp only [foldInt, foldInt.go]
  have : (if w.next < 1 then (1 : Int) else w.next) = max w.next 1 := by split <;> omega
  simp [okV, this]
 have c02 : ∀ n : Int, cellsAt (H ++ [.cells (cW w), .cells [.nils, .int .i64 0, .nils], .cells [.nils, .int .i64 n, .nils]]) (.ptr H.length 0) = some ((cW w).drop 0) := fun n => qZ4 (by simp) 0
 simp [zZq.c, zZq.r0, zZq.r1, zZq.r2, g0, he, hcc, b0, c01, bd, st, mxE, c02, qZO]
 refine kLoop (OI1 H w) w.regs.length ⟨rfl, 0, .nils, none, [], rfl, by omega, ⟨by simp [he], by simp [he], by simp [he], by simp [he], by simp [he], by simp [he], by simpa using he⟩, fun j hj => by simp [List.getElem?_append_left hj], by simp, by simp, by simp, VQ.nil _ _ _, fun id h => by simp at h⟩ ?_
 clear g0 he env b0 hcc c01 bd st mxE c02
 rintro m ⟨env, mk, S⟩ ⟨hm, i, v, o, os, rfl, hi, ⟨k1, k2, k3, k16, k17, k18, hl⟩, hS, hb0, hb1, hb2, hv, hlo⟩
 simp only at hm k1 k2 k3 k16 k17 k18 hl hS hb0 hb1 hb2 hv
 obtain rfl := hm
 have hlt2 := (List.getElem?_eq_some_iff.1 hb2).1
 by_cases c : i < w.regs.length
 ·have cc1 : (i : Int) < w.regs.length := by omega
  obtain ⟨x, hx⟩ : ∃ x, w.regs[i]? = some x := ⟨_, List.getElem?_eq_getElem c⟩
  have zx := zg x (List.mem_of_getElem? hx)
  unfold SzO at zx
  have ia := jZv (h := S) (k := .i64) hx
  have wr := wrap64 (n := (i : Int) + 1) (by omega) (by omega)
  have sx : evStoreV (S ++ [.cells zG]) 12 (.ptr S.length 0) (.agg (cG x)) = some (V.non, S ++ [.cells (cG x)]) := vZX rfl rfl rfl
  obtain ⟨S1, hS1⟩ : ∃ S1, S1 = S ++ [.cells (cG x)] := ⟨_, rfl⟩
  rw [← hS1] at sx
  have l1 : S1.length = S.length + 1 := by rw [hS1]; simp
  have n1 : S1[S.length]? = some (.cells (cGv x (.arr (x.o.filt.map cT)))) := by rw [hS1]; simp; rfl
  have o1 : ∀ j, j < S.length → S1[j]? = S[j]? := fun j hj => by rw [hS1, List.getElem?_append_left hj]
  have c9 := qZ4 n1 9
  obtain ⟨vf, of, S2, e2, F2, l2, k2', n2⟩ := app_own (enc := cT) (by_ := 16) (fun _ => rfl) (fun _ => rfl) (fun _ => rfl) x.o.filt S1 (by unfold roomB; omega)
  have q1 : S2[S.length]? = some (.cells (cGv x (.arr (x.o.filt.map cT)))) := by rw [k2' _ (by omega)]; exact n1
  have s2 := vZw (off := 9) q1 (by simp) F2.cell
  obtain ⟨S3, hS3⟩ : ∃ S3, S3 = S2.set S.length (.cells (cGv x vf)) := ⟨_, rfl⟩
  have s2' : evStoreV S2 1 (.ptr S.length 9) vf = some (V.non, S3) := by rw [hS3]; exact s2
  have l3 : S3.length = S2.length := by rw [hS3]; simp
  have q3 : S3[S.length]? = some (.cells (cGv x vf)) := by rw [hS3]; exact vZ2 q1 _
  have o3 : ∀ j, j < S.length → S3[j]? = S[j]? := fun j hj => by rw [hS3, List.getElem?_set_ne (by omega), k2' j (by omega), o1 j hj]
  have F3 : VL S3 1 vf of (x.o.filt.map cT) := F2.mono fun id h => by rw [hS3, List.getElem?_set_ne (by have := n2 id h; omega)]
  have m3 : ∀ id, of = some id → S.length < id := fun id h => by have := n2 id h; omega
  have b2 : S3[H.length + 2]? = some (.cells [v, .int .i64 (max w.next 1), .nils]) := by rw [o3 _ hlt2]; exact hb2
  have c0 := qZ4 b2 0
  have cx := qZ4 q3 0
  have ok : okCells S3 (some 12) (some ((cGv x vf).drop 0)) = some (.agg (cGv x vf), S3) := rfl
  have bs := bsG S3 x vf F3.cell.1
  have hv3 : VQ S3 12 1 v o os ((w.regs.take i).map cG) [] := hv.mono fun id h => o3 id (h.elim (hv.lt.1 id) (hv.lt.2 id))
  obtain ⟨v', o', S4, e4, hv4, l4, k4, n4⟩ := hv3.add (by_ := 72) (El.G F3) rfl (fun o' ho' id hid hoe => by have := hv.lt.2 id (hid ▸ ho'); have := m3 id hoe; omega) (fun id hid hoe => by have := hv.lt.1 id hid; have := m3 id hoe; omega) (by rw [List.length_map, List.length_take]; unfold roomB; omega)
  have hne : o ≠ some (H.length + 2) := fun e => by have := hlo _ (.inl e); omega
  have b4 : S4[H.length + 2]? = some (.cells [v, .int .i64 (max w.next 1), .nils]) := by rw [k4 _ (by omega) hne]; exact b2
  have s5 := vZw (off := 0) b4 (by simp) hv4.cell
  obtain ⟨S5, hS5⟩ : ∃ S5, S5 = S4.set (H.length + 2) (.cells [v', .int .i64 (max w.next 1), .nils]) := ⟨_, rfl⟩
  have s5' : evStoreV S4 1 (.ptr (H.length + 2) 0) v' = some (V.non, S5) := by rw [hS5]; exact s5
  have low : ∀ id, (o' = some id ∨ some id ∈ os ++ [of]) → H.length + 3 ≤ id := fun id h => by
   rcases h with h | h
   ·rcases n4 id h with h | h
    ·exact hlo id (.inl h)
    ·omega
   ·rcases List.mem_append.1 h with h | h
    ·exact hlo id (.inr h)
    ·have := m3 id (List.mem_singleton.1 h).symm; omega
  have hv5 : VQ S5 12 1 v' o' (os ++ [of]) ((w.regs.take i).map cG ++ [cG x]) [] := hv4.mono fun id h => by rw [hS5, List.getElem?_set_ne (by have := low id h; omega)]
  rw [show (w.regs.take i).map cG ++ [cG x] = (w.regs.take (i + 1)).map cG by rw [List.take_add_one, hx]; simp] at hv5
  have base : ∀ j, j < H.length + 2 → S5[j]? = S[j]? := fun j hj => by
   rw [hS5, List.getElem?_set_ne (by omega), k4 j (by omega) (fun e => by have := hlo j (.inl e); omega), o3 j (by omega)]
  simp [zZq.b8, zZq.r3, zZq.r4, zZq.r5, zZq.r6, zZq.r7, k1, k2, k3, k16, k17, k18, hl, cc1, ia, okG, sx, c9, e2, s2', c0, cx, ok, bs, e4, s5', wr]
  exact ⟨w.regs.length - (i + 1), by omega, rfl, i + 1, v', o', os ++ [of], rfl, by omega, ⟨by simp [hl, k1], by simp [hl, k2], by simp [hl, k3], by simp [hl, k16], by simp [hl, k17], by simp [hl], by simp [hl]⟩, fun j hj => by rw [base j (by omega)]; exact hS j hj, by rw [base _ (by omega)]; exact hb0, by rw [base _ (by omega)]; exact hb1, by rw [hS5]; exact vZ2 b4 _, hv5, low⟩
 have c1 : ¬ (i : Int) < w.regs.length := by omega
 rw [List.take_of_length_le (by omega)] at hv
 have cw2 := qZ4 hb0 2
 simp [zZq.b8, zZq.r3, zZq.r9, k1, k2, k3, k16, k17, k18, hl, c1, cw2, qZO]
 refine kLoop (OI2 H w) w.qs.length ⟨rfl, 0, v, .nils, o, none, os, [], rfl, by omega, ⟨by simp [hl, k1], by simp [hl, k2], by simp [hl, k3], by simp [hl], by simp [hl], by simp [hl], by simpa using hl⟩, hS, hb0, hb1, hb2, ⟨hv, VQ.nil _ _ _, hlo, fun id h => by simp at h, fun id _ h => by simp at h⟩⟩ ?_
 clear hlt2 hlo hv hb2 hb1 hb0 hS hl k1 k2 k3 k16 k17 k18 c c1 cw2 hi
 clear S env i v o os
 rintro m ⟨env, mk, S⟩ ⟨hm, i, v0, v2, o0, o2, os0, os2, rfl, hi, ⟨k1, k2, k3, k36, k37, k38, hl⟩, hS, hb0, hb1, hb2, hw⟩
 simp only at hm k1 k2 k3 k36 k37 k38 hl hS hb0 hb1 hb2 hw
 obtain rfl := hm
 have hlt2 := (List.getElem?_eq_some_iff.1 hb2).1
 by_cases c : i < w.qs.length
 ·have cc1 : (i : Int) < w.qs.length := by omega
  obtain ⟨q, hq⟩ : ∃ q, w.qs[i]? = some q := ⟨_, List.getElem?_eq_getElem c⟩
  have zq4 := z4 q (List.mem_of_getElem? hq)
  have zqr := zr q (List.mem_of_getElem? hq)
  have ia := wZ4 (h := S) (k := .i64) hq
  have wr := wrap64 (n := (i : Int) + 1) (by omega) (by omega)
  simp [zZq.b21, zZq.r10, zZq.r11, zZq.r12, zZq.r13, k1, k2, k3, k36, k37, k38, hl, cc1, ia, okQ, qZO]
  refine kLoop (OI3 H S w i q) q.length ⟨rfl, 0, .nils, none, rfl, by omega, ⟨by simp [hl, k1], by simp [hl, k2], by simp [hl, k3], by simp [hl, k36], by simp [hl, k37], by simp [hl, k38], by simp [hl], by simp [hl], by simp [hl], by simp [hl], by simpa using hl⟩, fun _ _ => rfl, Nat.le_refl _, VL.nil _ _, fun id h => by cases h⟩ ?_
  clear k1 k2 k3 k36 k37 k38 hl env
  rintro m ⟨env, mk, S1⟩ ⟨hm, j, v8, o8, rfl, hj, ⟨k1, k2, k3, k36, k37, k38, k42, k43, k44, k8, hl⟩, hS1, hl1, hv8, hlo8⟩
  simp only at hm k1 k2 k3 k36 k37 k38 k42 k43 k44 k8 hl hS1 hl1 hv8
  obtain rfl := hm
  by_cases cj : j < q.length
  ·have cj1 : (j : Int) < q.length := by omega
   obtain ⟨x, hx⟩ : ∃ x, q[j]? = some x := ⟨_, List.getElem?_eq_getElem cj⟩
   have ib := iaddr_cR (h := S1) (k := .i64) hx
   have wj := wrap64 (n := (j : Int) + 1) (by omega) (by omega)
   have sx : evStoreV (S1 ++ [.cells zR]) 11 (.ptr S1.length 0) (.agg (cR x)) = some (V.non, S1 ++ [.cells (cR x)]) := vZX rfl rfl rfl
   obtain ⟨S2, hS2⟩ : ∃ S2, S2 = S1 ++ [.cells (cR x)] := ⟨_, rfl⟩
   have cx : cellsAt S2 (.ptr S1.length 0) = some ((cR x).drop 0) := by rw [hS2]; exact wZi _ _ _
   have ok2 : okCells S2 (some 11) (some ((cR x).drop 0)) = some (.agg (cR x), S2) := rfl
   have ho := wZK x (zqr.2 x (List.mem_of_getElem? hx)) S2
   have bs := bsR S2 x
   have hv82 : VL S2 11 v8 o8 ((q.take j).map cR) := by rw [hS2]; exact hv8.push _
   obtain ⟨v9, o9, S3, e3, hv9, l3, k3', n3⟩ := hv82.addR x (by rw [List.length_take]; omega)
   rw [show q.take j ++ [x] = q.take (j + 1) by rw [List.take_add_one, hx]; rfl] at hv9
   have l2 : S2.length = S1.length + 1 := by rw [hS2]; simp
   have low : ∀ id, o9 = some id → S.length ≤ id := fun id h => by
    rcases n3 id h with h | h
    ·exact hlo8 id h
    ·omega
   have base : ∀ k, k < S.length → S3[k]? = S[k]? := fun k hk => by
    rw [k3' k (by omega) (fun e => by have := hlo8 k e; omega), hS2, List.getElem?_append_left (by omega), hS1 k hk]
   rw [← hS2] at sx
   simp [zZq.b18, zZq.r14, zZq.r15, zZq.r16, zZq.r17, k1, k2, k3, k36, k37, k38, k42, k43, k44, k8, hl, cj1, ib, okR, sx, cx, ok2, ho, bs, e3, wj]
   exact ⟨q.length - (j + 1), by omega, rfl, j + 1, v9, o9, rfl, by omega, ⟨by simp [hl, k1], by simp [hl, k2], by simp [hl, k3], by simp [hl, k36], by simp [hl, k37], by simp [hl, k38], by simp [hl, k42], by simp [hl, k43], by simp [hl], by simp [hl], by simp [hl]⟩, base, (by show S.length ≤ S3.length; omega), hv9, low⟩
  ·have cj1 : ¬ (j : Int) < q.length := by omega
   rw [List.take_of_length_le (by omega)] at hv8
   have b2 : S1[H.length + 2]? = some (.cells [v0, .int .i64 (max w.next 1), v2]) := by rw [hS1 _ hlt2]; exact hb2
   have c2 := qZ4 b2 2
   have bs := bsV S1 v8 hv8.cell
   have hr1 := hw.r.mono (H' := S1) fun id h => hS1 id (h.elim (hw.r.lt.1 id) (hw.r.lt.2 id))
   have hq1 := hw.q.mono (H' := S1) fun id h => hS1 id (h.elim (hw.q.lt.1 id) (hw.q.lt.2 id))
   obtain ⟨v', o', S4, e4, hv4, l4, k4, n4⟩ := hq1.add (by_ := 24) (El.Q hv8) rfl (fun o' ho' id hid hoe => by have := hw.q.lt.2 id (hid ▸ ho'); have := hlo8 id hoe; omega) (fun id hid hoe => by have := hw.q.lt.1 id hid; have := hlo8 id hoe; omega) (by rw [List.length_map, List.length_take]; unfold roomB; omega)
   have hne : o2 ≠ some (H.length + 2) := fun e => by have := hw.lo2 _ (.inl e); omega
   have b4 : S4[H.length + 2]? = some (.cells [v0, .int .i64 (max w.next 1), v2]) := by rw [k4 _ (by omega) hne]; exact b2
   have s5 := vZw (off := 2) b4 (by simp) hv4.cell
   obtain ⟨S5, hS5⟩ : ∃ S5, S5 = S4.set (H.length + 2) (.cells [v0, .int .i64 (max w.next 1), v']) := ⟨_, rfl⟩
   have s5' : evStoreV S4 1 (.ptr (H.length + 2) 2) v' = some (V.non, S5) := by rw [hS5]; exact s5
   have fresh : ∀ id, (o' = some id ∨ some id ∈ os2 ++ [o8]) → (o2 = some id ∨ some id ∈ os2) ∨ S.length ≤ id := fun id h => by
    rcases h with h | h
    ·rcases n4 id h with h | h
     ·exact .inl (.inl h)
     ·right; omega
    ·rcases List.mem_append.1 h with h | h
     ·exact .inl (.inr h)
     ·exact .inr (hlo8 id (List.mem_singleton.1 h).symm)
   have low : ∀ id, (o' = some id ∨ some id ∈ os2 ++ [o8]) → H.length + 3 ≤ id := fun id h => by
    rcases fresh id h with h | h
    ·exact hw.lo2 id h
    ·omega
   have hv5 : VQ S5 1 11 v' o' (os2 ++ [o8]) ((w.qs.take i).map cQ ++ [cQ q]) [] := hv4.mono fun id h => by rw [hS5, List.getElem?_set_ne (by have := low id h; omega)]
   rw [show (w.qs.take i).map cQ ++ [cQ q] = (w.qs.take (i + 1)).map cQ by rw [List.take_add_one, hq]; simp] at hv5
   have hr5 : VQ S5 12 1 v0 o0 os0 (w.regs.map cG) [] := hr1.mono fun id h => by
    have hlt : id < S.length := h.elim (hw.r.lt.1 id) (hw.r.lt.2 id)
    have hx := hw.lo0 id h
    rw [hS5, List.getElem?_set_ne (by omega), k4 id (by omega) (fun e => hw.ap id h (.inl e))]
   have base : ∀ j, j < H.length + 2 → S5[j]? = S[j]? := fun j hj => by
    rw [hS5, List.getElem?_set_ne (by omega), k4 j (by omega) (fun e => by have := hw.lo2 j (.inl e); omega), hS1 j (by omega)]
   simp [zZq.b18, zZq.r14, zZq.r19, zZq.r20, k1, k2, k3, k36, k37, k38, k42, k43, k44, k8, hl, cj1, c2, bs, e4, s5', wr]
   exact ⟨w.qs.length - (i + 1), by omega, rfl, i + 1, v0, v', o0, o', os0, os2 ++ [o8], rfl, by omega, ⟨by simp [hl, k1], by simp [hl, k2], by simp [hl, k3], by simp [hl, k36], by simp [hl, k37], by simp [hl], by simp [hl]⟩, fun j hj => by rw [base j (by omega)]; exact hS j hj, by rw [base _ (by omega)]; exact hb0, by rw [base _ (by omega)]; exact hb1, by rw [hS5]; exact vZ2 b4 _, ⟨hr5, hv5, hw.lo0, low, fun id h h2 => by
    rcases fresh id h2 with h2 | h2
    ·exact hw.ap id h h2
    ·have : id < S.length := h.elim (hw.r.lt.1 id) (hw.r.lt.2 id)
     omega⟩⟩
 have c1 : ¬ (i : Int) < w.qs.length := by omega
 rw [List.take_of_length_le (by omega)] at hw
 have cA := qZ4 hb2 0
 have hcell : ([v0, .int .i64 (max w.next 1), v2] : List V).all V.isCell = true := by simp only [List.all_cons, List.all_nil, hw.r.cell.1, hw.q.cell.1]; rfl
 have s4 := vZO (n := 3) (A := [v0, .int .i64 (max w.next 1), v2]) hb1 rfl rfl hcell
 obtain ⟨S6, hS6⟩ : ∃ S6, S6 = S.set (H.length + 1) (.cells [v0, .int .i64 (max w.next 1), v2]) := ⟨_, rfl⟩
 rw [← hS6] at s4
 have cB : cellsAt S6 (.ptr (H.length + 1) 0) = some [v0, .int .i64 (max w.next 1), v2] := by rw [hS6]; exact qZ4 (vZ2 hb1 _) 0
 have up : ∀ id, H.length + 3 ≤ id → S6[id]? = S[id]? := fun id h => by rw [hS6, List.getElem?_set_ne (by omega)]
 have fin := hPi (.agg [v0, .int .i64 (max w.next 1), v2]) S6 ⟨v0, v2, o0, o2, os0, os2, rfl, fun j hj => by rw [hS6, List.getElem?_set_ne (by omega)]; exact hS j hj, ⟨hw.r.mono fun id h => up id (hw.lo0 id h), hw.q.mono fun id h => up id (hw.lo2 id h), fun id h => by have := hw.lo0 id h; omega, fun id h => by have := hw.lo2 id h; omega, hw.ap⟩⟩
 simp [zZq.c, zZq.b21, zZq.r10, zZq.r22, k1, k2, k3, k36, k37, k38, hl, c1, cA, s4, cB, ofCells, fin]
end Go.Proofs.Ob
