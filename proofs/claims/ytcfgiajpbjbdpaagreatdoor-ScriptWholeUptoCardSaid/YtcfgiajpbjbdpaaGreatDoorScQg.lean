/- Lists read: their elements. Each field's reading. No conditions. -/
import Derived.Test.YtcfgiajpbjbdpaaGreatDoorScQe
set_option maxHeartbeats 16000000
set_option maxRecDepth 100000
set_option linter.unusedVariables false
set_option linter.unusedSimpArgs false
set_option linter.unusedSectionVars false
namespace Go.Proofs.Sc
open Go Go.Ev
theorem xZU (s : Bs) : n2 (textR s) = n2 (unquote 2 120 s) ∧ (textR s).isSome = (unquote 2 120 s).isSome := by
 unfold textR
 cases unquote 2 120 s <;> exact ⟨rfl, rfl⟩
theorem textR_ok {s a r : Bs} (h : textR s = some (a, r)) : narrow (u1 (unquote 2 120 s)) = a := by
 unfold textR at h
 cases hq : unquote 2 120 s with
 | none => rw [hq] at h; cases h
 | some z =>
  rw [hq] at h
  injection h with h
  injection h with h1 h2
def LQ (p b : Nat) (c : Cmd) (v8 w : V) (H0 H : Heap) (out : List Int) : Prop := ∃ v o, H[b]? = some (.cells [.ptr p 0]) ∧ H[p]? = some (.cells (cV { c with list := out } v8 v w)) ∧ VL H 1 v o (out.map cI) ∧ Keep p H0 H ∧ ∀ id, o = some id → H0.length ≤ id
theorem xZC (p b : Nat) (c : Cmd) (v8 w : V) (H0 H : Heap) (out : List Int) (s : Bs) (hN : out.length + s.length ≤ 1048576) (hp : p < H0.length) (hQ : LQ p b c v8 w H0 H out) : ∃ r h', callW Φ (.fn (.func zZV.k) [] [.ptr b 0]) [T s] H = some (r, h') ∧ (oneR (LQ p b c v8 w H0) (Keep p H0) out (number s)) r h' := by
 obtain ⟨P, hP⟩ : ∃ P : V → Heap → Prop, P = oneR (LQ p b c v8 w H0) (Keep p H0) out (number s) := ⟨_, rfl⟩
 suffices hgo : ∃ r h', callW Φ (.fn (.func zZV.k) [] [.ptr b 0]) [T s] H = some (r, h') ∧ P r h' by rw [hP] at hgo; exact hgo
 have hPi : ∀ r h', (oneR (LQ p b c v8 w H0) (Keep p H0) out (number s)) r h' → P r h' := fun r h' q => by rw [hP]; exact q
 clear hP
 refine kZY zZV.Φ rfl (Nat.le_of_ble_eq_true rfl) (fun env he h0 => ?_)
 have g0 := h0 0 (by simp)
 change eget env 0 = T s at g0
 have g1 := h0 1 (by simp)
 change eget env 1 = .ptr b 0 at g1
 clear h0
 simp [zZV.c] at he
 obtain ⟨v, o, hb, hpc, hv, hk, ho⟩ := hQ
 have hz : s.length < 2 ^ 40 := by omega
 have hn := fun H => xZy s hz H
 have hop : o ≠ some p := hv.ne hpc (fun _ _ _ _ h => by cases h)
 have hob : o ≠ some b := hv.ne hb (fun _ _ _ _ h => by cases h)
 obtain ⟨x, hx⟩ : ∃ x : Int, x = n1 (number s) := ⟨_, rfl⟩
 obtain ⟨v', o', H2, ha, hv2, hl2, hrest, hnew⟩ := hv.add (by_ := 8) (es := [cI x]) (plainR.map (enc := cI) (fun _ => rfl) (fun _ => rfl) (fun _ => rfl) [x]) (by simp [roomB]; omega)
 have hbs := bs1 H (.int .i64 0) (.int .i64 x) ⟨rfl, rfl⟩
 have cb := vZ5 hb 0
 have cb1 := vZ5 (H := H ++ [.row 1 [[.int .i64 x]] 0 true]) (id := b) (cs := [.ptr p 0]) (by rw [List.getElem?_append_left (List.getElem?_eq_some_iff.1 hb).1]; exact hb) 0
 have hb2 : H2[b]? = some (.cells [.ptr p 0]) := by rw [hrest b (List.getElem?_eq_some_iff.1 hb).1 hob]; exact hb
 have hp2 : H2[p]? = some (.cells (cV { c with list := out } v8 v w)) := by rw [hrest p (List.getElem?_eq_some_iff.1 hpc).1 hop]; exact hpc
 have cb2 := vZ5 hb2 0
 have cp := vZ5 hpc 9
 have st := vZo hp2 (off := 9) (x := v') (by simp) hv2.cell
 obtain ⟨H3, hH3⟩ : ∃ H3, H3 = H2.set p (.cells ((cV { c with list := out } v8 v w).set 9 v')) := ⟨_, rfl⟩
 rw [← hH3] at st
 have hpl : p < H2.length := (List.getElem?_eq_some_iff.1 hp2).1
 have hne : b ≠ p := fun e => by
  rw [e, hpc] at hb
  injection hb with hb; injection hb with hb; injection hb with h1 h2; cases h1
 have ho'p : o' ≠ some p := hv2.ne hp2 (fun _ _ _ _ h => by cases h)
 have hK : Keep p H0 H3 := ⟨by rw [hH3, List.length_set]; exact Nat.le_trans hk.1 hl2, fun j hj hjp => by
  rw [hH3, List.getElem?_set_ne (fun e => hjp e.symm), hrest j (Nat.lt_of_lt_of_le hj hk.1) (fun e => by have := ho j e; omega), hk.2 j hj hjp]⟩
 have hQ3 : LQ p b c v8 w H0 H3 (out ++ [x]) := by
  refine ⟨v', o', ?_, ?_, ?_, hK, fun id hid => ?_⟩
  ·rw [hH3, List.getElem?_set_ne (fun e => hne e.symm)]; exact hb2
  ·rw [hH3, List.getElem?_set_self hpl]; rfl
  ·refine VL.mono (h := H2) (by simpa using hv2) fun id hid => ?_
   rw [hH3, List.getElem?_set_ne (fun e => ho'p (by rw [hid, e]))]
  ·rcases hnew id hid with h | h
   ·exact ho id h
   ·have := hk.1; omega
 simp only [cI, List.length_cons, List.length_nil] at ha
 have hres : P (.tup [T (n2 (number s)), .bool (number s).isSome]) H3 := by
  refine hPi _ _ ?_
  cases hm : number s with
  | none => exact ⟨⟨[], rfl⟩, hK⟩
  | some q =>
   obtain ⟨a, r⟩ := q
   have hxa : x = a := by rw [hx]; exact by rw [hm]; rfl
   rw [← hxa]
   exact ⟨rfl, hQ3⟩
 rw [← hx] at hn
 have key : ∀ env : List V, env.length = 26 → eget env 1 = .ptr b 0 → eget env 5 = .int .i64 x → eget env 6 = T (n2 (number s)) → eget env 7 = .bool (number s).isSome →
   WK (callW Φ) none (FinX [.tmp 3, .tmp 4] P) [.c (.draw zZV.r2 [[], [], [1], [2], [3], [], [5], [4, 6], [0, 0, 1, 2, 3, 4, 5, 6, 7], [8, 0, 1, 2, 3, 4, 5, 6, 7], [9, 7, 7, 0, 1, 2, 3, 4, 5, 6, 7]] [2, 3, 5, 8, 9]), .c (xS zZV.r3 .ret)] { env := env, marks := [], heap := H } := by
  intro env he k1 k5 k6 k7
  refine kDrawW zZV.r2.ord ?_
  simp [zZV.r2, zZV.r3, List.filterMap_cons, k1, k5, k6, k7, he, cb, cb1, cb2, cp, hbs, ha, st, evNilchk, hres]
  repeat' apply And.intro
  all_goals
   simp only [xZ7, xZ2, List.cons_append, List.nil_append]
   exact xZ6 _ rfl rfl rfl rfl
 simp [zZV.c, zZV.r0, zZV.r1, g0, he, hn, evExt, -FinX]
 exact key _ (by simp [he]) (by simp [g1]) (by simp [he]) (by simp [he]) (by simp [he])
def NQ (p b : Nat) (c : Cmd) (v8 w : V) (H0 H : Heap) (out : List Bs) : Prop := ∃ v o, H[b]? = some (.cells [.ptr p 0]) ∧ H[p]? = some (.cells (cV { c with names := out } v8 w v)) ∧ VL H 1 v o (out.map cT) ∧ Keep p H0 H ∧ ∀ id, o = some id → H0.length ≤ id
theorem xZB (p b : Nat) (c : Cmd) (v8 w : V) (H0 H : Heap) (out : List Bs) (s : Bs) (hN : out.length + s.length ≤ 1048576) (hp : p < H0.length) (hQ : NQ p b c v8 w H0 H out) : ∃ r h', callW Φ (.fn (.func zZQ.k) [] [.ptr b 0]) [T s] H = some (r, h') ∧ (oneR (NQ p b c v8 w H0) (Keep p H0) out (textR s)) r h' := by
 obtain ⟨P, hP⟩ : ∃ P : V → Heap → Prop, P = oneR (NQ p b c v8 w H0) (Keep p H0) out (textR s) := ⟨_, rfl⟩
 suffices hgo : ∃ r h', callW Φ (.fn (.func zZQ.k) [] [.ptr b 0]) [T s] H = some (r, h') ∧ P r h' by rw [hP] at hgo; exact hgo
 have hPi : ∀ r h', (oneR (NQ p b c v8 w H0) (Keep p H0) out (textR s)) r h' → P r h' := fun r h' q => by rw [hP]; exact q
 clear hP
 refine kZY zZQ.Φ rfl (Nat.le_of_ble_eq_true rfl) (fun env he h0 => ?_)
 have g0 := h0 0 (by simp)
 change eget env 0 = T s at g0
 have g1 := h0 1 (by simp)
 change eget env 1 = .ptr b 0 at g1
 clear h0
 simp [zZQ.c] at he
 obtain ⟨v, o, hb, hpc, hv, hk, ho⟩ := hQ
 have hz : s.length < 2 ^ 40 := by omega
 have hn := fun H => xZv 2 120 (by omega) (by decide) s hz H
 have e2 : (((2 : Nat)) : Int) = 2 := rfl
 simp only [q120, e2] at hn
 have hl := u1_lt (k := 2) (y := 120) (B := 256) (by omega) (by decide) s
 have hw := fun H => zYab (u1 (unquote 2 120 s)) (by omega) hl.1 H
 have hc2 : ∀ H, evConv H .bytesStr (.arr ((narrow (u1 (unquote 2 120 s))).map cB)) = some (T (narrow (u1 (unquote 2 120 s))), H) := fun H => by
  simp [evConv, bytesIn, elemsOf, zYaE, okV]
 have hop : o ≠ some p := hv.ne hpc (fun _ _ _ _ h => by cases h)
 have hob : o ≠ some b := hv.ne hb (fun _ _ _ _ h => by cases h)
 obtain ⟨x, hx⟩ : ∃ x : Bs, x = narrow (u1 (unquote 2 120 s)) := ⟨_, rfl⟩
 obtain ⟨v', o', H2, ha, hv2, hl2, hrest, hnew⟩ := hv.add (by_ := 16) (es := [cT x]) (plainR.map (enc := cT) (fun _ => rfl) (fun _ => rfl) (fun _ => rfl) [x]) (by simp [roomB]; omega)
 have hbs := bs1 H (.str ⟨#[]⟩) (T x) ⟨rfl, rfl⟩
 have cb := vZ5 hb 0
 have cb1 := vZ5 (H := H ++ [.row 1 [[T x]] 0 true]) (id := b) (cs := [.ptr p 0]) (by rw [List.getElem?_append_left (List.getElem?_eq_some_iff.1 hb).1]; exact hb) 0
 have hb2 : H2[b]? = some (.cells [.ptr p 0]) := by rw [hrest b (List.getElem?_eq_some_iff.1 hb).1 hob]; exact hb
 have hp2 : H2[p]? = some (.cells (cV { c with names := out } v8 w v)) := by rw [hrest p (List.getElem?_eq_some_iff.1 hpc).1 hop]; exact hpc
 have cb2 := vZ5 hb2 0
 have cp := vZ5 hpc 10
 have st := vZo hp2 (off := 10) (x := v') (by simp) hv2.cell
 obtain ⟨H3, hH3⟩ : ∃ H3, H3 = H2.set p (.cells ((cV { c with names := out } v8 w v).set 10 v')) := ⟨_, rfl⟩
 rw [← hH3] at st
 have hpl : p < H2.length := (List.getElem?_eq_some_iff.1 hp2).1
 have hne : b ≠ p := fun e => by
  rw [e, hpc] at hb
  injection hb with hb; injection hb with hb; injection hb with h1 h2; cases h1
 have ho'p : o' ≠ some p := hv2.ne hp2 (fun _ _ _ _ h => by cases h)
 have hK : Keep p H0 H3 := ⟨by rw [hH3, List.length_set]; exact Nat.le_trans hk.1 hl2, fun j hj hjp => by
  rw [hH3, List.getElem?_set_ne (fun e => hjp e.symm), hrest j (Nat.lt_of_lt_of_le hj hk.1) (fun e => by have := ho j e; omega), hk.2 j hj hjp]⟩
 have hQ3 : NQ p b c v8 w H0 H3 (out ++ [x]) := by
  refine ⟨v', o', ?_, ?_, ?_, hK, fun id hid => ?_⟩
  ·rw [hH3, List.getElem?_set_ne (fun e => hne e.symm)]; exact hb2
  ·rw [hH3, List.getElem?_set_self hpl]; rfl
  ·refine VL.mono (h := H2) (by simpa using hv2) fun id hid => ?_
   rw [hH3, List.getElem?_set_ne (fun e => ho'p (by rw [hid, e]))]
  ·rcases hnew id hid with h | h
   ·exact ho id h
   ·have := hk.1; omega
 simp only [cT, List.length_cons, List.length_nil] at ha
 have hres : P (.tup [T (n2 (textR s)), .bool (textR s).isSome]) H3 := by
  refine hPi _ _ ?_
  cases hm : textR s with
  | none => exact ⟨⟨[], rfl⟩, hK⟩
  | some q =>
   obtain ⟨a, r⟩ := q
   have hxa : x = a := by rw [hx]; exact textR_ok hm
   rw [← hxa]
   exact ⟨rfl, hQ3⟩
 simp only [← hx] at hc2 hw
 rw [(xZU s).1, (xZU s).2] at hres
 have key : ∀ env : List V, env.length = 28 → eget env 1 = .ptr b 0 → eget env 5 = .arr ((u1 (unquote 2 120 s)).map cU) → eget env 6 = T (n2 (unquote 2 120 s)) → eget env 7 = .bool (unquote 2 120 s).isSome →
   WK (callW Φ) none (FinX [.tmp 3, .tmp 4] P) [.c (.draw zZQ.r2 [[], [], [1], [2], [3], [], [5], [6], [7], [4, 8, 6], [0, 0, 1, 2, 3, 4, 5, 6, 7, 8, 9], [10, 0, 1, 2, 3, 4, 5, 6, 7, 8, 9], [11, 9, 9, 0, 1, 2, 3, 4, 5, 6, 7, 8, 9]] [2, 3, 5, 10, 11]), .c (xS zZQ.r3 .ret)] { env := env, marks := [], heap := H } := by
  intro env he k1 k5 k6 k7
  refine kDrawW zZQ.r2.ord ?_
  simp [zZQ.r2, zZQ.r3, List.filterMap_cons, k1, k5, k6, k7, he, cb, cb1, cb2, cp, hw, hc2, hbs, ha, st, evNilchk, hres]
  repeat' apply And.intro
  all_goals
   simp only [xZ7, xZ2, List.cons_append, List.nil_append]
   exact xZ6 _ rfl rfl rfl rfl
 simp [zZQ.c, zZQ.r0, zZQ.r1, g0, he, hn, evExt, -FinX]
 exact key _ (by simp [he]) (by simp [g1]) (by simp [he]) (by simp [he]) (by simp [he])
open Go Go.Ev
theorem xZQ {s : Bs} {x : Int} {r : Bs} (h : number s = some (x, r)) : r.length ≤ s.length := by
 rw [(vZl h).2, List.length_append]; omega
theorem xZW {s x r : Bs} (h : textR s = some (x, r)) : r.length ≤ s.length := by
 unfold textR at h
 cases hq : unquote 2 120 s with
 | none => rw [hq] at h; cases h
 | some z =>
  rw [hq] at h
  injection h with h
  injection h with h1 h2
  have := (xZS (k := 2) (y := 120) (B := 256) (by omega) (by decide) (show unquote 2 120 s = some (z.1, z.2) from hq)).2
  rw [← h2]; omega
theorem xZP {α : Type} {one : Bs → Option (α × Bs)} (hsuf : ∀ s x r, one s = some (x, r) → r.length ≤ s.length) : ∀ (n : Nat) (s : Bs) (out l : List α) (r : Bs), s.length ≤ n → itemsL one s out = some (l, r) → r.length ≤ s.length
 | n, s, out, l, r, hn, h => by
  rw [itemsL] at h
  cases ho : one s with
  | none => rw [ho] at h; cases h
  | some p =>
   obtain ⟨x, t⟩ := p
   have ht := hsuf s x t ho
   rw [ho] at h
   cases t with
   | nil => cases h
   | cons e t =>
    simp only [List.length_cons] at ht
    simp only at h
    split at h
    ·injection h with h; injection h with h1 h2; rw [← h2]; omega
    ·split at h
     ·split at h
      ·cases n with
       | zero => omega
       | succ n => have := xZP hsuf n t _ l r (by omega) h; omega
      ·cases h
     ·cases h
theorem items_len {α : Type} {one : Bs → Option (α × Bs)} (hsuf : ∀ s x r, one s = some (x, r) → r.length ≤ s.length) {s : Bs} {out l : List α} {r : Bs} (h : items one s out = some (l, r)) : r.length ≤ s.length := by
 cases s with
 | nil => cases h
 | cons b s =>
  simp only [items] at h
  split at h
  ·cases s with
   | nil => exact Nat.le_trans (xZP hsuf _ _ _ _ _ (Nat.le_refl _) h) (by simp)
   | cons e s =>
    simp only at h
    split at h
    ·injection h with h; injection h with h1 h2; rw [← h2]; simp; omega
    ·have := xZP hsuf _ _ _ _ _ (Nat.le_refl _) h
     simp only [List.length_cons] at this ⊢
     omega
  ·cases h
theorem xZK (p : Nat) (c : Cmd) (v8 w : V) (H : Heap) (s : Bs) (hN : s.length ≤ 1048576) (hc : H[p]? = some (.cells (cV { c with list := [] } v8 .nils w))) : ∃ r h', callW Φ (.fn (.func qZz.k) [] []) [.ptr p 0, T s] H = some (r, h') ∧ (itR (LQ p H.length c v8 w H) (Keep p H) (items number s [])) r h' := by
 obtain ⟨P, hP⟩ : ∃ P : V → Heap → Prop, P = itR (LQ p H.length c v8 w H) (Keep p H) (items number s []) := ⟨_, rfl⟩
 suffices hgo : ∃ r h', callW Φ (.fn (.func qZz.k) [] []) [.ptr p 0, T s] H = some (r, h') ∧ P r h' by rw [hP] at hgo; exact hgo
 have hPi : ∀ r h', (itR (LQ p H.length c v8 w H) (Keep p H) (items number s [])) r h' → P r h' := fun r h' q => by rw [hP]; exact q
 clear hP
 refine kZY qZz.Φ rfl (Nat.le_of_ble_eq_true rfl) (fun env he h0 => ?_)
 have g0 := h0 0 (by simp)
 change eget env 0 = .ptr p 0 at g0
 have g1 := h0 1 (by simp)
 change eget env 1 = T s at g1
 clear h0
 simp [qZz.c] at he
 have hp := (List.getElem?_eq_some_iff.1 hc).1
 have hb := jZU H [.ptr p 0] rfl
 obtain ⟨r, h', h1, h2⟩ := xZz number (.fn (.func zZV.k) [] [.ptr H.length 0]) s.length (by omega) (LQ p H.length c v8 w H) (Keep p H) (fun h l q => by obtain ⟨v, o, _, _, _, hk, _⟩ := q; exact hk) (fun s x r h => xZQ h)
  (fun h out t q hl => xZC p H.length c v8 w H h out t (by omega) hp q) s (Nat.le_refl _) (H ++ [.cells [.ptr p 0]])
  ⟨.nils, none, by simp, by rw [List.getElem?_append_left hp]; exact hc, VL.nil _ _, Keep.push _ _ _, fun id h => by cases h⟩
 have hf := hPi r h' h2
 have hr : ∃ t q, r = .tup [T t, .bool q] := by
  cases hm : items number s [] with
  | none => rw [hm] at h2; exact ⟨_, _, h2.1⟩
  | some z => rw [hm] at h2; exact ⟨_, _, h2.1⟩
 obtain ⟨t, q, rfl⟩ := hr
 simp [qZz.c, qZz.r0, qZz.r1, g0, g1, he, V.cells, hb, h1, evExt, hf]
theorem xZG (p : Nat) (c : Cmd) (v8 w : V) (H : Heap) (s : Bs) (hN : s.length ≤ 1048576) (hc : H[p]? = some (.cells (cV { c with names := [] } v8 w .nils))) : ∃ r h', callW Φ (.fn (.func qZn.k) [] []) [.ptr p 0, T s] H = some (r, h') ∧ (itR (NQ p H.length c v8 w H) (Keep p H) (items textR s [])) r h' := by
 obtain ⟨P, hP⟩ : ∃ P : V → Heap → Prop, P = itR (NQ p H.length c v8 w H) (Keep p H) (items textR s []) := ⟨_, rfl⟩
 suffices hgo : ∃ r h', callW Φ (.fn (.func qZn.k) [] []) [.ptr p 0, T s] H = some (r, h') ∧ P r h' by rw [hP] at hgo; exact hgo
 have hPi : ∀ r h', (itR (NQ p H.length c v8 w H) (Keep p H) (items textR s [])) r h' → P r h' := fun r h' q => by rw [hP]; exact q
 clear hP
 refine kZY qZn.Φ rfl (Nat.le_of_ble_eq_true rfl) (fun env he h0 => ?_)
 have g0 := h0 0 (by simp)
 change eget env 0 = .ptr p 0 at g0
 have g1 := h0 1 (by simp)
 change eget env 1 = T s at g1
 clear h0
 simp [qZn.c] at he
 have hp := (List.getElem?_eq_some_iff.1 hc).1
 have hb := jZU H [.ptr p 0] rfl
 obtain ⟨r, h', h1, h2⟩ := xZz textR (.fn (.func zZQ.k) [] [.ptr H.length 0]) s.length (by omega) (NQ p H.length c v8 w H) (Keep p H) (fun h l q => by obtain ⟨v, o, _, _, _, hk, _⟩ := q; exact hk) (fun s x r h => xZW h)
  (fun h out t q hl => xZB p H.length c v8 w H h out t (by omega) hp q) s (Nat.le_refl _) (H ++ [.cells [.ptr p 0]])
  ⟨.nils, none, by simp, by rw [List.getElem?_append_left hp]; exact hc, VL.nil _ _, Keep.push _ _ _, fun id h => by cases h⟩
 have hf := hPi r h' h2
 have hr : ∃ t q, r = .tup [T t, .bool q] := by
  cases hm : items textR s [] with
  | none => rw [hm] at h2; exact ⟨_, _, h2.1⟩
  | some z => rw [hm] at h2; exact ⟨_, _, h2.1⟩
 obtain ⟨t, q, rfl⟩ := hr
 simp [qZn.c, qZn.r0, qZn.r1, g0, g1, he, V.cells, hb, h1, evExt, hf]
def CA (p : Nat) (H : Heap) (c : Cmd) (L : Bs) : Prop := ∃ v8 v9 v10 o9 o10, H[p]? = some (.cells (cV c v8 v9 v10)) ∧ SV H v8 none (c.data.map cU) ∧ VL H 1 v9 o9 (c.list.map cI) ∧ VL H 1 v10 o10 (c.names.map cT) ∧ Apart o9 o10 ∧
 (76 ∈ L → v9 = .nils ∧ c.list = []) ∧ (75 ∈ L → v10 = .nils ∧ c.names = []) ∧ (89 ∈ L → c.yes = false)
def RdR (p : Nat) (L : Bs) (H : Heap) (s : Bs) (y : Option (Cmd × Bs)) (x : V) (H' : Heap) : Prop := Keep p H H' ∧ match y with
 | some (c', s') => x = .tup [T s', .bool true] ∧ CA p H' c' L ∧ s'.length ≤ s.length
 | none => ∃ t : Bs, x = .tup [T t, .bool false]
theorem SV.none {H H' : Heap} {v : V} {xs : List (List V)} (h : SV H v none xs) : SV H' v none xs := h.mono fun id e => by cases e
theorem CA.put {p : Nat} {H : Heap} {c c' : Cmd} {L : Bs} {r : UInt8} {v8 v9 v10 w8 : V} {o9 o10 : Option Nat} (hc : H[p]? = some (.cells (cV c v8 v9 v10))) (h8 : SV H w8 none (c'.data.map cU)) (h9 : VL H 1 v9 o9 (c.list.map cI)) (h10 : VL H 1 v10 o10 (c.names.map cT)) (ha : Apart o9 o10)
  (hL : 76 ∈ r :: L → v9 = .nils ∧ c.list = []) (hK : 75 ∈ r :: L → v10 = .nils ∧ c.names = []) (hY : 89 ∈ L → c'.yes = false) (e1 : c'.list = c.list) (e2 : c'.names = c.names) : CA p (H.set p (.cells (cV c' w8 v9 v10))) c' L := by
 have hp := (List.getElem?_eq_some_iff.1 hc).1
 have n9 : o9 ≠ some p := h9.ne hc (fun _ _ _ _ h => by cases h)
 have n10 : o10 ≠ some p := h10.ne hc (fun _ _ _ _ h => by cases h)
 refine ⟨w8, v9, v10, o9, o10, List.getElem?_set_self hp, h8.none, ?_, ?_, ha, fun h => ?_, fun h => ?_, hY⟩
 ·rw [e1]; exact h9.mono fun id e => List.getElem?_set_ne (fun q => n9 (by rw [e, q]))
 ·rw [e2]; exact h10.mono fun id e => List.getElem?_set_ne (fun q => n10 (by rw [e, q]))
 ·rw [e1]; exact hL (List.mem_cons_of_mem _ h)
 ·rw [e2]; exact hK (List.mem_cons_of_mem _ h)
theorem rd_num {n p b off : Nat} {g : V} {c : Cmd} {s L : Bs} {r : UInt8} {H : Heap} {f : Cmd → Int → Cmd} (hs : s.length ≤ 1048576) (hb : H[b]? = some (.cells [g])) (hg : callW Φ g [.ptr p 0] H = some (.ptr p off, H)) (hca : CA p H c (r :: L))
  (hoff : off < 12) (hset : ∀ x v8 v9 v10, (cV c v8 v9 v10).set off (.int .i64 x) = cV (f c x) v8 v9 v10) (e0 : ∀ x, (f c x).data = c.data) (e1 : ∀ x, (f c x).list = c.list) (e2 : ∀ x, (f c x).names = c.names) (e3 : ∀ x, (f c x).yes = c.yes) :
  ∃ x H', callW Φ (.fn (.func qZF.k) [] [.ptr b 0]) [.ptr p 0, T s] H = some (x, H') ∧ RdR p L H s ((number s).map fun q => (f c q.1, q.2)) x H' := by
 obtain ⟨v8, v9, v10, o9, o10, hc, h8, h9, h10, ha, hL, hK, hY⟩ := hca
 have st := vZo hc (off := off) (x := .int .i64 (n1 (number s))) (by simpa using hoff) ⟨rfl, rfl⟩
 rw [hset] at st
 refine ⟨_, _, xZR H _ p off b g s (by omega) (vZ5 hb 0) hg st, Keep.set _ _ _, ?_⟩
 cases hm : number s with
 | none => exact ⟨[], rfl⟩
 | some q =>
  refine ⟨rfl, ?_, xZQ (show number s = some (q.1, q.2) from hm)⟩
  exact CA.put hc (by rw [e0]; exact h8) h9 h10 ha hL hK (fun h => by rw [e3]; exact hY (List.mem_cons_of_mem _ h)) (e1 _) (e2 _)
theorem rd_text {n p b off : Nat} {g : V} {c : Cmd} {s L : Bs} {r : UInt8} {H : Heap} {f : Cmd → Bs → Cmd} (hs : s.length ≤ 1048576) (hb : H[b]? = some (.cells [g])) (hg : callW Φ g [.ptr p 0] H = some (.ptr p off, H)) (hca : CA p H c (r :: L))
  (hoff : off < 12) (hset : ∀ x v8 v9 v10, (cV c v8 v9 v10).set off (T x) = cV (f c x) v8 v9 v10) (e0 : ∀ x, (f c x).data = c.data) (e1 : ∀ x, (f c x).list = c.list) (e2 : ∀ x, (f c x).names = c.names) (e3 : ∀ x, (f c x).yes = c.yes) :
  ∃ x H', callW Φ (.fn (.func qZr.k) [] [.ptr b 0]) [.ptr p 0, T s] H = some (x, H') ∧ RdR p L H s ((textR s).map fun q => (f c q.1, q.2)) x H' := by
 obtain ⟨v8, v9, v10, o9, o10, hc, h8, h9, h10, ha, hL, hK, hY⟩ := hca
 have st := vZo hc (off := off) (x := T (narrow (u1 (unquote 2 120 s)))) (by simpa using hoff) ⟨rfl, rfl⟩
 rw [hset] at st
 refine ⟨_, _, xZO H _ p off b g s (by omega) (vZ5 hb 0) hg st, Keep.set _ _ _, ?_⟩
 rw [← (xZU s).1, ← (xZU s).2]
 cases hm : textR s with
 | none => exact ⟨[], rfl⟩
 | some q =>
  have hq : textR s = some (q.1, q.2) := hm
  refine ⟨rfl, ?_, xZW hq⟩
  rw [textR_ok hq]
  exact CA.put hc (by rw [e0]; exact h8) h9 h10 ha hL hK (fun h => by rw [e3]; exact hY (List.mem_cons_of_mem _ h)) (e1 _) (e2 _)
theorem rd_call {n p : Nat} {r : UInt8} {L s : Bs} (hr : r ∈ letters) (hnd : (r :: L).Nodup) {c : Cmd} {H : Heap} (hca : CA p H c (r :: L)) (hb : Box n H) (hs : s.length ≤ 1048576) :
  ∃ x H', callW Φ (rdF n r) [.ptr p 0, T s] H = some (x, H') ∧ RdR p L H s (rd r c s) x H' := by
 obtain ⟨b1, b2, b3, b4, b5, b6, b7⟩ := hb
 simp only [letters, List.mem_cons, List.not_mem_nil, or_false] at hr
 rcases hr with rfl | rfl | rfl | rfl | rfl | rfl | rfl | rfl | rfl | rfl | rfl
 ·exact rd_num (n := n) (f := fun c x => { c with a := x }) hs b1 (xZe H p) hca (by omega) (fun _ _ _ _ => rfl) (fun _ => rfl) (fun _ => rfl) (fun _ => rfl) (fun _ => rfl)
 ·exact rd_num (n := n) (f := fun c x => { c with b := x }) hs b2 (xZf H p) hca (by omega) (fun _ _ _ _ => rfl) (fun _ => rfl) (fun _ => rfl) (fun _ => rfl) (fun _ => rfl)
 ·exact rd_num (n := n) (f := fun c x => { c with c := x }) hs b3 (xZg H p) hca (by omega) (fun _ _ _ _ => rfl) (fun _ => rfl) (fun _ => rfl) (fun _ => rfl) (fun _ => rfl)
 ·exact rd_num (n := n) (f := fun c x => { c with n := x }) hs b4 (xZh H p) hca (by omega) (fun _ _ _ _ => rfl) (fun _ => rfl) (fun _ => rfl) (fun _ => rfl) (fun _ => rfl)
 ·exact rd_num (n := n) (f := fun c x => { c with m := x }) hs b5 (xZi H p) hca (by omega) (fun _ _ _ _ => rfl) (fun _ => rfl) (fun _ => rfl) (fun _ => rfl) (fun _ => rfl)
 ·exact rd_text (n := n) (f := fun c x => { c with s := x }) hs b6 (xZj H p) hca (by omega) (fun _ _ _ _ => rfl) (fun _ => rfl) (fun _ => rfl) (fun _ => rfl) (fun _ => rfl)
 ·exact rd_text (n := n) (f := fun c x => { c with t := x }) hs b7 (xZk H p) hca (by omega) (fun _ _ _ _ => rfl) (fun _ => rfl) (fun _ => rfl) (fun _ => rfl) (fun _ => rfl)
 ·obtain ⟨v8, v9, v10, o9, o10, hc, h8, h9, h10, ha, hL, hK, hY⟩ := hca
  have st := vZo hc (off := 8) (x := .arr ((u1 (unquote 4 117 s)).map cU)) (by simp) ⟨rfl, rfl⟩
  refine ⟨_, _, xZJ H _ p s (by omega) st, Keep.set _ _ _, ?_⟩
  show match (unquote 4 117 s).map (fun q => (({ c with data := q.1 } : Cmd), q.2)) with
   | some (c', s') => _ ∧ CA _ _ c' L ∧ s'.length ≤ s.length
   | none => _
  cases hm : unquote 4 117 s with
  | none => exact ⟨[], rfl⟩
  | some q =>
   refine ⟨rfl, ?_, by have := (xZS (k := 4) (y := 117) (B := 65536) (by omega) (by decide) (show unquote 4 117 s = some (q.1, q.2) from hm)).2; show q.2.length ≤ _; omega⟩
   exact CA.put (c' := { c with data := q.1 }) (w8 := .arr (q.1.map cU)) hc (.inl ⟨rfl, rfl⟩) h9 h10 ha hL hK (fun h => hY (List.mem_cons_of_mem _ h)) rfl rfl
 ·obtain ⟨v8, v9, v10, o9, o10, hc, h8, h9, h10, ha, hL, hK, hY⟩ := hca
  obtain ⟨rfl, he⟩ := hL (by simp)
  obtain ⟨x, H', h1, h2⟩ := xZK p c v8 v10 H s hs hc
  have h76 : 76 ∉ L := fun h => (List.nodup_cons.1 hnd).1 h
  refine ⟨x, H', h1, ?_⟩
  show RdR p L H s ((items number s []).map fun q => ({ c with list := q.1 }, q.2)) x H'
  cases hm : items number s [] with
  | none =>
   rw [hm] at h2
   exact ⟨h2.2, [], h2.1⟩
  | some q =>
   rw [hm] at h2
   obtain ⟨h3, ⟨v, o, hb, hpc, hv, hk, ho⟩, h5⟩ := h2
   have n10 : o10 ≠ some p := h10.ne hc (fun _ _ _ _ h => by cases h)
   refine ⟨hk, h3, ⟨v8, v, v10, o, o10, hpc, h8.none, hv, h10.mono fun id e => hk.2 id (h10.lt e) (fun q => n10 (by rw [e, q])), fun id e e2 => ?_, fun h => absurd h h76, fun h => hK (List.mem_cons_of_mem _ h), fun h => hY (List.mem_cons_of_mem _ h)⟩, items_len (fun s x r h => xZQ h) (show items number s [] = some (q.1, q.2) from hm)⟩
   have := ho id e
   have := h10.lt e2
   omega
 ·obtain ⟨v8, v9, v10, o9, o10, hc, h8, h9, h10, ha, hL, hK, hY⟩ := hca
  obtain ⟨rfl, he⟩ := hK (by simp)
  obtain ⟨x, H', h1, h2⟩ := xZG p c v8 v9 H s hs hc
  have h75 : 75 ∉ L := fun h => (List.nodup_cons.1 hnd).1 h
  refine ⟨x, H', h1, ?_⟩
  show RdR p L H s ((items textR s []).map fun q => ({ c with names := q.1 }, q.2)) x H'
  cases hm : items textR s [] with
  | none =>
   rw [hm] at h2
   exact ⟨h2.2, [], h2.1⟩
  | some q =>
   rw [hm] at h2
   obtain ⟨h3, ⟨v, o, hb, hpc, hv, hk, ho⟩, h5⟩ := h2
   have n9 : o9 ≠ some p := h9.ne hc (fun _ _ _ _ h => by cases h)
   refine ⟨hk, h3, ⟨v8, v9, v, o9, o, hpc, h8.none, h9.mono fun id e => hk.2 id (h9.lt e) (fun q => n9 (by rw [e, q])), hv, fun id e e2 => ?_, fun h => hL (List.mem_cons_of_mem _ h), fun h => absurd h h75, fun h => hY (List.mem_cons_of_mem _ h)⟩, items_len (fun s x r h => xZW h) (show items textR s [] = some (q.1, q.2) from hm)⟩
   have := ho id e2
   have := h9.lt e
   omega
 ·obtain ⟨v8, v9, v10, o9, o10, hc, h8, h9, h10, ha, hL, hK, hY⟩ := hca
  have st := vZo hc (off := 11) (x := .bool true) (by simp) ⟨rfl, rfl⟩
  obtain ⟨x, H', h1, h2⟩ := xZN H _ p s st
  refine ⟨x, H', h1, ?_⟩
  show RdR p L H s ((yesR s).map fun q => ({ c with yes := q.1 }, q.2)) x H'
  have h89 : 89 ∉ L := fun h => (List.nodup_cons.1 hnd).1 h
  by_cases c3 : s.take 3 = [121, 101, 115]
  ·simp only [c3, if_true] at h2
   obtain ⟨h3, rfl⟩ := h2
   have hy : yesR s = some (true, s.drop 3) := by unfold yesR; rw [if_pos c3]
   rw [hy]
   refine ⟨Keep.set _ _ _, h3, ?_, by simp⟩
   exact CA.put (c' := { c with yes := true }) hc h8 h9 h10 ha hL hK (fun h => absurd h h89) rfl rfl
  ·simp only [c3, if_false] at h2
   obtain ⟨h3, rfl⟩ := h2
   by_cases c2 : s.take 2 = [110, 111]
   ·have hy : yesR s = some (false, s.drop 2) := by unfold yesR; rw [if_neg c3, if_pos c2]
    rw [hy]
    simp only [c2, if_true] at h3
    have e : ({ c with yes := false } : Cmd) = c := by have := hY (by simp); cases c; simp only at this; rw [this]
    refine ⟨Keep.refl _ _, h3, ?_, by simp⟩
    show CA p H' { c with yes := false } L
    rw [e]
    exact ⟨v8, v9, v10, o9, o10, hc, h8, h9, h10, ha, fun h => hL (List.mem_cons_of_mem _ h), fun h => hK (List.mem_cons_of_mem _ h), fun h => absurd h h89⟩
   ·have hy : yesR s = none := by unfold yesR; rw [if_neg c3, if_neg c2]
    rw [hy]
    simp only [c2, if_false] at h3
    exact ⟨Keep.refl _ _, s, h3⟩
end Go.Proofs.Sc
