/- The book's loop: how its state lies in the heap. The book's loop: what only reads. The book's loop: the next timer; whether it is full. The book's loop: whether it is full; a timer's wait. The book's loop: Copy. The book's loop: Copy, walked. No conditions. -/
import Derived.Test.YtgfebbhjpgkdfaaLpW
import Derived.Test.YtgfebbhjpgkdfaaLpRw
namespace Go.Proofs.Lp
open Go Go.Ev
set_option linter.unusedVariables false
set_option linter.unusedSimpArgs false

def cR (t : Tm) : List V := [.int .i64 t.due, .int .i64 t.num, .int .i64 t.id]
def cont2 (s : LS) (i : Nat) : List (List V) := if i = 9 then s.tm.map cR else (s.q i).map cI
def rowT (v : Nat → V) : List (List V) := (List.range 8).map fun i => [v (i + 1)]
theorem rowT_len (v : Nat → V) : (rowT v).length = 8 := by simp [rowT]
theorem rowT_get (v : Nat → V) {i : Nat} (hi : i < 8) : (rowT v)[i]? = some [v (i + 1)] := by simp [rowT, hi]
theorem rowT_set (v : Nat → V) {i : Nat} (hi : i < 8) (x : V) : (rowT v).set i [x] = rowT (upv v (i + 1) x) := by
  apply List.ext_getElem?
  intro j
  by_cases hj : j < 8
  · rw [rowT_get _ hj]
    by_cases e : j = i
    · subst e
      rw [List.getElem?_set_self (by rw [rowT_len]; exact hj)]
      simp [upv]
    · rw [List.getElem?_set_ne (Ne.symm e), rowT_get _ hj]
      simp [upv, e]
  · rw [List.getElem?_eq_none (by simp [rowT_len]; omega), List.getElem?_eq_none (by simp [rowT_len]; omega)]
theorem rowT_same (v : Nat → V) {i : Nat} (hi : i = 0 ∨ i = 9) (x : V) : rowT (upv v i x) = rowT v := by
  rcases hi with rfl | rfl <;> rfl

/-- The state's cells, and what they show. -/
def cellsS (oT ep : Nat) (s : LS) (v : Nat → V) : List V := [.bool s.closed, .int .i64 s.clock, .int .i64 s.given, v 0, .sl oT ep 0 8, v 9]
structure RS (h : Heap) (oT ep : Nat) (s : LS) (f : Nat → Option Nat) (v : Nat → V) : Prop where
  row : h[oT]? = some (.row 1 (rowT v) ep true)
  sl : ∀ i, i < 10 → SL h (szi i) (v i) (f i) (cont2 s i)
  apart : ∀ i j id, i < 10 → j < 10 → f i = some id → f j = some id → i = j
  ne : ∀ i, i < 10 → f i ≠ some oT

theorem RS.mono {h h' : Heap} {oT ep : Nat} {s : LS} {f : Nat → Option Nat} {v : Nat → V} (r : RS h oT ep s f v) (hh : ∀ j, j < h.length → h'[j]? = h[j]?) : RS h' oT ep s f v :=
  ⟨by rw [hh oT (List.getElem?_eq_some_iff.1 r.row).1]; exact r.row, fun i hi => (r.sl i hi).mono fun id hid => hh id ((r.sl i hi).lt hid), r.apart, r.ne⟩
theorem RS.ext {h : Heap} {oT ep : Nat} {s : LS} {f : Nat → Option Nat} {v : Nat → V} (r : RS h oT ep s f v) (e : Heap) : RS (h ++ e) oT ep s f v :=
  r.mono fun j hj => List.getElem?_append_left hj
theorem RS.set {h : Heap} {oT ep : Nat} {s : LS} {f : Nat → Option Nat} {v : Nat → V} (r : RS h oT ep s f v) {b : Nat} {cs cs' : List V} (hb : h[b]? = some (.cells cs)) : RS (h.set b (.cells cs')) oT ep s f v := by
  have hT : oT ≠ b := fun e => by have := r.row; rw [e, hb] at this; cases this
  exact ⟨by rw [List.getElem?_set_ne hT.symm]; exact r.row, fun i hi => (r.sl i hi).mono fun id hid => by rw [List.getElem?_set_ne (fun e => (r.sl i hi).ne_cells hb (by rw [hid, e]))], r.apart, r.ne⟩
theorem RS.sq {h : Heap} {oT ep : Nat} {s : LS} {f : Nat → Option Nat} {v : Nat → V} (r : RS h oT ep s f v) {i : Nat} (hi : i < 9) : SL h 1 (v i) (f i) ((s.q i).map cI) := by
  have := r.sl i (by omega)
  have hne : ¬ i = 9 := by omega
  simpa only [szi, cont2, if_neg hne] using this
theorem RS.s9 {h : Heap} {oT ep : Nat} {s : LS} {f : Nat → Option Nat} {v : Nat → V} (r : RS h oT ep s f v) : SL h 3 (v 9) (f 9) (s.tm.map cR) := by
  have := r.sl 9 (by omega)
  simpa only [szi, cont2, if_true] using this

/-- One of the lists is another one. -/
theorem RS.upd {h h' : Heap} {oT ep : Nat} {s s' : LS} {f : Nat → Option Nat} {v : Nat → V} (r : RS h oT ep s f v) {i : Nat} (hi : i < 10) {v' : V} {o' : Option Nat}
    (hrow : h'[oT]? = some (.row 1 (rowT (upv v i v')) ep true)) (hs : SL h' (szi i) v' o' (cont2 s' i)) (hc : ∀ k, k < 10 → k ≠ i → cont2 s' k = cont2 s k)
    (hlen : h.length ≤ h'.length) (hrest : ∀ j, j < h.length → j ≠ oT → f i ≠ some j → h'[j]? = h[j]?) (hnew : ∀ id, o' = some id → f i = some id ∨ h.length ≤ id) :
    RS h' oT ep s' (fun k => if k = i then o' else f k) (upv v i v') ∧ ∀ (j : Nat) cs, h[j]? = some (Ob.cells cs) → h'[j]? = some (Ob.cells cs) := by
  have hT := (List.getElem?_eq_some_iff.1 r.row).1
  have hlt : ∀ k, k < 10 → ∀ id, f k = some id → id < h.length := fun k hk id hid => (r.sl k hk).lt hid
  refine ⟨⟨hrow, fun k hk => ?_, fun a b id ha hb hfa hfb => ?_, fun k hk => ?_⟩, fun j cs hj => ?_⟩
  · by_cases e : k = i
    · subst e
      simp only [upv, if_true]
      exact hs
    · simp only [upv, if_neg e, hc k hk e]
      exact (r.sl k hk).mono fun id hid => hrest id (hlt k hk id hid) (fun q => r.ne k hk (by rw [hid, q])) (fun q => e (r.apart k i id hk hi hid q))
  · by_cases ea : a = i
    · by_cases eb : b = i
      · rw [ea, eb]
      · simp only [if_pos ea, if_neg eb] at hfa hfb
        rcases hnew id hfa with q | q
        · exact absurd (r.apart b i id hb hi hfb q) eb
        · have := hlt b hb id hfb; omega
    · by_cases eb : b = i
      · simp only [if_neg ea, if_pos eb] at hfa hfb
        rcases hnew id hfb with q | q
        · exact absurd (r.apart a i id ha hi hfa q) ea
        · have := hlt a ha id hfa; omega
      · simp only [if_neg ea, if_neg eb] at hfa hfb
        exact r.apart a b id ha hb hfa hfb
  · by_cases e : k = i
    · simp only [if_pos e]
      intro ho
      rcases hnew oT ho with q | q
      · exact r.ne i hi q
      · omega
    · simp only [if_neg e]
      exact r.ne k hk
  · have hjl := (List.getElem?_eq_some_iff.1 hj).1
    rw [hrest j hjl (fun e => by rw [e, r.row] at hj; cases hj) ((r.sl i hi).ne_cells hj)]
    exact hj

theorem RS.at' {h : Heap} {oT ep : Nat} {s : LS} {f : Nat → Option Nat} {v : Nat → V} (r : RS h oT ep s f v) {n : Int} (h0 : 0 ≤ n) (h8 : n < 8) :
    iaddrV h 1 (.sl oT ep 0 8) (.int .i64 n) = some (.eptr oT ep n.toNat 0) ∧ cellsAt h (.eptr oT ep n.toNat 0) = some [v (n.toNat + 1)] := by
  have hi : n.toNat < 8 := by omega
  refine ⟨?_, ?_⟩
  · simp [iaddrV, r.row, rowT_len, hi, h0, h8]
  · simp [cellsAt, r.row, rowT_get v hi]
theorem rowT_put {h : Heap} {o ep : Nat} {v : Nat → V} (hr : h[o]? = some (.row 1 (rowT v) ep true)) {i : Nat} (hi : i < 8) {x : V} (h1 : x.isCell = true) (h2 : x.cells = [x]) :
    evStoreV h 1 (.eptr o ep i 0) x = some (V.non, h.set o (.row 1 (rowT (upv v (i + 1) x)) ep true)) := by
  have hs : setRange [v (i + 1)] 0 [x] = some [x] := rfl
  simp only [evStoreV, h2, List.length_singleton, List.all_cons, List.all_nil, h1, Bool.and_self, and_self, if_true, evStore, hr, rowT_get v hi, hs, rowT_set v hi, setOb_eq]

/-- One less. -/
theorem SL.cut {h : Heap} {v : V} {o : Option Nat} {xs : List (List V)} (hs : SL h 3 v o xs) (hlen : xs.length < 2 ^ 40) {i : Nat} (hi : i < xs.length) :
    ∃ va vb v' h', sliceL h 3 v none (some (.int .i64 i)) = some va ∧ sliceL h 3 v (some (.int .i64 (i + 1))) none = some vb ∧ evApp h 3 24 va vb = some (v', h') ∧
      SL h' 3 v' o (xs.take i ++ xs.drop (i + 1)) ∧ h'.length = h.length ∧ ∀ j, o ≠ some j → h'[j]? = h[j]? := by
  rcases hs with ⟨_, rfl, _⟩ | ⟨id, ep, pre, post, rfl, rfl, hr, hp⟩
  · simp at hi
  · have hid : id < h.length := (List.getElem?_eq_some_iff.1 hr).1
    obtain ⟨a, ha⟩ : ∃ a, xs.drop (xs.length - 1) = [a] := by
      have : (xs.drop (xs.length - 1)).length = 1 := by simp; omega
      match xs.drop (xs.length - 1), this with
      | [a], _ => exact ⟨a, rfl⟩
    obtain ⟨ys, hys⟩ : ∃ ys, ys = xs.take i ++ xs.drop (i + 1) := ⟨_, rfl⟩
    have hyl : ys.length = xs.length - 1 := by rw [hys]; simp; omega
    obtain ⟨h1, hh1⟩ : ∃ h1, h1 = h.set id (.row 3 (pre ++ ys ++ [a] ++ post) ep true) := ⟨_, rfl⟩
    have q2 : (i : Int) + 1 ≤ (xs.length : Int) := by omega
    have q3 : (0 : Int) ≤ (i : Int) + 1 := by omega
    have q4 : ((i : Int) + 1).toNat = i + 1 := by omega
    have hrow : pre ++ ys ++ [a] ++ post = (pre ++ xs ++ post).take (pre.length + i) ++ xs.drop (i + 1) ++ (pre ++ xs ++ post).drop (pre.length + i + (xs.length - (i + 1))) := by
      have e1 : (pre ++ xs ++ post).take (pre.length + i) = pre ++ xs.take i := by
        rw [List.append_assoc, List.take_append, List.take_of_length_le (by omega)]
        rw [show pre.length + i - pre.length = i by omega, List.take_append_of_le_length (by omega)]
      have e2 : (pre ++ xs ++ post).drop (pre.length + i + (xs.length - (i + 1))) = xs.drop (xs.length - 1) ++ post := by
        rw [List.append_assoc, List.drop_append, List.drop_eq_nil_of_le (by omega), List.nil_append]
        rw [show pre.length + i + (xs.length - (i + 1)) - pre.length = xs.length - 1 by omega, List.drop_append_of_le_length (by omega)]
      rw [e1, e2, ha, hys]
      simp only [List.append_assoc]
    have hel : elemsOf h (.sl id ep (pre.length + (i + 1)) (xs.length - (i + 1))) = some (xs.drop (i + 1)) := by
      have e3 : ((pre ++ xs ++ post).drop (pre.length + (i + 1))).take (xs.length - (i + 1)) = xs.drop (i + 1) := by
        rw [List.append_assoc, List.drop_append, List.drop_eq_nil_of_le (by omega), List.nil_append]
        rw [show pre.length + (i + 1) - pre.length = i + 1 by omega, List.drop_append_of_le_length (by omega), List.take_append_of_le_length (by simp), List.take_of_length_le (by simp)]
      simp only [elemsOf, hr]
      rw [if_pos ⟨trivial, by simp; omega⟩, e3]
    have hsa : sliceL h 3 (.sl id ep pre.length xs.length) none (some (.int .i64 i)) = some (.sl id ep pre.length i) := by
      have : (i : Int) ≤ ((max xs.length ((pre ++ xs ++ post).length - pre.length) : Nat) : Int) := by omega
      have b1 : bound (.int .i64 i) (max xs.length ((pre ++ xs ++ post).length - pre.length)) = some i := by
        rw [bound, if_pos ⟨by omega, this⟩, Int.toNat_natCast]
      have l1 : lohi xs.length (max xs.length ((pre ++ xs ++ post).length - pre.length)) none (some (.int .i64 i)) = some (0, i) := by simp only [lohi, b1]
      simp only [sliceL, hr, if_pos (And.intro rfl rfl : ep = ep ∧ 3 = 3), l1, Nat.add_zero, Nat.sub_zero]
      rfl
    have hsb : sliceL h 3 (.sl id ep pre.length xs.length) (some (.int .i64 (i + 1))) none = some (.sl id ep (pre.length + (i + 1)) (xs.length - (i + 1))) := by
      simp [sliceL, hr, lohi, bound, q2, q3, q4]
    have happ : evApp h 3 24 (.sl id ep pre.length i) (.sl id ep (pre.length + (i + 1)) (xs.length - (i + 1))) = some (.sl id ep pre.length (xs.length - 1), h1) := by
      by_cases hl : i + 1 = xs.length
      · have hd : xs.drop (i + 1) = [] := List.drop_eq_nil_of_le (by omega)
        rw [hd] at hel
        have hsame : h1 = h := by
          rw [hh1, hrow, hd, List.append_nil]
          have : xs.length - (i + 1) = 0 := by omega
          rw [this, Nat.add_zero, List.take_append_drop]
          apply List.ext_getElem?
          intro j
          by_cases hj : j = id
          · subst hj; rw [List.getElem?_set_self hid, hr]
          · rw [List.getElem?_set_ne (Ne.symm hj)]
        rw [hsame]
        have : i = xs.length - 1 := by omega
        simp only [evApp, hel, hr]
        rw [← this]
      · obtain ⟨y, tl, hyt⟩ : ∃ y tl, xs.drop (i + 1) = y :: tl := by
          match hq : xs.drop (i + 1) with
          | [] => rw [List.drop_eq_nil_iff] at hq; omega
          | y :: tl => exact ⟨y, tl, rfl⟩
        have hyl2 : (y :: tl).length = xs.length - (i + 1) := by rw [← hyt]; simp
        have hsz : szOk 3 (y :: tl) = true := by
          rw [szOk, List.all_eq_true]
          intro e he
          have := (hp e (by rw [← hyt] at he; simp [List.mem_of_mem_drop he])).1
          simpa using this
        rw [hyt] at hel
        have c1 : ¬ (pre.length + i = (pre ++ xs ++ post).length) := by simp; omega
        have c2 : pre.length + i + (y :: tl).length ≤ (pre ++ xs ++ post).length ∧ true = true := ⟨by rw [hyl2]; simp; omega, rfl⟩
        have c3 : (i + (y :: tl).length) * 24 ≤ roomB := by rw [hyl2]; unfold roomB; omega
        simp only [evApp, hel, hr, if_pos (And.intro rfl (And.intro rfl (And.intro c3 hsz)) : ep = ep ∧ 3 = 3 ∧ (i + (y :: tl).length) * 24 ≤ roomB ∧ szOk 3 (y :: tl) = true), if_neg c1, if_pos c2, setOb_eq, fNat_eq]
        rw [hh1, hrow, hyt, hyl2]
        have e4 : i + (xs.length - (i + 1)) = xs.length - 1 := by omega
        rw [e4]
        rw [hyl2, e4] at c3
        rw [hyl2] at c2
        rw [if_pos ⟨trivial, trivial, c3, hsz⟩, if_pos ⟨c2.1, trivial⟩]
    refine ⟨_, _, _, h1, hsa, hsb, happ, .inr ⟨id, ep, pre, [a] ++ post, rfl, by rw [← hys, hyl], by rw [hh1, ← hys, List.getElem?_set_self hid]; simp only [List.append_assoc], fun e he => ?_⟩, by rw [hh1]; simp, fun j hj => ?_⟩
    · rw [← hys] at he
      simp only [List.mem_append, List.mem_singleton] at he
      have hm : ∀ y, y ∈ xs → y ∈ pre ++ xs ++ post := fun y hy => by simp [hy]
      rcases he with (he | he) | (he | he)
      · exact hp e (by simp [he])
      · rw [hys] at he
        rcases List.mem_append.1 he with he | he
        · exact hp e (hm e (List.mem_of_mem_take he))
        · exact hp e (hm e (List.mem_of_mem_drop he))
      · exact hp e (hm e (List.mem_of_mem_drop (i := xs.length - 1) (by rw [ha, he]; simp)))
      · exact hp e (by simp [he])
    · rw [hh1, List.getElem?_set_ne (fun e => hj (by rw [e]))]
end Go.Proofs.Lp

namespace Go.Proofs.Lp
open Go Go.Ev
set_option linter.unusedVariables false
set_option linter.unusedSimpArgs false

/-- A state as it reads, in the heap or by itself. -/
structure Rd (h : Heap) (vM vT vR : V) (s : LS) : Prop where
  m : ∀ h', evLen h' .l vM = some (.int .i64 (s.q 0).length, h')
  t : ∀ h', evLen h' .l vT = some (.int .i64 8, h')
  ti : ∀ e i, i < 8 → ∃ p w, iaddrV (h ++ e) 1 vT (.int .i64 (i : Nat)) = some p ∧ cellsAt (h ++ e) p = some [w] ∧ ∀ h', evLen h' .l w = some (.int .i64 (s.q (i + 1)).length, h')
  r : ∀ h', evLen h' .l vR = some (.int .i64 s.tm.length, h')
  ri : ∀ e (i : Nat) t, s.tm[i]? = some t → ∃ p, iaddrV (h ++ e) 3 vR (.int .i64 i) = some p ∧ cellsAt (h ++ e) p = some (cR t) ∧ ∃ p0, faddrV 0 p = some p0 ∧ cellsAt (h ++ e) p0 = some (cR t)
  c : vM.isCell = true ∧ vM.cells = [vM] ∧ vT.isCell = true ∧ vT.cells = [vT] ∧ vR.isCell = true ∧ vR.cells = [vR]

theorem Rd.ext {h : Heap} {vM vT vR : V} {s : LS} (r : Rd h vM vT vR s) (e : Heap) : Rd (h ++ e) vM vT vR s :=
  ⟨r.m, r.t, fun e' i hi => by rw [List.append_assoc]; exact r.ti _ i hi, r.r, fun e' i t ht => by rw [List.append_assoc]; exact r.ri _ i t ht, r.c⟩

theorem RS.rd {h : Heap} {oT ep : Nat} {s : LS} {f : Nat → Option Nat} {v : Nat → V} (r : RS h oT ep s f v) : Rd h (v 0) (.sl oT ep 0 8) (v 9) s := by
  refine ⟨fun h' => ?_, fun h' => by simp [evLen, lenV, fNat_eq], fun e i hi => ?_, fun h' => ?_, fun e i t ht => ?_, (r.sq (i := 0) (by omega)).cell.1, (r.sq (i := 0) (by omega)).cell.2, rfl, rfl, r.s9.cell.1, r.s9.cell.2⟩
  · have := (r.sq (i := 0) (by omega)).len h'
    rwa [List.length_map] at this
  · have ra := (r.ext e).at' (n := i) (by omega) (by omega)
    rw [Int.toNat_natCast] at ra
    refine ⟨_, _, ra.1, ra.2, fun h' => ?_⟩
    have := (r.sq (i := i + 1) (by omega)).len h'
    rwa [List.length_map] at this
  · have := r.s9.len h'
    rwa [List.length_map] at this
  · obtain ⟨id, ep', k, ha, ho, hcl⟩ := (r.ext e).s9.at (i := i) (e := cR t) (by rw [List.getElem?_map, ht]; rfl)
    exact ⟨_, ha, by simpa using hcl 0, .eptr id ep' k 0, by simp [faddrV], by simpa using hcl 0⟩

def tA (s : LS) : List (List V) := (List.range 8).map fun i => [V.arr ((s.q (i + 1)).map cI)]
/-- The state by itself. -/
def cellsF (s : LS) : List V := [.bool s.closed, .int .i64 s.clock, .int .i64 s.given, .arr ((s.q 0).map cI), .arr (tA s), .arr (s.tm.map cR)]
theorem rd_arr (h : Heap) (s : LS) : Rd h (.arr ((s.q 0).map cI)) (.arr (tA s)) (.arr (s.tm.map cR)) s := by
  refine ⟨fun h' => by simp [evLen, lenV, fNat_eq], fun h' => by simp [evLen, lenV, fNat_eq, tA], fun e i hi => ?_, fun h' => by simp [evLen, lenV, fNat_eq], fun e i t ht => ?_, rfl, rfl, rfl, rfl, rfl, rfl⟩
  · have ha := arr_at (h := h ++ e) (sz := 1) (k := .i64) (xs := tA s) (i := i) (e := [V.arr ((s.q (i + 1)).map cI)]) (by simp [tA, hi]) rfl
    exact ⟨_, _, ha, rfl, fun h' => by simp [evLen, lenV, fNat_eq]⟩
  · have ha := arr_at (h := h ++ e) (sz := 3) (k := .i64) (xs := s.tm.map cR) (i := i) (e := cR t) (by rw [List.getElem?_map, ht]; rfl) rfl
    exact ⟨_, ha, rfl, .iptr (cR t), by simp [faddrV], rfl⟩

set_option maxHeartbeats 4000000 in
set_option maxRecDepth 8000 in
/-- How many tasks. -/
theorem tasks_spec {h : Heap} {vM vT vR : V} {s : LS} (r : Rd h vM vT vR s) (ht : tot s < 2 ^ 40) (a b c : V) (hc : a.isCell = true ∧ b.isCell = true ∧ c.isCell = true) :
    callW Φ ref27_Tasks [.agg [a, b, c, vM, vT, vR]] h = some (.int .i64 (sumq s 8 : Nat), h ++ [Ob.cells [a, b, c, vM, vT, vR]]) := by
  obtain ⟨H, hH⟩ : ∃ H : Heap, H = h ++ [Ob.cells [a, b, c, vM, vT, vR]] := ⟨_, rfl⟩
  have hbx : evBox h [a, b, c, vM, vT, vR] = some (.ptr h.length 0, H) := by
    rw [hH]; simp [evBox, hc.1, hc.2.1, hc.2.2, r.c.1, r.c.2.2.1, r.c.2.2.2.2.1]
  have h4 : cellsAt H (.ptr h.length 4) = some [vT, vR] := by rw [hH]; simp [cellsAt]
  rw [← hH]
  refine callW_rough ref27_Tasks.Φ rfl (body_q (Nat.le_of_ble_eq_true rfl) (fun env he h0 => ?_))
  have g0 := h0 0 (by simp)
  change eget env 0 = .agg [a, b, c, vM, vT, vR] at g0
  clear h0
  simp [ref27_Tasks.c] at he
  simp [ref27_Tasks.c, ref27_Tasks.r0, ref27_Tasks.r1, ref27_Tasks.r2, g0, he, okV, fV_eq, V.cells, hbx, faddrV, h4, ofCells, r.t]
  refine kLoop (fun m st => ∃ i : Nat, m = 8 - i ∧ i ≤ 8 ∧ st.env.length = 19 ∧ eget st.env 7 = vT ∧ eget st.env 8 = .int .i64 8 ∧ eget st.env 9 = .int .i64 i ∧ eget st.env 3 = .int .i64 (sumq s i : Nat) ∧ st.marks = [] ∧ st.heap = H) 8 ⟨0, by simp [he, sumq]⟩ ?_
  rintro m ⟨e, mk, hp⟩ ⟨i, rfl, hi, he, k7, k8, k9, k3, hm, hh⟩
  simp only at he k7 k8 k9 k3 hm hh
  obtain rfl := hm
  obtain rfl := hh
  by_cases hlt : i < 8
  · obtain ⟨p, w, a1, a2, a3⟩ := r.ti [Ob.cells [a, b, c, vM, vT, vR]] i hlt
    rw [← hH] at a1 a2
    have hi8 : (i : Int) < 8 := by omega
    have hw1 : IntKind.i64.wrap ((i : Int) + 1) = ((i + 1 : Nat) : Int) := by rw [Ev.wrap64] <;> omega
    have hle := sumq_le s (i := i + 1) (j := 8) (by omega)
    have hw2 : IntKind.i64.wrap (((sumq s i : Nat) : Int) + ((s.q (i + 1)).length : Int)) = ((sumq s (i + 1) : Nat) : Int) := by
      have e1 : sumq s (i + 1) = sumq s i + (s.q (i + 1)).length := rfl
      unfold tot at ht
      rw [Ev.wrap64] <;> omega
    simp [ref27_Tasks.b7, ref27_Tasks.r3, ref27_Tasks.r4, ref27_Tasks.r5, ref27_Tasks.r6, k3, k7, k8, k9, he, okV, fV_eq, hi8, a1, a2, a3, ofCells]
    exact ⟨8 - (i + 1), by omega, i + 1, rfl, by omega, by simpa using hw1, by simpa using hw2⟩
  · have h8 : i = 8 := by omega
    subst h8
    simp [ref27_Tasks.b7, ref27_Tasks.r3, ref27_Tasks.r8, k3, k7, k8, k9, he, okV, fV_eq]
end Go.Proofs.Lp

namespace Go.Proofs.Lp
open Go Go.Ev
set_option linter.unusedVariables false
set_option linter.unusedSimpArgs false

theorem faddr_ptr (n id o : Nat) : faddrV n (.ptr id o) = some (.ptr id (o + n)) := rfl
/-- The first one of those that come first, of the first so many. -/
def soon (l : List Tm) : Nat → Option Nat
  | 0 => none
  | i + 1 =>
    match l[i]?, soon l i with
    | none, r => r
    | some t, none => some i
    | some t, some k =>
      match l[k]? with
      | none => some k
      | some u => if t.due < u.due then some i else some k
theorem soon_lt {l : List Tm} : ∀ {i k : Nat}, soon l i = some k → k < i ∧ k < l.length
  | 0, k, h => by cases h
  | i + 1, k, h => by
    simp only [soon] at h
    split at h
    · have := soon_lt h; omega
    · rename_i ht _
      cases h
      exact ⟨by omega, (List.getElem?_eq_some_iff.1 ht).1⟩
    · rename_i t k' ht hk
      have := soon_lt hk
      split at h
      · cases h; omega
      · split at h
        · cases h
          exact ⟨by omega, (List.getElem?_eq_some_iff.1 ht).1⟩
        · cases h; omega
def soonI (o : Option Nat) : Int :=
  match o with
  | some k => k
  | none => -1

set_option maxHeartbeats 8000000 in
set_option maxRecDepth 8000 in
theorem soonest_spec {h : Heap} {vM vT vR : V} {s : LS} (r : Rd h vM vT vR s) (ht : tot s < 2 ^ 40) (a b c : V) (hc : a.isCell = true ∧ b.isCell = true ∧ c.isCell = true) :
    ∃ e, callW Φ ref27_Soonest [.agg [a, b, c, vM, vT, vR]] h = some (.int .i64 (soonI (soon s.tm s.tm.length)), h ++ e) := by
  obtain ⟨P, hP⟩ : ∃ P : V → Heap → Prop, P = fun x h' => x = .int .i64 (soonI (soon s.tm s.tm.length)) ∧ ∃ e, h' = h ++ e := ⟨_, rfl⟩
  suffices hgo : ∃ x h', callW Φ ref27_Soonest [.agg [a, b, c, vM, vT, vR]] h = some (x, h') ∧ P x h' by
    obtain ⟨x, h', h1, h2⟩ := hgo
    rw [hP] at h2
    obtain ⟨rfl, e, rfl⟩ := h2
    exact ⟨e, h1⟩
  have hlen : s.tm.length < 2 ^ 40 := by unfold tot at ht; omega
  obtain ⟨H, hH⟩ : ∃ H : Heap, H = h ++ [Ob.cells [a, b, c, vM, vT, vR]] := ⟨_, rfl⟩
  have hbx : evBox h [a, b, c, vM, vT, vR] = some (.ptr h.length 0, H) := by
    rw [hH]; simp [evBox, hc.1, hc.2.1, hc.2.2, r.c.1, r.c.2.2.1, r.c.2.2.2.2.1]
  have h5 : ∀ e, cellsAt (H ++ e) (.ptr h.length 5) = some [vR] := fun e => by rw [hH]; simp [cellsAt]
  have h50 := h5 []
  rw [List.append_nil] at h50
  have rH : Rd H vM vT vR s := by rw [hH]; exact r.ext _
  refine call_x ref27_Soonest.Φ rfl (Nat.le_of_ble_eq_true rfl) (fun env he g => ?_)
  have g0 := g 0 (by simp)
  change eget env 0 = .agg [a, b, c, vM, vT, vR] at g0
  clear g
  simp [ref27_Soonest.c] at he
  simp [ref27_Soonest.c, ref27_Soonest.r0, ref27_Soonest.r1, ref27_Soonest.r2, g0, he, okV, fV_eq, V.cells, hbx, faddrV, h50, ofCells, r.r]
  refine kLoop (fun m st => ∃ i : Nat, m = s.tm.length - i ∧ i ≤ s.tm.length ∧ st.env.length = 30 ∧ eget st.env 1 = .ptr h.length 0 ∧ eget st.env 7 = vR ∧ eget st.env 8 = .int .i64 s.tm.length ∧ eget st.env 9 = .int .i64 i ∧ eget st.env 3 = .int .i64 (soonI (soon s.tm i)) ∧ st.marks = [] ∧ ∃ e, st.heap = H ++ e) s.tm.length ⟨0, by simp [he, soon, soonI]⟩ ?_
  rintro m ⟨e, mk, hp⟩ ⟨i, rfl, hi, he, k1, k7, k8, k9, k3, hm, E, hh⟩
  simp only at he k1 k7 k8 k9 k3 hm hh
  obtain rfl := hm
  by_cases hlt : i < s.tm.length
  · obtain ⟨t, ht'⟩ : ∃ t, s.tm[i]? = some t := ⟨_, List.getElem?_eq_getElem hlt⟩
    obtain ⟨p, a1, a2, p0, a3, a4⟩ := rH.ri E i t ht'
    rw [← hh] at a1 a2 a4
    have hi1 : (i : Int) < (s.tm.length : Int) := by omega
    have hw1 : IntKind.i64.wrap ((i : Int) + 1) = ((i + 1 : Nat) : Int) := by rw [Ev.wrap64] <;> omega
    obtain ⟨H2, hH2⟩ : ∃ H2 : Heap, H2 = hp ++ [Ob.cells (cR t)] := ⟨_, rfl⟩
    have hst : evStoreV (hp ++ [Ob.cells [.int .i64 0, .int .i64 0, .int .i64 0]]) 3 (.ptr hp.length 0) (.agg (cR t)) = some (V.non, H2) := by
      rw [hH2]; simp [evStoreV, evStore, V.cells, V.isCell, setRange, cR]
    have c0 : cellsAt H2 (.ptr hp.length 0) = some (cR t) := by rw [hH2]; simp [cellsAt]
    have hE2 : H2 = H ++ (E ++ [Ob.cells (cR t)]) := by rw [hH2, hh, List.append_assoc]
    have c5 : cellsAt H2 (.ptr h.length 5) = some [vR] := by rw [hE2]; exact h5 _
    simp only [cR] at hst c0 a2
    cases hso : soon s.tm i with
    | none =>
      have hn : soon s.tm (i + 1) = some i := by simp [soon, ht', hso]
      rw [hso] at k3
      simp only [soonI] at k3
      simp [ref27_Soonest.b8, ref27_Soonest.r3, ref27_Soonest.r4, k1, k3, k7, k8, k9, he, okV, fV_eq, hi1, hlt, a1, a2, hst, ofCells]
      refine kDraw1 ref27_Soonest.r5.ord ?_
      simp [ref27_Soonest.r5, ref27_Soonest.r6, ref27_Soonest.r7, List.filterMap_cons, k1, k3, k7, k8, k9, he, okV, fV_eq, evPick]
      exact ⟨s.tm.length - (i + 1), by omega, i + 1, rfl, by omega, by simpa using hw1, by rw [hn]; rfl, _, hE2⟩
    | some k =>
      obtain ⟨hki, hkl⟩ := soon_lt hso
      obtain ⟨u, hu⟩ : ∃ u, s.tm[k]? = some u := ⟨_, List.getElem?_eq_getElem hkl⟩
      obtain ⟨p2, b1, b2, p3, b3, b4⟩ := rH.ri (E ++ [Ob.cells (cR t)]) k u hu
      rw [← hE2] at b1 b2 b4
      have hk0 : ¬ ((k : Int) < 0) := by omega
      have hn : soon s.tm (i + 1) = if t.due < u.due then some i else some k := by simp [soon, ht', hso, hu]
      rw [hso] at k3
      simp only [soonI] at k3
      simp only [cR] at b4
      simp [ref27_Soonest.b8, ref27_Soonest.r3, ref27_Soonest.r4, k1, k3, k7, k8, k9, he, okV, fV_eq, hi1, hlt, a1, a2, hst, ofCells]
      refine kDraw1 ref27_Soonest.r5.ord ?_
      by_cases hd : t.due < u.due
      · rw [if_pos hd] at hn
        simp [ref27_Soonest.r5, ref27_Soonest.r6, ref27_Soonest.r7, List.filterMap_cons, k1, k3, k7, k8, k9, he, okV, fV_eq, evPick, hk0, faddr_ptr, c0, c5, b1, b3, b4, hd, ofCells]
        exact ⟨s.tm.length - (i + 1), by omega, i + 1, rfl, by omega, by simpa using hw1, by rw [hn]; rfl, _, hE2⟩
      · rw [if_neg hd] at hn
        simp [ref27_Soonest.r5, ref27_Soonest.r6, ref27_Soonest.r7, List.filterMap_cons, k1, k3, k7, k8, k9, he, okV, fV_eq, evPick, hk0, faddr_ptr, c0, c5, b1, b3, b4, hd, ofCells]
        exact ⟨s.tm.length - (i + 1), by omega, i + 1, rfl, by omega, by simpa using hw1, by rw [hn]; rfl, _, hE2⟩
  · have h8 : i = s.tm.length := by omega
    subst h8
    simp [ref27_Soonest.b8, ref27_Soonest.r3, ref27_Soonest.r9, k3, k7, k8, k9, he, okV, fV_eq]
    rw [hP]
    refine ⟨rfl, [Ob.cells [a, b, c, vM, vT, vR]] ++ E, ?_⟩
    rw [hh, hH, List.append_assoc]
end Go.Proofs.Lp

namespace Go.Proofs.Lp
open Go Go.Ev
set_option linter.unusedVariables false
set_option linter.unusedSimpArgs false

set_option maxHeartbeats 8000000 in
set_option maxRecDepth 8000 in
theorem full_spec {h : Heap} {vM vT vR : V} {s : LS} (r : Rd h vM vT vR s) (ht : tot s < 2 ^ 40) (a b c : V) (hc : a.isCell = true ∧ b.isCell = true ∧ c.isCell = true) :
    ∃ e, callW Φ ref27_full [.agg [a, b, c, vM, vT, vR]] h = some (.bool (decide (4096 ≤ tot s)), h ++ e) := by
  obtain ⟨P, hP⟩ : ∃ P : V → Heap → Prop, P = fun x h' => x = .bool (decide (4096 ≤ tot s)) ∧ ∃ e, h' = h ++ e := ⟨_, rfl⟩
  suffices hgo : ∃ x h', callW Φ ref27_full [.agg [a, b, c, vM, vT, vR]] h = some (x, h') ∧ P x h' by
    obtain ⟨x, h', h1, h2⟩ := hgo
    rw [hP] at h2
    obtain ⟨rfl, e, rfl⟩ := h2
    exact ⟨e, h1⟩
  obtain ⟨H, hH⟩ : ∃ H : Heap, H = h ++ [Ob.cells [a, b, c, vM, vT, vR]] := ⟨_, rfl⟩
  have hbx : evBox h [a, b, c, vM, vT, vR] = some (.ptr h.length 0, H) := by
    rw [hH]; simp [evBox, hc.1, hc.2.1, hc.2.2, r.c.1, r.c.2.2.1, r.c.2.2.2.2.1]
  have hp : ∀ e k, cellsAt (H ++ e) (.ptr h.length k) = some ([a, b, c, vM, vT, vR].drop k) := fun e k => by rw [hH]; simp [cellsAt]
  have rH : Rd H vM vT vR s := by rw [hH]; exact r.ext _
  have hct := tasks_spec rH ht a b c hc
  obtain ⟨H2, hH2⟩ : ∃ H2 : Heap, H2 = H ++ [Ob.cells [a, b, c, vM, vT, vR]] := ⟨_, rfl⟩
  have p0 := hp [] 0
  have p3 := hp [] 3
  have p5 := hp [] 5
  have q3 := hp [Ob.cells [a, b, c, vM, vT, vR]] 3
  have q5 := hp [Ob.cells [a, b, c, vM, vT, vR]] 5
  rw [← hH2] at hct q3 q5
  simp only [List.append_nil, List.drop_zero, List.drop_succ_cons] at p0 p3 p5 q3 q5
  have e1 : IntKind.i64.wrap (((sumq s 8 : Nat) : Int) + ((s.q 0).length : Int)) = ((sumq s 8 + (s.q 0).length : Nat) : Int) := by unfold tot at ht; rw [Ev.wrap64] <;> omega
  have e2 : IntKind.i64.wrap (((sumq s 8 + (s.q 0).length : Nat) : Int) + (s.tm.length : Int)) = ((tot s : Nat) : Int) := by unfold tot at ht ⊢; rw [Ev.wrap64] <;> omega
  obtain ⟨A, hA⟩ : ∃ A : Int, A = ((sumq s 8 + (s.q 0).length : Nat) : Int) := ⟨_, rfl⟩
  rw [← hA] at e1 e2
  have e3 : (decide ((tot s : Int) ≥ 4096)) = decide (4096 ≤ tot s) := by
    by_cases h4 : 4096 ≤ tot s
    · rw [decide_eq_true h4, decide_eq_true (by omega)]
    · rw [decide_eq_false h4, decide_eq_false (by omega)]
  obtain ⟨T, hT⟩ : ∃ T : Nat, T = tot s := ⟨_, rfl⟩
  have hPT : P (.bool (decide (4096 ≤ tot s))) H2 := by
    rw [hP]
    exact ⟨rfl, [Ob.cells [a, b, c, vM, vT, vR], Ob.cells [a, b, c, vM, vT, vR]], by rw [hH2, hH, List.append_assoc]; rfl⟩
  rw [← hT] at e2 e3 hPT
  have key : ∀ env : List V, env.length = 14 → eget env 1 = .ptr h.length 0 →
      WK (callW Φ) none (FinX [.tmp 2] P) [.c (fst (snd ref27_full.c.body)), .c .ret] { env := env, marks := [], heap := H } := by
    intro env he g1
    simp only [fst, snd, ref27_full.c]
    refine kDraw2 ref27_full.r1.ord ?_
    simp (config := { maxSteps := 5000000 }) [ref27_full.r1, List.filterMap_cons, g1, he, okV, fV_eq, faddr_ptr, p0, p3, p5, q3, q5, hct, r.m, r.r, e1, e2, ofCells]
    refine ⟨?_, ?_⟩
    · repeat' apply And.intro
      all_goals
        simp only [set_puts, puts_puts, List.cons_append, List.nil_append]
        exact puts_ext _ rfl rfl rfl rfl
    · have e4 : decide ((4096 : Int) ≤ (T : Int)) = decide (4096 ≤ T) := e3
      rw [e4]
      exact hPT
  refine call_x ref27_full.Φ rfl (Nat.le_of_ble_eq_true rfl) (fun env he g => ?_)
  have g0 := g 0 (by simp)
  change eget env 0 = .agg [a, b, c, vM, vT, vR] at g0
  clear g
  simp [ref27_full.c] at he
  simp [ref27_full.c, ref27_full.r0, g0, he, okV, fV_eq, V.cells, hbx]
  exact key _ (by simp [he]) (by simp [he])

theorem wait_spec (ms level : Int) (h : Heap) : callW Φ ref27_wait [.int .i64 ms, .int .i64 level] h = some (.int .i64 (waitV ms level), h) := by
  have hb : evBodyW (callW Φ) ref27_wait.c [.int .i64 ms, .int .i64 level] [] = some (.int .i64 (waitV ms level), []) := by
    refine body_q (Nat.le_of_ble_eq_true rfl) (fun env he g => ?_)
    have g0 := g 0 (by simp)
    have g1 := g 1 (by simp)
    change eget env 0 = .int .i64 ms at g0
    change eget env 1 = .int .i64 level at g1
    clear g
    simp [ref27_wait.c] at he
    by_cases h5 : level > 5
    · by_cases h4 : ms < 4
      · have hv : waitV ms level = 4 := by unfold waitV; rw [if_pos h5]; omega
        rw [hv]
        simp [ref27_wait.c, ref27_wait.r0, ref27_wait.r1, ref27_wait.r2, g0, g1, he, okV, fV_eq, evPick, h5, h4]
      · have hv : waitV ms level = ms := by unfold waitV; rw [if_pos h5]; omega
        rw [hv]
        have h0 : ¬ ms < 0 := by omega
        simp [ref27_wait.c, ref27_wait.r0, ref27_wait.r1, ref27_wait.r3, ref27_wait.r5, g0, g1, he, okV, fV_eq, evPick, h5, h4, h0]
    · by_cases h0 : ms < 0
      · have hv : waitV ms level = 0 := by unfold waitV; rw [if_neg h5]; omega
        rw [hv]
        simp [ref27_wait.c, ref27_wait.r0, ref27_wait.r1, ref27_wait.r3, ref27_wait.r4, g0, g1, he, okV, fV_eq, evPick, h5, h0]
      · have hv : waitV ms level = ms := by unfold waitV; rw [if_neg h5]; omega
        rw [hv]
        simp [ref27_wait.c, ref27_wait.r0, ref27_wait.r1, ref27_wait.r3, ref27_wait.r5, g0, g1, he, okV, fV_eq, evPick, h5, h0]
  exact callW_flat (args := [.int .i64 ms, .int .i64 level]) ref27_wait.Φ rfl rfl hb rfl
end Go.Proofs.Lp

namespace Go.Proofs.Lp
open Go Go.Ev
set_option linter.unusedVariables false
set_option linter.unusedSimpArgs false

/-- A copy of what is shown by itself. -/
theorem copyF {h : Heap} {sz bytes : Nat} {xs : List (List V)} (hp : plain sz xs) (hroom : xs.length * bytes ≤ roomB) :
    ∃ v' h', evApp (h ++ [.row sz [] 0 true]) sz bytes (.sl h.length 0 0 0) (.arr xs) = some (v', h') ∧ SL h' sz v' (some h.length) xs ∧ h.length ≤ h'.length ∧ h'.length = h.length + 1 ∧ ∀ j, j < h.length → h'[j]? = h[j]? := by
  have hr : (h ++ [Ob.row sz [] 0 true])[h.length]? = some (.row sz [] 0 true) := by simp
  have hel : elemsOf (h ++ [Ob.row sz [] 0 true]) (.arr xs) = some xs := rfl
  cases xs with
  | nil => exact ⟨.sl h.length 0 0 0, h ++ [.row sz [] 0 true], by simp only [evApp, hel, hr], .inr ⟨h.length, 0, [], [], rfl, rfl, by simp, fun e he => by cases he⟩, by simp, by simp, fun j hj => by rw [List.getElem?_append_left hj]⟩
  | cons x xs =>
    have hsz : szOk sz (x :: xs) = true := by
      rw [szOk, List.all_eq_true]
      intro e he
      simpa using (hp e he).1
    refine ⟨.sl h.length 1 0 (x :: xs).length, h ++ [.row sz (x :: xs) 1 true], ?_, .inr ⟨h.length, 1, [], [], rfl, rfl, by simp, by simpa using hp⟩, by simp, by simp, fun j hj => by rw [List.getElem?_append_left hj]⟩
    simp only [List.length_cons] at hroom
    simp [evApp, hel, hr, hroom, hsz, fNat_eq, setOb_eq]

theorem plain_I (l : List Int) : plain 1 (l.map cI) := fun e he => by
  obtain ⟨n, _, rfl⟩ := List.mem_map.1 he
  exact ⟨rfl, rfl, rfl⟩
theorem plain_R (l : List Tm) : plain 3 (l.map cR) := fun e he => by
  obtain ⟨n, _, rfl⟩ := List.mem_map.1 he
  exact ⟨rfl, rfl, rfl⟩

/-- So many of the sources' lists are copied. -/
structure CpS (h : Heap) (i : Nat) (s : LS) (oT : Nat) (t3 : V) (f : Nat → Option Nat) (v : Nat → V) : Prop where
  t0 : i = 0 → t3 = .nils
  t1 : 0 < i → t3 = .sl oT (i - 1) 0 i ∧ h[oT]? = some (.row 1 ((List.range i).map fun k => [v (k + 1)]) (i - 1) true)
  sl : ∀ k, k < 10 → k ≤ i ∨ k = 9 → SL h (szi k) (v k) (f k) (cont2 s k)
  fn : ∀ k, k < 10 → ¬ (k ≤ i ∨ k = 9) → f k = none
  apart : ∀ a b id, a < 10 → b < 10 → f a = some id → f b = some id → a = b
  ne : 0 < i → ∀ k, k < 10 → f k ≠ some oT

theorem evApp_nils1 {h : Heap} {w : V} {b : Nat} (hb : h[b]? = some (.row 1 [[w]] 0 true)) : evApp h 1 24 .nils (.sl b 0 0 1) = some (.sl h.length 0 0 1, h ++ [.row 1 [[w]] 0 true]) := by
  simp [evApp, elemsOf, hb, szOk, roomB, fNat_eq, newOb]
theorem evApp_row1 {h : Heap} {w : V} {b o ep n : Nat} {xs : List (List V)} (ho : h[o]? = some (.row 1 xs ep true)) (hn : xs.length = n) (hn8 : n < 100) (hb : h[b]? = some (.row 1 [[w]] 0 true)) :
    evApp h 1 24 (.sl o ep 0 n) (.sl b 0 0 1) = some (.sl o (ep + 1) 0 (n + 1), h.set o (.row 1 (xs ++ [[w]]) (ep + 1) true)) := by
  have hr : (n + 1) * 24 ≤ roomB := by unfold roomB; omega
  subst hn
  simp [evApp, elemsOf, ho, hb, szOk, hr, fNat_eq, setOb_eq]

set_option maxHeartbeats 8000000 in
theorem CpS.step {h : Heap} {i : Nat} {s : LS} {oT : Nat} {t3 : V} {f : Nat → Option Nat} {v : Nat → V} (c : CpS h i s oT t3 f v) (hi : i < 8) (hlen : (s.q (i + 1)).length < 2 ^ 40) :
    ∃ w h2 b h3 t3' h4 oT' f' v', evBslice h [.int .i64 0] 0 1 [] = some (.sl h.length 0 0 0, h ++ [Ob.row 1 [] 0 true]) ∧
      evApp (h ++ [Ob.row 1 [] 0 true]) 1 8 (.sl h.length 0 0 0) (.arr ((s.q (i + 1)).map cI)) = some (w, h2) ∧
      evBslice h2 [.nils] 1 1 [(0, w)] = some (.sl b 0 0 1, h3) ∧ evApp h3 1 24 t3 (.sl b 0 0 1) = some (t3', h4) ∧ CpS h4 (i + 1) s oT' t3' f' v' ∧
      v' 0 = v 0 ∧ v' 9 = v 9 ∧ ∀ (j : Nat) cs, h[j]? = some (Ob.cells cs) → h4[j]? = some (Ob.cells cs) := by
  obtain ⟨w, h2, a1, sw, l2, l2', k2⟩ := copyF (h := h) (bytes := 8) (plain_I (s.q (i + 1))) (by rw [List.length_map]; unfold roomB; omega)
  have hb1 : evBslice h [.int .i64 0] 0 1 [] = some (.sl h.length 0 0 0, h ++ [Ob.row 1 [] 0 true]) := by
    simp [evBslice, placeParts, V.cells, V.isCell, setRange, chunks]
  have hb2 : evBslice h2 [.nils] 1 1 [(0, w)] = some (.sl h2.length 0 0 1, h2 ++ [Ob.row 1 [[w]] 0 true]) := by
    simp [evBslice, placeParts, sw.cell.1, sw.cell.2, setRange, chunks]
  have e3 : (h2 ++ [Ob.row 1 [[w]] 0 true])[h2.length]? = some (.row 1 [[w]] 0 true) := by simp
  have l3 : (h2 ++ [Ob.row 1 [[w]] 0 true]).length = h2.length + 1 := by simp
  have k3 : ∀ j, j < h.length → (h2 ++ [Ob.row 1 [[w]] 0 true])[j]? = h[j]? := fun j hj => by rw [List.getElem?_append_left (by omega), k2 j hj]
  have keepSL : ∀ {h4 : Heap} {sz x o xs}, (∀ j, j < h2.length → j ≠ oT ∨ i = 0 → h4[j]? = (h2 ++ [Ob.row 1 [[w]] 0 true])[j]?) → SL h sz x o xs → (0 < i → o ≠ some oT) → SL h4 sz x o xs := fun hk sx hn => sx.mono fun id hid => by
    have := sx.lt hid
    rw [hk id (by omega) (by by_cases e : i = 0; exact .inr e; exact .inl fun q => hn (by omega) (by rw [hid, q])), k3 id this]
  have main : ∀ {h4 : Heap} {t3' : V} {oT' : Nat}, (t3' = .sl oT' i 0 (i + 1)) → h4[oT']? = some (.row 1 ((List.range (i + 1)).map fun k => [upv v (i + 1) w (k + 1)]) i true) → (0 < i → oT' = oT) → (i = 0 → h2.length ≤ oT') →
      (∀ j, j < h2.length → j ≠ oT ∨ i = 0 → h4[j]? = (h2 ++ [Ob.row 1 [[w]] 0 true])[j]?) →
      CpS h4 (i + 1) s oT' t3' (fun k => if k = i + 1 then some h.length else f k) (upv v (i + 1) w) := by
    intro h4 t3' oT' ht hrow hn1 hn0 hk
    refine ⟨fun h => by omega, fun _ => ⟨by rw [ht]; rfl, hrow⟩, fun k hk10 hki => ?_, fun k hk10 hki => ?_, fun a b id ha hb hfa hfb => ?_, fun _ k hk10 => ?_⟩
    · by_cases e : k = i + 1
      · subst e
        have h9 : ¬ (i + 1 = 9) := by omega
        simp only [upv, if_true, szi, cont2, if_neg h9]
        exact sw.mono fun id hid => by
          cases hid
          have hTl : 0 < i → oT < h.length := fun h0 => (List.getElem?_eq_some_iff.1 (c.t1 h0).2).1
          rw [hk h.length (by omega) (by by_cases e : i = 0; exact .inr e; exact .inl (by have := hTl (by omega); omega)), List.getElem?_append_left (by omega)]
      · simp only [upv, if_neg e]
        exact keepSL hk (c.sl k hk10 (by omega)) (fun h0 => c.ne h0 k hk10)
    · have e : ¬ k = i + 1 := by omega
      simp only [if_neg e]
      exact c.fn k hk10 (by omega)
    · have lt : ∀ k, k < 10 → ∀ id, f k = some id → id < h.length := fun k hk id hid => by
        by_cases hki : k ≤ i ∨ k = 9
        · exact (c.sl k hk hki).lt hid
        · rw [c.fn k hk hki] at hid; cases hid
      by_cases ea : a = i + 1
      · by_cases eb : b = i + 1
        · omega
        · simp only [if_pos ea, if_neg eb] at hfa hfb
          cases hfa
          have := lt b hb _ hfb; omega
      · by_cases eb : b = i + 1
        · simp only [if_neg ea, if_pos eb] at hfa hfb
          cases hfb
          have := lt a ha _ hfa; omega
        · simp only [if_neg ea, if_neg eb] at hfa hfb
          exact c.apart a b id ha hb hfa hfb
    · have lt : ∀ k, k < 10 → ∀ id, f k = some id → id < h.length := fun k hk id hid => by
        by_cases hki : k ≤ i ∨ k = 9
        · exact (c.sl k hk hki).lt hid
        · rw [c.fn k hk hki] at hid; cases hid
      by_cases e : k = i + 1
      · simp only [if_pos e]
        intro q
        cases q
        by_cases e0 : i = 0
        · have := hn0 e0; omega
        · have := (List.getElem?_eq_some_iff.1 (c.t1 (by omega)).2).1
          have := hn1 (by omega); omega
      · simp only [if_neg e]
        intro q
        by_cases e0 : i = 0
        · have := hn0 e0
          have := lt k hk10 _ q; omega
        · rw [hn1 (by omega)] at q
          exact c.ne (by omega) k hk10 q
  by_cases e0 : i = 0
  · subst e0
    have happ := evApp_nils1 e3
    rw [← c.t0 rfl] at happ
    refine ⟨w, h2, h2.length, _, _, _, (h2 ++ [Ob.row 1 [[w]] 0 true]).length, _, _, hb1, a1, hb2, happ, main rfl ?_ (fun h => by omega) (fun _ => by omega) (fun j hj _ => by rw [List.getElem?_append_left (by omega)]), rfl, rfl, fun j cs hj => ?_⟩
    · rw [List.getElem?_append_right (Nat.le_refl _), Nat.sub_self]
      rfl
    · have hjl := (List.getElem?_eq_some_iff.1 hj).1
      rw [List.getElem?_append_left (by omega), k3 j hjl]
      exact hj
  · obtain ⟨ht, hrow⟩ := c.t1 (by omega)
    have hTl := (List.getElem?_eq_some_iff.1 hrow).1
    have hrow3 : (h2 ++ [Ob.row 1 [[w]] 0 true])[oT]? = some (.row 1 ((List.range i).map fun k => [v (k + 1)]) (i - 1) true) := by rw [k3 oT hTl]; exact hrow
    have happ := evApp_row1 (n := i) hrow3 (by simp) (by omega) e3
    have ei : i - 1 + 1 = i := by omega
    rw [ei, ← ht] at happ
    refine ⟨w, h2, h2.length, _, _, _, oT, _, _, hb1, a1, hb2, happ, main rfl ?_ (fun _ => rfl) (fun h => by omega) (fun j hj hne => ?_), ?_, ?_, fun j cs hj => ?_⟩
    · rw [List.getElem?_set_self (by omega)]
      congr 2
      rw [List.range_succ, List.map_append]
      congr 1
      · apply List.map_congr_left
        intro k hk
        have : k < i := by simpa using hk
        have : ¬ k = i := by omega
        simp [upv, this]
      · simp [upv]
    · rcases hne with h | h
      · rw [List.getElem?_set_ne (fun e => h e.symm)]
      · omega
    · have : ¬ 0 = i + 1 := by omega
      simp [upv]
    · have : ¬ 9 = i + 1 := by omega
      simp [upv, this]
    · have hjl := (List.getElem?_eq_some_iff.1 hj).1
      rw [List.getElem?_set_ne (fun e => by rw [← e, hrow] at hj; cases hj), k3 j hjl]
      exact hj
end Go.Proofs.Lp

namespace Go.Proofs.Lp
open Go Go.Ev
set_option linter.unusedVariables false
set_option linter.unusedSimpArgs false

/-- Cells stay cells. -/
def Kc (h h' : Heap) : Prop := ∀ (j : Nat) cs, h[j]? = some (Ob.cells cs) → h'[j]? = some (Ob.cells cs)
theorem Kc.trans {a b c : Heap} (h1 : Kc a b) (h2 : Kc b c) : Kc a c := fun j cs h => h2 j cs (h1 j cs h)
theorem Kc.ext (h e : Heap) : Kc h (h ++ e) := fun j cs hj => by rw [List.getElem?_append_left (List.getElem?_eq_some_iff.1 hj).1]; exact hj
theorem Kc.refl (h : Heap) : Kc h h := fun _ _ q => q
theorem Kc.of {h h' : Heap} (k : ∀ j, j < h.length → h'[j]? = h[j]?) : Kc h h' := fun j cs hj => by rw [k j (List.getElem?_eq_some_iff.1 hj).1]; exact hj
/-- A cell of one's own is written. -/
theorem Kc.set {h h1 : Heap} (k : Kc h h1) {b : Nat} (hb : h.length ≤ b) (o : Ob) : Kc h (h1.set b o) := fun j cs hj => by
  have := (List.getElem?_eq_some_iff.1 hj).1
  rw [List.getElem?_set_ne (by omega)]
  exact k j cs hj

theorem store6 {h : Heap} {b : Nat} {cs ds : List V} (hb : h[b]? = some (.cells cs)) (hl : cs.length = ds.length) (hc : ds.all V.isCell = true) : evStoreV h ds.length (.ptr b 0) (.agg ds) = some (V.non, h.set b (.cells ds)) := by
  have hs : setRange cs 0 ds = some ds := by
    unfold setRange
    rw [if_pos (by omega), Nat.zero_add, List.drop_eq_nil_of_le (by omega)]
    simp
  simp only [evStoreV, V.cells, hc, and_self, if_true, evStore, hb, hs, setOb_eq]

theorem pt_at {h : Heap} {a : Nat} {cs : List V} (ha : h[a]? = some (.cells cs)) (off : Nat) : cellsAt h (.ptr a off) = some (cs.drop off) := by simp [cellsAt, ha]
theorem isB (b : Bool) : V.isCell (.bool b) = true := rfl
theorem isI (k : IntKind) (n : Int) : V.isCell (.int k n) = true := rfl
theorem isL (a b c d : Nat) : V.isCell (.sl a b c d) = true := rfl
theorem isA (xs : List (List V)) : V.isCell (.arr xs) = true := rfl
theorem cellsS_cell {h : Heap} {oT ep : Nat} {s : LS} {f : Nat → Option Nat} {v : Nat → V} (r : RS h oT ep s f v) (t : LS) (oT' ep' : Nat) : (cellsS oT' ep' t v).all V.isCell = true := by
  simp [cellsS, isB, isI, isL, (r.sq (i := 0) (by omega)).cell.1, r.s9.cell.1]

theorem CpS.set {h : Heap} {i : Nat} {s : LS} {oT : Nat} {t3 : V} {f : Nat → Option Nat} {v : Nat → V} (c : CpS h i s oT t3 f v) {b : Nat} {cs cs' : List V} (hb : h[b]? = some (.cells cs)) : CpS (h.set b (.cells cs')) i s oT t3 f v := by
  refine ⟨c.t0, fun h0 => ?_, fun k hk hki => (c.sl k hk hki).mono fun id hid => by rw [List.getElem?_set_ne (fun e => (c.sl k hk hki).ne_cells hb (by rw [hid, e]))], c.fn, c.apart, c.ne⟩
  obtain ⟨h1, h2⟩ := c.t1 h0
  exact ⟨h1, by rw [List.getElem?_set_ne (fun e => by rw [← e, hb] at h2; cases h2)]; exact h2⟩

set_option maxHeartbeats 8000000 in
set_option maxRecDepth 8000 in
theorem copy_spec (h : Heap) (s : LS) (ht : tot s < 2 ^ 40) :
    ∃ h' oT ep f v, callW Φ ref27_Copy [.agg (cellsF s)] h = some (.agg (cellsS oT ep s v), h') ∧ RS h' oT ep s f v ∧ Kc h h' := by
  obtain ⟨P, hP⟩ : ∃ P : V → Heap → Prop, P = fun x h' => ∃ oT ep f v, x = .agg (cellsS oT ep s v) ∧ RS h' oT ep s f v ∧ Kc h h' := ⟨_, rfl⟩
  suffices hgo : ∃ x h', callW Φ ref27_Copy [.agg (cellsF s)] h = some (x, h') ∧ P x h' by
    obtain ⟨x, h', h1, h2⟩ := hgo
    rw [hP] at h2
    obtain ⟨oT, ep, f, v, rfl, h2⟩ := h2
    exact ⟨h', oT, ep, f, v, h1, h2⟩
  have hq0 : (s.q 0).length < 2 ^ 40 := by unfold tot at ht; omega
  have hqt : s.tm.length < 2 ^ 40 := by unfold tot at ht; omega
  obtain ⟨b, hb⟩ : ∃ b, b = h.length := ⟨_, rfl⟩
  -- the boxes
  obtain ⟨H0, hH0⟩ : ∃ H0 : Heap, H0 = h ++ [Ob.cells (cellsF s), Ob.cells [.bool false, .int .i64 0, .int .i64 0, .nils, .nils, .nils]] := ⟨_, rfl⟩
  have hbx : evBox h (cellsF s) = some (.ptr b 0, h ++ [Ob.cells (cellsF s)]) := by rw [hb]; simp [evBox, cellsF, V.isCell]
  have l0 : H0.length = b + 2 := by rw [hH0, hb]; simp
  have kb0 : H0[b]? = some (.cells (cellsF s)) := by rw [hH0, hb]; simp
  have kz0 : H0[b + 1]? = some (.cells [.bool false, .int .i64 0, .int .i64 0, .nils, .nils, .nils]) := by rw [hH0, hb]; simp
  have K0 : Kc h H0 := by rw [hH0]; exact .ext _ _
  -- the microtasks
  obtain ⟨v0, H1, a1, s1, n1, n1', r1⟩ := copyF (h := H0) (bytes := 8) (plain_I (s.q 0)) (by rw [List.length_map]; unfold roomB; omega)
  have hb1 : evBslice H0 [.int .i64 0] 0 1 [] = some (.sl H0.length 0 0 0, H0 ++ [Ob.row 1 [] 0 true]) := by
    simp [evBslice, placeParts, V.cells, V.isCell, setRange, chunks]
  have p3 := pt_at (h := H0 ++ [Ob.row 1 [] 0 true]) (a := b) (cs := cellsF s) (by rw [List.getElem?_append_left (by omega)]; exact kb0) 3
  have kb1 : H1[b]? = some (.cells (cellsF s)) := by rw [r1 b (by omega)]; exact kb0
  have hs1 := store_cell (off := 3) kb1 (by simp [cellsF]) s1.cell.1 s1.cell.2
  obtain ⟨C1, hC1⟩ : ∃ C1 : List V, C1 = [.bool s.closed, .int .i64 s.clock, .int .i64 s.given, v0, .arr (tA s), .arr (s.tm.map cR)] := ⟨_, rfl⟩
  have eC1 : (cellsF s).set 3 v0 = C1 := by rw [hC1]; rfl
  rw [eC1] at hs1
  obtain ⟨H1', hH1'⟩ : ∃ H1', H1' = H1.set b (.cells C1) := ⟨_, rfl⟩
  rw [← hH1'] at hs1
  have l1' : H1'.length = b + 3 := by rw [hH1']; simp; omega
  have kb1' : H1'[b]? = some (.cells C1) := by rw [hH1', List.getElem?_set_self (by omega)]
  have kz1' : H1'[b + 1]? = some (.cells [.bool false, .int .i64 0, .int .i64 0, .nils, .nils, .nils]) := by rw [hH1', List.getElem?_set_ne (by omega), r1 _ (by omega)]; exact kz0
  have K1' : Kc h H1' := by rw [hH1']; exact (K0.trans (.of r1)).set (by omega) _
  have s1' : SL H1' 1 v0 (some H0.length) ((s.q 0).map cI) := s1.mono fun id hid => by cases hid; rw [hH1', List.getElem?_set_ne (by omega)]
  -- the timers
  obtain ⟨v9, H2, a2, s2, n2, n2', r2⟩ := copyF (h := H1') (bytes := 24) (plain_R s.tm) (by rw [List.length_map]; unfold roomB; omega)
  have hb2 : evBslice H1' [.int .i64 0, .int .i64 0, .int .i64 0] 0 3 [] = some (.sl H1'.length 0 0 0, H1' ++ [Ob.row 3 [] 0 true]) := by
    simp [evBslice, placeParts, V.cells, V.isCell, setRange, chunks]
  have p5 := pt_at (h := H1' ++ [Ob.row 3 [] 0 true]) (a := b) (cs := C1) (by rw [List.getElem?_append_left (by omega)]; exact kb1') 5
  have kb2 : H2[b]? = some (.cells C1) := by rw [r2 b (by omega)]; exact kb1'
  have hs2 := store_cell (off := 5) kb2 (by rw [hC1]; simp) s2.cell.1 s2.cell.2
  obtain ⟨C2, hC2⟩ : ∃ C2 : List V, C2 = [.bool s.closed, .int .i64 s.clock, .int .i64 s.given, v0, .arr (tA s), v9] := ⟨_, rfl⟩
  have eC2 : C1.set 5 v9 = C2 := by rw [hC1, hC2]; rfl
  rw [eC2] at hs2
  obtain ⟨H2', hH2'⟩ : ∃ H2', H2' = H2.set b (.cells C2) := ⟨_, rfl⟩
  rw [← hH2'] at hs2
  have kb2' : H2'[b]? = some (.cells C2) := by rw [hH2', List.getElem?_set_self (by omega)]
  have kz2' : H2'[b + 1]? = some (.cells [.bool false, .int .i64 0, .int .i64 0, .nils, .nils, .nils]) := by rw [hH2', List.getElem?_set_ne (by omega), r2 _ (by omega)]; exact kz1'
  have K2' : Kc h H2' := by rw [hH2']; exact (K1'.trans (.of r2)).set (by omega) _
  have s1'' : SL H2' 1 v0 (some H0.length) ((s.q 0).map cI) := s1'.mono fun id hid => by cases hid; rw [hH2', List.getElem?_set_ne (by omega), r2 _ (by omega)]
  have s2'' : SL H2' 3 v9 (some H1'.length) (s.tm.map cR) := s2.mono fun id hid => by cases hid; rw [hH2', List.getElem?_set_ne (by omega)]
  have c0 : CpS H2' 0 s 0 .nils (fun k => if k = 0 then some H0.length else if k = 9 then some H1'.length else none) (fun k => if k = 0 then v0 else if k = 9 then v9 else .nils) := by
    refine ⟨fun _ => rfl, fun h => by omega, fun k hk hki => ?_, fun k hk hki => ?_, fun a b id ha hb hfa hfb => ?_, fun h => by omega⟩
    · rcases hki with e | e
      · have : k = 0 := by omega
        subst this
        exact s1''
      · subst e
        exact s2''
    · have e1 : ¬ k = 0 := by omega
      have e2 : ¬ k = 9 := by omega
      simp only [if_neg e1, if_neg e2]
    · by_cases a0 : a = 0 <;> by_cases b0 : b = 0 <;> by_cases a9 : a = 9 <;> by_cases b9 : b = 9 <;> simp_all <;> omega
  have p4 := pt_at kb2' 4
  have hT8 : evLen H2' .l (.arr (tA s)) = some (.int .i64 8, H2') := by simp [evLen, lenV, fNat_eq, tA]
  refine call_x ref27_Copy.Φ rfl (Nat.le_of_ble_eq_true rfl) (fun env he g => ?_)
  have g0 := g 0 (by simp)
  change eget env 0 = .agg (cellsF s) at g0
  clear g
  simp [ref27_Copy.c] at he
  rw [hC2] at p4
  rw [hC1] at p5
  simp only [cellsF, List.drop_succ_cons, List.drop_zero] at p3 p4 p5 g0 hbx hH0
  have hH0' : h ++ [Ob.cells [.bool s.closed, .int .i64 s.clock, .int .i64 s.given, .arr ((s.q 0).map cI), .arr (tA s), .arr (s.tm.map cR)]] ++ [Ob.cells [.bool false, .int .i64 0, .int .i64 0, .nils, .nils, .nils]] = H0 := by rw [hH0, List.append_assoc]; rfl
  have hbl : (h ++ [Ob.cells [.bool s.closed, .int .i64 s.clock, .int .i64 s.given, .arr ((s.q 0).map cI), .arr (tA s), .arr (s.tm.map cR)]]).length = b + 1 := by rw [hb]; simp
  obtain ⟨HB, hHB⟩ : ∃ HB : Heap, HB = h ++ [Ob.cells [.bool s.closed, .int .i64 s.clock, .int .i64 s.given, .arr ((s.q 0).map cI), .arr (tA s), .arr (s.tm.map cR)]] := ⟨_, rfl⟩
  rw [← hHB] at hbx hH0' hbl
  simp [ref27_Copy.c, ref27_Copy.r0, ref27_Copy.r1, ref27_Copy.r2, ref27_Copy.r3, ref27_Copy.r4, g0, he, okV, fV_eq, V.cells, hbx, hH0', hbl, hb1, hb2, faddr_ptr, p3, a1, hs1, p5, a2, hs2, p4, hT8, ofCells]
  refine kLoop (fun m st => ∃ i : Nat, m = 8 - i ∧ i ≤ 8 ∧ st.env.length = 33 ∧ eget st.env 1 = .ptr b 0 ∧ eget st.env 2 = .ptr (b + 1) 0 ∧ eget st.env 17 = .arr (tA s) ∧ eget st.env 18 = .int .i64 8 ∧ eget st.env 19 = .int .i64 i ∧ st.marks = [] ∧
      ∃ oT f v, CpS st.heap i s oT (eget st.env 3) f v ∧ v 0 = v0 ∧ v 9 = v9 ∧ st.heap[b]? = some (.cells C2) ∧ st.heap[b + 1]? = some (.cells [.bool false, .int .i64 0, .int .i64 0, .nils, .nils, .nils]) ∧ Kc h st.heap) 8 ⟨0, by
      simp [he]
      exact ⟨0, _, _, c0, rfl, rfl, kb2', kz2', K2'⟩⟩ ?_
  rintro m ⟨e, mk, hp⟩ ⟨i, rfl, hi, he, k1, k2, k17, k18, k19, hm, oT, f, v, c, w0, w9, kb, kz, K⟩
  simp only at he k1 k2 k17 k18 k19 hm c kb kz K
  obtain rfl := hm
  obtain ⟨t3, k3⟩ : ∃ t3, eget e 3 = t3 := ⟨_, rfl⟩
  rw [k3] at c
  by_cases hlt : i < 8
  · have hi8 : (i : Int) < 8 := by omega
    have hw1 : IntKind.i64.wrap ((i : Int) + 1) = ((i + 1 : Nat) : Int) := by rw [Ev.wrap64] <;> omega
    have ha := arr_at (h := hp) (sz := 1) (k := .i64) (xs := tA s) (i := i) (e := [V.arr ((s.q (i + 1)).map cI)]) (by simp [tA, hlt]) rfl
    have hql := q_le s hlt
    obtain ⟨w, h2, bb, h3, t3', h4, oT', f', v', z1, z2, z3, z4, c', e0, e9, K4⟩ := c.step hlt (by unfold tot at ht; omega)
    simp [ref27_Copy.b9, ref27_Copy.r5, ref27_Copy.r6, ref27_Copy.r7, ref27_Copy.r8, k1, k2, k3, k17, k18, k19, he, okV, fV_eq, hi8, ha, z1, z2, z3, z4, ofCells]
    exact ⟨8 - (i + 1), by omega, i + 1, rfl, by omega, by simpa using hw1, oT', f', v', c', by rw [e0, w0], by rw [e9, w9], K4 _ _ kb, K4 _ _ kz, K.trans K4⟩
  · have h8 : i = 8 := by omega
    subst h8
    obtain ⟨et, erow⟩ := c.t1 (by omega)
    have c3 : evStoreV hp 1 (.ptr b 4) t3 = some (V.non, hp.set b (.cells (cellsS oT 7 s v))) := by
      rw [et]
      have := store_cell (off := 4) (x := .sl oT 7 0 8) kb (by rw [hC2]; simp) rfl rfl
      rw [this, hC2]
      simp [cellsS, w0, w9]
    have hbl2 : b < hp.length := (List.getElem?_eq_some_iff.1 kb).1
    have kb3 : (hp.set b (.cells (cellsS oT 7 s v)))[b]? = some (.cells (cellsS oT 7 s v)) := by rw [List.getElem?_set_self hbl2]
    have kz3 : (hp.set b (.cells (cellsS oT 7 s v)))[b + 1]? = some (.cells [.bool false, .int .i64 0, .int .i64 0, .nils, .nils, .nils]) := by rw [List.getElem?_set_ne (by omega)]; exact kz
    have cs := (c.set (cs' := cellsS oT 7 s v) kb).set (cs' := cellsS oT 7 s v) kz3
    have hzl := (List.getElem?_eq_some_iff.1 kz3).1
    obtain ⟨HF, hHF⟩ : ∃ HF, HF = (hp.set b (.cells (cellsS oT 7 s v))).set (b + 1) (.cells (cellsS oT 7 s v)) := ⟨_, rfl⟩
    rw [← hHF] at cs
    have rs : RS HF oT 7 s f v := by
      obtain ⟨_, erow'⟩ := cs.t1 (by omega)
      exact ⟨erow', fun k hk => cs.sl k hk (by omega), cs.apart, cs.ne (by omega)⟩
    have l6 := pt_at kb3 0
    have st6 := store6 (ds := cellsS oT 7 s v) kz3 rfl (cellsS_cell rs s oT 7)
    rw [← hHF] at st6
    have kf : HF[b + 1]? = some (.cells (cellsS oT 7 s v)) := by rw [hHF, List.getElem?_set_self hzl]
    have lf := pt_at kf 0
    have KF : Kc h HF := by rw [hHF]; exact (K.set (by omega) _).set (by omega) _
    have hfin : P (.agg (cellsS oT 7 s v)) HF := by rw [hP]; exact ⟨oT, 7, f, v, rfl, rs, KF⟩
    simp only [cellsS, List.drop_zero, List.length_cons, List.length_nil, Nat.zero_add, Nat.reduceAdd] at c3 l6 st6 lf hfin
    simp [ref27_Copy.b9, ref27_Copy.r5, ref27_Copy.r10, ref27_Copy.r11, k1, k2, k3, k17, k18, k19, he, okV, fV_eq, faddr_ptr, c3, l6, st6, lf, ofCells, hfin]
end Go.Proofs.Lp
