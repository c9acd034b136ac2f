/- A node's links: the document's answer. No conditions. -/
import Derived.Test.YtaeklgflchhmfaaGreatDoorItLa
set_option maxHeartbeats 16000000
set_option maxRecDepth 100000
set_option linter.unusedVariables false
set_option linter.unusedSimpArgs false
set_option linter.unusedSectionVars false
namespace Go.Proofs.It
open Go Go.Ev
structure Sz (f : List Nd) : Prop where
 len : f.length < 2 ^ 50
 kids : ∀ m ∈ f, m.kids.length < 2 ^ 50
 attrs : ∀ m ∈ f, m.attrs.length < 2 ^ 50
theorem at_mem {f : List Nd} (h : Int) : at_ f h = noNd ∨ at_ f h ∈ f := by
 unfold at_
 split
 ·by_cases hl : h.toNat - 1 < f.length
  ·right
   rw [List.getD_eq_getElem?_getD, List.getElem?_eq_getElem hl]
   exact List.getElem_mem hl
  ·left
   rw [List.getD_eq_getElem?_getD, List.getElem?_eq_none (by omega)]
   rfl
 ·left; rfl
theorem Sz.atk {f : List Nd} (z : Sz f) (h : Int) : (at_ f h).kids.length < 2 ^ 50 := by
 rcases at_mem (f := f) h with e | e
 ·rw [e]; decide
 ·exact z.kids _ e
theorem Sz.ata {f : List Nd} (z : Sz f) (h : Int) : (at_ f h).attrs.length < 2 ^ 50 := by
 rcases at_mem (f := f) h with e | e
 ·rw [e]; decide
 ·exact z.attrs _ e
def kidOk (f : List Nd) (h : Int) (n : Nd) (k : Int) : Bool := is_ f k && (at_ f k).parent == h && cnt n.kids k == 1 && (at_ f k).doc == n.doc
def linkK (f : List Nd) (h : Int) (n : Nd) (l : List Int) : Bool := l.all (kidOk f h n)
def linkP (f : List Nd) (h : Int) (n : Nd) : Bool := n.parent == 0 || (is_ f n.parent && cnt (at_ f n.parent).kids h == 1)
def linkD (f : List Nd) (h : Int) (n : Nd) : Bool := kindOf f n.doc == 9 && (n.kind != 9 || n.doc == h)
def linkS (f : List Nd) (h : Int) (n : Nd) : Bool := n.shadow == 0 || (is_ f n.shadow && (at_ f n.shadow).kind == 12 && (at_ f n.shadow).host == h)
def linkH (f : List Nd) (h : Int) (n : Nd) : Bool := n.kind != 12 || (is_ f n.host && (at_ f n.host).kind == 1 && (at_ f n.host).shadow == h && (at_ f n.host).doc == n.doc)
def links (f : List Nd) (h : Int) : Bool := linkK f h (at_ f h) (at_ f h).kids && linkP f h (at_ f h) && linkD f h (at_ f h) && linkS f h (at_ f h) && linkH f h (at_ f h) && kidsOk f (at_ f h).kind (at_ f h).kids
structure Lh (H : Heap) (f : List Nd) (n : Nd) : Prop where
 h0 : H[0]? = some (.cells [.arr (f.map cN)])
 h1 : H[1]? = some (.cells (cN n))
theorem Lh.push {H : Heap} {f : List Nd} {n : Nd} (l : Lh H f n) (e : Heap) : Lh (H ++ e) f n :=
 ⟨by rw [List.getElem?_append_left (List.getElem?_eq_some_iff.1 l.h0).1]; exact l.h0, by rw [List.getElem?_append_left (List.getElem?_eq_some_iff.1 l.h1).1]; exact l.h1⟩
theorem Lh.c0 {H : Heap} {f : List Nd} {n : Nd} (l : Lh H f n) : cellsAt H (.ptr 0 0) = some [.arr (f.map cN)] := by simp [cellsAt, l.h0]
theorem Lh.c {H : Heap} {f : List Nd} {n : Nd} (l : Lh H f n) (off : Nat) : cellsAt H (.ptr 1 off) = some ((cN n).drop off) := by simp [cellsAt, l.h1]
def Le (h : Int) (e : List V) : Prop := e.length = 152 ∧ eget e 1 = .int .i64 h ∧ eget e 2 = .ptr 0 0 ∧ eget e 5 = .ptr 1 0
theorem pushN (H : Heap) (m : Nd) : evStoreV (H ++ [Ob.cells [.int .u8 0, .str ⟨#[]⟩, .str ⟨#[]⟩, .str ⟨#[]⟩, .str ⟨#[]⟩, .str ⟨#[]⟩, .nils, .nils, .int .i64 0, .nils, .int .i64 0, .int .i64 0, .int .i64 0, .int .u8 0, .bool false, .bool false]]) 16 (.ptr H.length 0) (.agg (cN m)) = some (V.non, H ++ [Ob.cells (cN m)]) := by
 rw [storeN]
 simp [evStore, setRange, vZ0, ob_set]
theorem atN (H : Heap) (m : Nd) (off : Nat) : cellsAt (H ++ [Ob.cells (cN m)]) (.ptr H.length off) = some ((cN m).drop off) := by simp [cellsAt]
section
variable {f : List Nd} {h : Int} {n : Nd}
theorem links_e20 (z : Sz f) (hk : n.kids.length < 2 ^ 50) {B : Bool} (hB : B = (linkH f h n && kidsOk f n.kind n.kids)) {H : Heap} (l : Lh H f n) {e : List V} (he : Le h e) :
  WK (callW Φ) none (FinV [.tmp 4] (.bool B)) [.c (snd' (snd' (snd' (snd' (snd' (snd' zZk.c.body))))))] { env := e, marks := [], heap := H } := by
 have e24 : ∀ (H : Heap) (e : List V), Lh H f n → Le h e → linkH f h n = true → WK (callW Φ) none (FinV [.tmp 4] (.bool B)) [.o zZk.r24, .c .ret] { env := e, marks := [], heap := H } := by
  intro H e l ⟨he, g1, g2, g5⟩ hh
  refine kNormalO (links_r24 z.len hk l.c0 l.c he g1 g2 g5) ?_
  rintro ⟨e', mk, H'⟩ ⟨he', k1, k2, k5, hm, hH, k4⟩
  simp only at he' k1 k2 k5 hm hH k4
  obtain rfl := hm
  rw [hB, hh]
  simp [k4]
 obtain ⟨he, g1, g2, g5⟩ := he
 have c0 := l.c0
 have c := l.c
 have cz := l.c 0
 simp only [List.drop_zero] at cz
 simp only [snd', zZk.c]
 cases k12 : (n.kind == 12) with
 | false =>
  have hh : linkH f h n = true := by simp only [linkH, bne, k12]; rfl
  simp [zZk.r20, g5, he, faddrP, cz, k12]
  refine e24 H _ l ⟨?_, ?_, ?_, ?_⟩ hh <;> simp [he, g1, g2, g5]
 | true =>
  have hN := fun H => vZp f n.host z.len H
  simp only [eF] at hN
  have hp := pushN H (at_ f n.host)
  have lp := l.push [Ob.cells (cN (at_ f n.host))]
  have da := atN H (at_ f n.host)
  obtain ⟨H2, hH2⟩ : ∃ H2, H2 = H ++ [Ob.cells (cN (at_ f n.host))] := ⟨_, rfl⟩
  rw [← hH2] at hp lp da
  simp [zZk.r20, zZk.r21, g2, g5, he, faddrP, c0, c, cz, k12, hN, eN, hp, evExt]
  refine kNormalO (links_r22 (h := h) z.len hk lp.c0 lp.c ?_ ?_ ?_ ?_ (z.atk n.host) da (b := is_ f n.host) ?_ ?_) ?_
  ·simp [he]
  ·simp [g1]
  ·simp [g2]
  ·simp [g5]
  ·simp [he]
  ·simp [he]
  rintro ⟨e', mk, H'⟩ ⟨he', k1, k2, k5, hm, hH, k4⟩
  simp only at he' k1 k2 k5 hm hH k4
  obtain rfl := hm
  obtain rfl := hH
  have hh : linkH f h n = (is_ f n.host && (at_ f n.host).kind == 1 && (at_ f n.host).shadow == h && (at_ f n.host).doc == n.doc) := by simp [linkH, bne, k12]
  rw [← hh] at k4
  cases hl : linkH f h n with
  | false =>
   rw [hl] at k4
   simp [k4, zZk.r23, he', hB, hl]
  | true =>
   rw [hl] at k4
   simp [k4]
   exact e24 H' e' lp ⟨he', k1, k2, k5⟩ hl
theorem links_e16 (z : Sz f) (hk : n.kids.length < 2 ^ 50) {B : Bool} (hB : B = (linkS f h n && linkH f h n && kidsOk f n.kind n.kids)) {H : Heap} (l : Lh H f n) {e : List V} (he : Le h e) :
  WK (callW Φ) none (FinV [.tmp 4] (.bool B)) [.c (snd' (snd' (snd' (snd' (snd' zZk.c.body)))))] { env := e, marks := [], heap := H } := by
 have e20 := fun (H : Heap) (e : List V) l he (hs : linkS f h n = true) => links_e20 z hk (B := B) (by rw [hB, hs, Bool.true_and]) (H := H) l (e := e) he
 obtain ⟨he, g1, g2, g5⟩ := he
 have c0 := l.c0
 have c := l.c
 simp only [snd', zZk.c, kSeq, kRegion] at e20 ⊢
 by_cases k0 : n.shadow = 0
 ·have hh : linkS f h n = true := by simp [linkS, k0]
  have kb : (n.shadow != 0) = false := by simp [k0]
  simp [zZk.r16, g5, he, faddrP, c, kb]
  refine e20 H _ l ⟨?_, ?_, ?_, ?_⟩ hh <;> simp [he, g1, g2, g5]
 ·have kb : (n.shadow != 0) = true := by simp [k0]
  have kb' : (n.shadow == 0) = false := by simp [k0]
  have hN := fun H => vZp f n.shadow z.len H
  simp only [eF] at hN
  have hp := pushN H (at_ f n.shadow)
  have lp := l.push [Ob.cells (cN (at_ f n.shadow))]
  have da := atN H (at_ f n.shadow)
  obtain ⟨H2, hH2⟩ : ∃ H2, H2 = H ++ [Ob.cells (cN (at_ f n.shadow))] := ⟨_, rfl⟩
  rw [← hH2] at hp lp da
  simp [zZk.r16, zZk.r17, g2, g5, he, faddrP, c0, c, kb, hN, eN, hp, evExt]
  refine kNormalO (links_r18 (h := h) z.len hk lp.c0 lp.c ?_ ?_ ?_ ?_ (z.atk n.shadow) da (b := is_ f n.shadow) ?_ ?_) ?_
  ·simp [he]
  ·simp [g1]
  ·simp [g2]
  ·simp [g5]
  ·simp [he]
  ·simp [he]
  rintro ⟨e', mk, H'⟩ ⟨he', k1, k2, k5, hm, hH, k4⟩
  simp only at he' k1 k2 k5 hm hH k4
  obtain rfl := hm
  obtain rfl := hH
  have hh : linkS f h n = (is_ f n.shadow && (at_ f n.shadow).kind == 12 && (at_ f n.shadow).host == h) := by simp only [linkS, kb', Bool.false_or]
  rw [← hh] at k4
  cases hl : linkS f h n with
  | false =>
   rw [hl] at k4
   simp [k4, zZk.r19, he', hB, hl]
  | true =>
   rw [hl] at k4
   simp [k4]
   exact e20 H' e' lp ⟨he', k1, k2, k5⟩ hl
theorem links_e14 (z : Sz f) (hk : n.kids.length < 2 ^ 50) {B : Bool} (hB : B = (linkD f h n && linkS f h n && linkH f h n && kidsOk f n.kind n.kids)) {H : Heap} (l : Lh H f n) {e : List V} (he : Le h e) :
  WK (callW Φ) none (FinV [.tmp 4] (.bool B)) [.c (snd' (snd' (snd' (snd' zZk.c.body))))] { env := e, marks := [], heap := H } := by
 have e16 := fun (H : Heap) (e : List V) l he (hs : linkD f h n = true) => links_e16 z hk (B := B) (by rw [hB, hs, Bool.true_and]) (H := H) l (e := e) he
 obtain ⟨he, g1, g2, g5⟩ := he
 simp only [snd', zZk.c, kSeq, kRegion] at e16 ⊢
 refine kNormalO (links_r14 z.len hk l.c0 l.c he g1 g2 g5) ?_
 rintro ⟨e', mk, H'⟩ ⟨he', k1, k2, k5, hm, hH, k4⟩
 simp only at he' k1 k2 k5 hm hH k4
 obtain rfl := hm
 obtain rfl := hH
 have hh : linkD f h n = (kindOf f n.doc == 9 && (n.kind != 9 || n.doc == h)) := rfl
 rw [← hh] at k4
 cases hl : linkD f h n with
 | false =>
  rw [hl] at k4
  simp [k4, zZk.r15, he', hB, hl]
 | true =>
  rw [hl] at k4
  simp [k4]
  exact e16 H' e' l ⟨he', k1, k2, k5⟩ hl
theorem links_e10 (z : Sz f) (hk : n.kids.length < 2 ^ 50) {B : Bool} (hB : B = (linkP f h n && linkD f h n && linkS f h n && linkH f h n && kidsOk f n.kind n.kids)) {H : Heap} (l : Lh H f n) {e : List V} (he : Le h e) :
  WK (callW Φ) none (FinV [.tmp 4] (.bool B)) [.c (snd' (snd' (snd' zZk.c.body)))] { env := e, marks := [], heap := H } := by
 have e14 := fun (H : Heap) (e : List V) l he (hs : linkP f h n = true) => links_e14 z hk (B := B) (by rw [hB, hs, Bool.true_and]) (H := H) l (e := e) he
 obtain ⟨he, g1, g2, g5⟩ := he
 have c0 := l.c0
 have c := l.c
 simp only [snd', zZk.c, kSeq, kRegion] at e14 ⊢
 by_cases k0 : n.parent = 0
 ·have hh : linkP f h n = true := by simp [linkP, k0]
  have kb : (n.parent != 0) = false := by simp [k0]
  simp [zZk.r10, g5, he, faddrP, c, kb]
  refine e14 H _ l ⟨?_, ?_, ?_, ?_⟩ hh <;> simp [he, g1, g2, g5]
 ·have kb : (n.parent != 0) = true := by simp [k0]
  have kb' : (n.parent == 0) = false := by simp [k0]
  have hN := fun H => vZp f n.parent z.len H
  simp only [eF] at hN
  have hp := pushN H (at_ f n.parent)
  have lp := l.push [Ob.cells (cN (at_ f n.parent))]
  have da := atN H (at_ f n.parent)
  obtain ⟨H2, hH2⟩ : ∃ H2, H2 = H ++ [Ob.cells (cN (at_ f n.parent))] := ⟨_, rfl⟩
  rw [← hH2] at hp lp da
  simp [zZk.r10, zZk.r11, g2, g5, he, faddrP, c0, c, kb, hN, eN, hp, evExt]
  refine kNormalO (links_r12 (h := h) z.len hk lp.c0 lp.c ?_ ?_ ?_ ?_ (z.atk n.parent) da (b := is_ f n.parent) ?_ ?_) ?_
  ·simp [he]
  ·simp [g1]
  ·simp [g2]
  ·simp [g5]
  ·simp [he]
  ·simp [he]
  rintro ⟨e', mk, H'⟩ ⟨he', k1, k2, k5, hm, hH, k4⟩
  simp only at he' k1 k2 k5 hm hH k4
  obtain rfl := hm
  obtain rfl := hH
  have hh : linkP f h n = (is_ f n.parent && cnt (at_ f n.parent).kids h == 1) := by simp only [linkP, kb', Bool.false_or]
  rw [← hh] at k4
  cases hl : linkP f h n with
  | false =>
   rw [hl] at k4
   simp [k4, zZk.r13, he', hB, hl]
  | true =>
   rw [hl] at k4
   simp [k4]
   exact e14 H' e' lp ⟨he', k1, k2, k5⟩ hl
theorem links_e2 (z : Sz f) (hk : n.kids.length < 2 ^ 50) {B : Bool} (hB : B = (linkK f h n n.kids && linkP f h n && linkD f h n && linkS f h n && linkH f h n && kidsOk f n.kind n.kids)) {H : Heap} (l : Lh H f n) {e : List V} (he : Le h e) :
  WK (callW Φ) none (FinV [.tmp 4] (.bool B)) [.c (snd' (snd' zZk.c.body))] { env := e, marks := [], heap := H } := by
 have e10 := fun (H : Heap) (e : List V) l he (hs : linkK f h n n.kids = true) => links_e10 z hk (B := B) (by rw [hB, hs, Bool.true_and]) (H := H) l (e := e) he
 obtain ⟨he, g1, g2, g5⟩ := he
 have c := l.c
 simp only [snd', zZk.c] at e10 ⊢
 simp [zZk.r2, g5, he, faddrP, c]
 refine kLoop (fun m s => ∃ i : Nat, m = n.kids.length - i ∧ i ≤ n.kids.length ∧ Le h s.env ∧ eget s.env 23 = .arr (n.kids.map cI) ∧ eget s.env 24 = .int .i64 n.kids.length ∧ eget s.env 25 = .int .i64 i ∧ s.marks = [] ∧ Lh s.heap f n ∧ linkK f h n n.kids = linkK f h n (n.kids.drop i)) n.kids.length ⟨0, by
  simp [Le, he, g1, g2, g5, l]⟩ ?_
 clear he g1 g2 g5 l c
 rintro m ⟨e, mk, hp⟩ ⟨i, rfl, hi, ⟨he, g1, g2, g5⟩, k23, k24, k25, hm, l, hat⟩
 simp only at he g1 g2 g5 k23 k24 k25 hm l
 subst hm
 by_cases hlt : i < n.kids.length
 ·obtain ⟨x, hx⟩ : ∃ x, n.kids[i]? = some x := ⟨_, List.getElem?_eq_getElem hlt⟩
  have hw : IntKind.i64.wrap ((i : Int) + 1) = ((i + 1 : Nat) : Int) := by rw [Ev.wrap64] <;> omega
  rw [vZI hx] at hat
  simp only [linkK, List.all_cons] at hat
  have ha1 := qZU (h := hp) (k := .i64) wZS hx
  have c0 := l.c0
  have hN := fun H => vZp f x z.len H
  simp only [eF] at hN
  have hpu := pushN hp (at_ f x)
  have lp := l.push [Ob.cells (cN (at_ f x))]
  have da := atN hp (at_ f x)
  obtain ⟨H2, hH2⟩ : ∃ H2, H2 = hp ++ [Ob.cells (cN (at_ f x))] := ⟨_, rfl⟩
  rw [← hH2] at hpu lp da
  simp [zZk.b9, zZk.r3, zZk.r4, zZk.r5, g2, g5, k23, k24, k25, he, hlt, ha1, cellI, c0, hN, eN, hpu, evExt, ofCells]
  refine kNormalO (links_r6 (h := h) z.len hk lp.c0 lp.c ?_ ?_ ?_ ?_ (z.atk x) da (b := is_ f x) ?_ ?_ (k := x) ?_) ?_
  ·simp [he]
  ·simp [g1]
  ·simp [g2]
  ·simp [g5]
  ·simp [he]
  ·simp [he]
  ·simp [he]
  rintro ⟨e', mk, H'⟩ ⟨he', k1, k2, k5, j23, j24, j25, hm, hH, k4⟩
  simp only at he' k1 k2 k5 j23 j24 j25 hm hH k4
  obtain rfl := hm
  obtain rfl := hH
  simp [k23, k24, k25] at j23 j24 j25
  have hh : kidOk f h n x = (is_ f x && (at_ f x).parent == h && cnt n.kids x == 1 && (at_ f x).doc == n.doc) := rfl
  rw [← hh] at k4
  cases hl : kidOk f h n x with
  | false =>
   rw [hl] at k4 hat
   have hz : linkK f h n n.kids = false := by simpa [linkK] using hat
   simp [k4, zZk.r7, he', hB, hz]
  | true =>
   rw [hl] at k4 hat
   simp [k4, zZk.r8, j25, he']
   refine ⟨n.kids.length - (i + 1), by omega, i + 1, rfl, by omega, ⟨?_, ?_, ?_, ?_⟩, j23, j24, by simpa using hw, lp, by simpa [linkK] using hat⟩
   all_goals simp [he', k1, k2, k5]
 ·have : i = n.kids.length := by omega
  subst this
  have hz : linkK f h n n.kids = true := by rw [hat, List.drop_length]; rfl
  simp only [kSeq, kRegion] at e10
  simp [zZk.b9, zZk.r3, k24, k25, he]
  refine e10 hp _ l ⟨?_, ?_, ?_, ?_⟩ hz <;> simp [he, g1, g2, g5]
end
theorem kZC (f : List Nd) (h : Int) (z : Sz f) (h1 : 1 ≤ h) (h2 : h ≤ f.length) (H : Heap) : callW Φ zZk [eF f, .int .i64 h] H = some (.bool (links f h), H) := by
 have : ∃ hh, evBodyW (callW Φ) zZk.c [eF f, .int .i64 h] [] = some (.bool (links f h), hh) := by
  have hw : IntKind.i64.wrap (h - 1) = h - 1 := by have := z.len; rw [Ev.wrap64] <;> omega
  obtain ⟨K, hK⟩ : ∃ K : Heap, K = [Ob.cells [.arr (f.map cN)]] := ⟨_, rfl⟩
  have hb : evBox [] [.arr (f.map cN)] = some (.ptr 0 0, K) := by rw [hK]; simp [evBox, V.isCell]
  have c0 : cellsAt K (.ptr 0 0) = some [.arr (f.map cN)] := by rw [hK]; rfl
  have hia := vZy (h := K) (k := .i64) vZ0 (show 0 ≤ h - 1 by omega) (at_in h1 h2)
  have hp := pushN K (at_ f h)
  have hKl : K.length = 1 := by rw [hK]; rfl
  rw [hKl] at hp
  obtain ⟨K2, hK2⟩ : ∃ K2, K2 = K ++ [Ob.cells (cN (at_ f h))] := ⟨_, rfl⟩
  rw [← hK2] at hp
  have l : Lh K2 f (at_ f h) := ⟨by rw [hK2, hK]; rfl, by rw [hK2, hK]; rfl⟩
  refine qZ3 (Nat.le_of_ble_eq_true rfl) (fun env he h0 => ?_)
  have g0 := h0 0 (by simp)
  have g1 := h0 1 (by simp)
  change eget env 0 = .agg [.arr (f.map cN)] at g0
  change eget env 1 = .int .i64 h at g1
  clear h0
  simp [zZk.c] at he
  have e2 := fun (e : List V) he => links_e2 (n := at_ f h) (h := h) z (z.atk h) (B := links f h) rfl (H := K2) l (e := e) he
  simp only [snd', zZk.c, kSeq, kRegion] at e2
  have hcc : (V.agg [V.arr (f.map cN)]).cells = [.arr (f.map cN)] := rfl
  simp [zZk.c, zZk.r0, zZk.r1, g0, g1, he, hcc, hb, faddrP, c0, hw, hia, okN, eN, hKl, hp]
  refine e2 _ ⟨?_, ?_, ?_, ?_⟩ <;> simp [he, g1]
 obtain ⟨h', hb⟩ := this
 exact zZ4 (h := H) zZk.Φ rfl (args := [eF f, .int .i64 h]) rfl hb rfl
end Go.Proofs.It
