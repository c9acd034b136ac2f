/- The program's forest: a node's links, whole. No conditions. -/
import Derived.Test.YtaeklgflchhmfaaGreatDoorItVa
import Derived.Test.YtaeklgflchhmfaaGreatDoorItW
set_option maxHeartbeats 16000000
set_option maxRecDepth 100000
set_option linter.unusedVariables false
set_option linter.unusedSimpArgs false
set_option linter.unusedSectionVars false
namespace Go.Proofs.It
open Go Go.Ev
def Lp (h : Int) (e : List V) : Prop := e.length = 110 ∧ eget e 1 = .int .i64 h ∧ eget e 2 = .ptr 0 0 ∧ eget e 5 = .ptr 1 0
section
variable {f : List Nd} {h : Int} {n : Nd}
theorem pl_e12 (z : Sz f) (hk : n.kids.length < 2 ^ 50) {B : Bool} (hB : B = (linkH f h n && (linkK f h n n.kids && kidsOk f n.kind n.kids))) {H : Heap} (l : Lh H f n) {e : List V} (he : Lp h e) :
  WK (callW Φ) none (FinV [.tmp 4] (.bool B)) [.c (snd' (snd' (snd' (snd' (snd' zZo.c.body)))))] { env := e, marks := [], heap := H } := by
 have e16 : ∀ (H : Heap) (e : List V), Lh H f n → Lp h e → linkH f h n = true → WK (callW Φ) none (FinV [.tmp 4] (.bool B)) [.o zZo.r16, .c .ret] { env := e, marks := [], heap := H } := by
  intro H e l ⟨he, g1, g2, g5⟩ hh
  have hK := fun H => jZE f h n z.len hk H
  simp only [eF, eN] at hK
  rw [kids_eq] at hK
  have c0 := l.c0
  have cz := l.c 0
  simp only [List.drop_zero] at cz
  have hok : ∀ H, okCells H (some 16) (some (cN n)) = some (.agg (cN n), H) := fun H => okN H n
  rw [hB, hh]
  simp [zZo.r16, g1, g2, g5, he, c0, cz, hok, hK, ofCells]
 obtain ⟨he, g1, g2, g5⟩ := he
 have c0 := l.c0
 have c := l.c
 have cz := l.c 0
 simp only [List.drop_zero] at cz
 simp only [snd', zZo.c]
 cases k12 : (n.kind == 12) with
 | false =>
  have hh : linkH f h n = true := by simp only [linkH, bne, k12]; rfl
  simp [zZo.r12, g5, he, faddrP, cz, k12]
  refine e16 H _ l ⟨?_, ?_, ?_, ?_⟩ hh <;> simp [he, g1, g2, g5]
 | true =>
  have hN := wZj f n.host z.len H
  simp only [eF] at hN
  obtain ⟨K1, hK1⟩ : ∃ K1, K1 = H ++ [Ob.cells [.arr (f.map cN)], Ob.cells (cAt f n.host)] := ⟨_, rfl⟩
  rw [← hK1] at hN
  have hp := pushC K1 (vZj K1 f n.host).ok.1 (vZj K1 f n.host).ok.2
  have lp1 : Lh K1 f n := by rw [hK1]; exact l.push _
  have lp := lp1.push [Ob.cells (cAt f n.host)]
  have da : is_ f n.host = true → ∀ off, cellsAt (K1 ++ [Ob.cells (cAt f n.host)]) (.ptr K1.length off) = some ((cN (at_ f n.host)).drop off) := fun hi off => by
   have : cAt f n.host = cN (at_ f n.host) := by simp [cAt, hi]
   rw [this]
   exact atN K1 (at_ f n.host) off
  obtain ⟨H2, hH2⟩ : ∃ H2, H2 = K1 ++ [Ob.cells (cAt f n.host)] := ⟨_, rfl⟩
  rw [← hH2] at hp lp da
  simp [zZo.r12, zZo.r13, g2, g5, he, faddrP, c0, c, cz, k12, hN, eN, hp, evExt]
  refine kNormalO (pl_r14 (h := h) z.len hk lp.c0 lp.c ?_ ?_ ?_ ?_ (z.atk n.host) da (b := is_ f n.host) ?_ ?_) ?_
  ·simp [he]
  ·simp [g1]
  ·simp [g2]
  ·simp [g5]
  ·simp [he]
  ·simp [he]
  rintro ⟨e', mk, H'⟩ ⟨he', k1, k2, k5, hm, hH, k4⟩
  simp only at he' k1 k2 k5 hm hH k4
  obtain rfl := hm
  obtain rfl := hH
  have hh : linkH f h n = (is_ f n.host && (at_ f n.host).kind == 1 && (at_ f n.host).shadow == h && (at_ f n.host).doc == n.doc) := by simp [linkH, bne, k12]
  rw [← hh] at k4
  cases hl : linkH f h n with
  | false =>
   rw [hl] at k4
   simp [k4, zZo.r15, he', hB, hl]
  | true =>
   rw [hl] at k4
   simp [k4]
   exact e16 H' e' lp ⟨he', k1, k2, k5⟩ hl
theorem pl_e8 (z : Sz f) (hk : n.kids.length < 2 ^ 50) {B : Bool} (hB : B = (linkS f h n && (linkH f h n && (linkK f h n n.kids && kidsOk f n.kind n.kids)))) {H : Heap} (l : Lh H f n) {e : List V} (he : Lp h e) :
  WK (callW Φ) none (FinV [.tmp 4] (.bool B)) [.c (snd' (snd' (snd' (snd' zZo.c.body))))] { env := e, marks := [], heap := H } := by
 have e12 := fun (H : Heap) (e : List V) l he (hs : linkS f h n = true) => pl_e12 z hk (B := B) (by rw [hB, hs, Bool.true_and]) (H := H) l (e := e) he
 obtain ⟨he, g1, g2, g5⟩ := he
 have c0 := l.c0
 have c := l.c
 simp only [snd', zZo.c, kSeq, kRegion] at e12 ⊢
 by_cases k0 : n.shadow = 0
 ·have hh : linkS f h n = true := by simp [linkS, k0]
  have kb : (n.shadow != 0) = false := by simp [k0]
  simp [zZo.r8, g5, he, faddrP, c, kb]
  refine e12 H _ l ⟨?_, ?_, ?_, ?_⟩ hh <;> simp [he, g1, g2, g5]
 ·have kb : (n.shadow != 0) = true := by simp [k0]
  have kb' : (n.shadow == 0) = false := by simp [k0]
  have hN := wZj f n.shadow z.len H
  simp only [eF] at hN
  obtain ⟨K1, hK1⟩ : ∃ K1, K1 = H ++ [Ob.cells [.arr (f.map cN)], Ob.cells (cAt f n.shadow)] := ⟨_, rfl⟩
  rw [← hK1] at hN
  have hp := pushC K1 (vZj K1 f n.shadow).ok.1 (vZj K1 f n.shadow).ok.2
  have lp1 : Lh K1 f n := by rw [hK1]; exact l.push _
  have lp := lp1.push [Ob.cells (cAt f n.shadow)]
  have da : is_ f n.shadow = true → ∀ off, cellsAt (K1 ++ [Ob.cells (cAt f n.shadow)]) (.ptr K1.length off) = some ((cN (at_ f n.shadow)).drop off) := fun hi off => by
   have : cAt f n.shadow = cN (at_ f n.shadow) := by simp [cAt, hi]
   rw [this]
   exact atN K1 (at_ f n.shadow) off
  obtain ⟨H2, hH2⟩ : ∃ H2, H2 = K1 ++ [Ob.cells (cAt f n.shadow)] := ⟨_, rfl⟩
  rw [← hH2] at hp lp da
  simp [zZo.r8, zZo.r9, g2, g5, he, faddrP, c0, c, kb, hN, eN, hp, evExt]
  refine kNormalO (pl_r10 (h := h) z.len hk lp.c0 lp.c ?_ ?_ ?_ ?_ (z.atk n.shadow) da (b := is_ f n.shadow) ?_ ?_) ?_
  ·simp [he]
  ·simp [g1]
  ·simp [g2]
  ·simp [g5]
  ·simp [he]
  ·simp [he]
  rintro ⟨e', mk, H'⟩ ⟨he', k1, k2, k5, hm, hH, k4⟩
  simp only at he' k1 k2 k5 hm hH k4
  obtain rfl := hm
  obtain rfl := hH
  have hh : linkS f h n = (is_ f n.shadow && (at_ f n.shadow).kind == 12 && (at_ f n.shadow).host == h) := by simp only [linkS, kb', Bool.false_or]
  rw [← hh] at k4
  cases hl : linkS f h n with
  | false =>
   rw [hl] at k4
   simp [k4, zZo.r11, he', hB, hl]
  | true =>
   rw [hl] at k4
   simp [k4]
   exact e12 H' e' lp ⟨he', k1, k2, k5⟩ hl
theorem pl_e6 (z : Sz f) (hk : n.kids.length < 2 ^ 50) {B : Bool} (hB : B = (linkD f h n && (linkS f h n && (linkH f h n && (linkK f h n n.kids && kidsOk f n.kind n.kids))))) {H : Heap} (l : Lh H f n) {e : List V} (he : Lp h e) :
  WK (callW Φ) none (FinV [.tmp 4] (.bool B)) [.c (snd' (snd' (snd' zZo.c.body)))] { env := e, marks := [], heap := H } := by
 have e8 := fun (H : Heap) (e : List V) l he (hs : linkD f h n = true) => pl_e8 z hk (B := B) (by rw [hB, hs, Bool.true_and]) (H := H) l (e := e) he
 obtain ⟨he, g1, g2, g5⟩ := he
 simp only [snd', zZo.c, kSeq, kRegion] at e8 ⊢
 refine kNormalO (pl_r6 z.len hk l.c0 l.c he g1 g2 g5) ?_
 rintro ⟨e', mk, H'⟩ ⟨he', k1, k2, k5, hm, hH, k4⟩
 simp only at he' k1 k2 k5 hm hH k4
 obtain rfl := hm
 obtain ⟨E, rfl⟩ := hH
 have hh : linkD f h n = (kindOf f n.doc == 9 && (n.kind != 9 || n.doc == h)) := rfl
 rw [← hh] at k4
 cases hl : linkD f h n with
 | false =>
  rw [hl] at k4
  simp [k4, zZo.r7, he', hB, hl]
 | true =>
  rw [hl] at k4
  simp [k4]
  exact e8 _ e' (l.push E) ⟨he', k1, k2, k5⟩ hl
theorem pl_e2 (z : Sz f) (hk : n.kids.length < 2 ^ 50) {B : Bool} (hB : B = (linkP f h n && (linkD f h n && (linkS f h n && (linkH f h n && (linkK f h n n.kids && kidsOk f n.kind n.kids)))))) {H : Heap} (l : Lh H f n) {e : List V} (he : Lp h e) :
  WK (callW Φ) none (FinV [.tmp 4] (.bool B)) [.c (snd' (snd' zZo.c.body))] { env := e, marks := [], heap := H } := by
 have e6 := fun (H : Heap) (e : List V) l he (hs : linkP f h n = true) => pl_e6 z hk (B := B) (by rw [hB, hs, Bool.true_and]) (H := H) l (e := e) he
 obtain ⟨he, g1, g2, g5⟩ := he
 have c0 := l.c0
 have c := l.c
 simp only [snd', zZo.c, kSeq, kRegion] at e6 ⊢
 by_cases k0 : n.parent = 0
 ·have hh : linkP f h n = true := by simp [linkP, k0]
  have kb : (n.parent != 0) = false := by simp [k0]
  simp [zZo.r2, g5, he, faddrP, c, kb]
  refine e6 H _ l ⟨?_, ?_, ?_, ?_⟩ hh <;> simp [he, g1, g2, g5]
 ·have kb : (n.parent != 0) = true := by simp [k0]
  have kb' : (n.parent == 0) = false := by simp [k0]
  have hN := wZj f n.parent z.len H
  simp only [eF] at hN
  obtain ⟨K1, hK1⟩ : ∃ K1, K1 = H ++ [Ob.cells [.arr (f.map cN)], Ob.cells (cAt f n.parent)] := ⟨_, rfl⟩
  rw [← hK1] at hN
  have hp := pushC K1 (vZj K1 f n.parent).ok.1 (vZj K1 f n.parent).ok.2
  have lp1 : Lh K1 f n := by rw [hK1]; exact l.push _
  have lp := lp1.push [Ob.cells (cAt f n.parent)]
  have da : is_ f n.parent = true → ∀ off, cellsAt (K1 ++ [Ob.cells (cAt f n.parent)]) (.ptr K1.length off) = some ((cN (at_ f n.parent)).drop off) := fun hi off => by
   have : cAt f n.parent = cN (at_ f n.parent) := by simp [cAt, hi]
   rw [this]
   exact atN K1 (at_ f n.parent) off
  obtain ⟨H2, hH2⟩ : ∃ H2, H2 = K1 ++ [Ob.cells (cAt f n.parent)] := ⟨_, rfl⟩
  rw [← hH2] at hp lp da
  simp [zZo.r2, zZo.r3, g2, g5, he, faddrP, c0, c, kb, hN, eN, hp, evExt]
  refine kNormalO (pl_r4 (h := h) z.len hk lp.c0 lp.c ?_ ?_ ?_ ?_ (z.atk n.parent) da (b := is_ f n.parent) ?_ ?_) ?_
  ·simp [he]
  ·simp [g1]
  ·simp [g2]
  ·simp [g5]
  ·simp [he]
  ·simp [he]
  rintro ⟨e', mk, H'⟩ ⟨he', k1, k2, k5, hm, hH, k4⟩
  simp only at he' k1 k2 k5 hm hH k4
  obtain rfl := hm
  obtain rfl := hH
  have hh : linkP f h n = (is_ f n.parent && cnt (at_ f n.parent).kids h == 1) := by simp only [linkP, kb', Bool.false_or]
  rw [← hh] at k4
  cases hl : linkP f h n with
  | false =>
   rw [hl] at k4
   simp [k4, zZo.r5, he', hB, hl]
  | true =>
   rw [hl] at k4
   simp [k4]
   exact e6 H' e' lp ⟨he', k1, k2, k5⟩ hl
end
theorem jZ7 (f : List Nd) (h : Int) (z : Sz f) (h1 : 1 ≤ h) (h2 : h ≤ f.length) (H : Heap) : callW Φ zZo [eF f, .int .i64 h] H = some (.bool (links f h), H) := by
 have : ∃ hh, evBodyW (callW Φ) zZo.c [eF f, .int .i64 h] [] = some (.bool (links f h), hh) := by
  obtain ⟨n, hn⟩ : ∃ n, n = at_ f h := ⟨_, rfl⟩
  have hlen := z.len
  have hk : n.kids.length < 2 ^ 50 := by rw [hn]; exact z.atk h
  obtain ⟨K, hK⟩ : ∃ K : Heap, K = [Ob.cells [.arr (f.map cN)]] := ⟨_, rfl⟩
  have hb : evBox [] [.arr (f.map cN)] = some (.ptr 0 0, K) := by rw [hK]; simp [evBox, V.isCell]
  have hlK : K.length = 1 := by rw [hK]; rfl
  have hp := pushN K n
  rw [hlK] at hp
  have c0 : cellsAt K (.ptr 0 0) = some [.arr (f.map cN)] := by rw [hK]; rfl
  have hl : Lh (K ++ [Ob.cells (cN n)]) f n := ⟨by rw [hK]; rfl, by rw [hK]; rfl⟩
  have hB : links f h = (linkP f h n && (linkD f h n && (linkS f h n && (linkH f h n && (linkK f h n n.kids && kidsOk f n.kind n.kids))))) := by
   simp only [links, ← hn]
   ac_rfl
  have e2 := fun (e : List V) he => pl_e2 z hk hB hl (e := e) he
  obtain ⟨H2, hH2⟩ : ∃ H2, H2 = K ++ [Ob.cells (cN n)] := ⟨_, rfl⟩
  rw [← hH2] at hp e2
  have hw : IntKind.i64.wrap (h - 1) = h - 1 := by rw [Ev.wrap64] <;> omega
  have hai := vZy (h := K) (k := .i64) vZ0 (show 0 ≤ h - 1 by omega) (at_in h1 h2)
  rw [← hn] at hai
  refine qZ3 (Nat.le_of_ble_eq_true rfl) (fun env he h0 => ?_)
  have g0 := h0 0 (by simp)
  have g1 := h0 1 (by simp)
  change eget env 0 = .agg [.arr (f.map cN)] at g0
  change eget env 1 = .int .i64 h at g1
  clear h0
  simp [zZo.c] at he
  have hcc : (V.agg [V.arr (f.map cN)]).cells = [.arr (f.map cN)] := rfl
  simp only [snd', zZo.c, kSeq, kRegion] at e2
  simp [zZo.c, zZo.r0, zZo.r1, g0, g1, he, hcc, hb, hlK, faddrP, c0, hw, hai, okN, eN, hp]
  refine e2 _ ⟨?_, ?_, ?_, ?_⟩ <;> simp [he, g1]
 obtain ⟨h', hb⟩ := this
 exact zZ4 (h := H) zZo.Φ rfl (args := [eF f, .int .i64 h]) rfl hb rfl
end Go.Proofs.It
