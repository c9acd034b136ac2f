/- The law's walk. No conditions. -/
import Derived.Test.YtphigbmaimineabGreatObR
set_option maxHeartbeats 16000000
set_option maxRecDepth 100000
set_option linter.unusedVariables false
set_option linter.unusedSimpArgs false
set_option linter.unusedSectionVars false
namespace Go.Proofs.Ob
open Go Go.Ev
theorem sz_ntf {w : Wch} (z : SzW w) : SzW (ntfA w) := by
 obtain ⟨z1, z2, z3, z4⟩ := z
 obtain ⟨f, hf⟩ := wZQ w.qs w.regs w.qs.length
 have hdl := wZR w.qs w.regs w.qs.length
 refine ⟨by simp only [ntfA]; omega, by simp [ntfA]; omega, fun g hg => ?_, fun q hq => ?_⟩
 ·simp only [ntfA, hf] at hg
  exact z3 g (List.mem_filter.1 hg).1
 ·simp only [ntfA] at hq
  rw [List.eq_of_mem_replicate hq]
  exact ⟨by simp, fun r hr => by cases hr⟩
theorem iaddr_cN {h : Heap} {l : List (Int × List Rec)} {k : IntKind} {i : Nat} {c : Int × List Rec} (hx : l[i]? = some c) : iaddrV h 2 (.arr (l.map cN)) (.int k i) = some (.iptr (cN c)) := vZ9 (enc := cN) (fun _ => rfl) hx
theorem wZu (w : Wch) (z : SzW w) (H : Heap) : callW Φ zZd [.agg (cW w)] H = some (.bool true, H) := by
 have : ∃ hh, evBodyW (callW Φ) zZd.c [.agg (cW w)] [] = some (.bool true, hh) := by
  refine jZa (Nat.le_of_ble_eq_true rfl) (fun env he h0 => ?_)
  have g0 := h0 0 (by simp)
  change eget env 0 = .agg (cW w) at g0
  clear h0
  simp [zZd.c] at he
  have b0 : evBox [] (cW w) = some (.ptr 0 0, [.cells (cW w)]) := wZc [] _ rfl
  have hcc : (V.agg (cW w)).cells = cW w := rfl
  have cw0 : cellsAt [.cells (cW w)] (.ptr 0 0) = some (cW w) := rfl
  have okW : ∀ (w : Wch) (H : Heap), okCells H (some 3) (some (cW w)) = some (.agg (cW w), H) := fun _ _ => rfl
  have hb := begins_spec [.cells (cW w)]
  have hn := wZm w z [.cells (cW w)]
  have st : ∀ a : Wch, evStoreV [.cells (cW w), .cells [.nils, .int .i64 0, .nils]] 3 (.ptr 1 0) (.agg (cW a)) = some (V.non, [.cells (cW w), .cells (cW a)]) := fun a => vZO (H := [.cells (cW w), .cells [.nils, .int .i64 0, .nils]]) (id := 1) rfl rfl rfl rfl
  cases hA : aloneB w
  ·rw [show ntfR w = .tup [.agg (cW {}), .arr [], .int .i64 15] by unfold ntfR; rw [if_neg (by rw [hA]; simp)]] at hn
   have c1 : cellsAt [.cells (cW w), .cells (cW {})] (.ptr 1 2) = some ((cW {}).drop 2) := rfl
   have st0 := st {}
   simp [zZd.c, zZd.r0, zZd.r1, zZd.r3, zZd.r4, zZd.r5, g0, he, hcc, b0, hb, cw0, okW, hn, evExt, st0, c1, qZO, evPick]
  rw [show ntfR w = .tup [.agg (cW (ntfA w)), .arr ((notN w.qs w.qs.length).map cN), .int .i64 0] by unfold ntfR; rw [if_pos hA]] at hn
  obtain ⟨z4, zq, zg⟩ := kZh hA
  have st0 := st (ntfA w)
  simp [zZd.c, zZd.r0, zZd.r1, zZd.r3, zZd.r4, zZd.r6, zZd.r7, g0, he, hcc, b0, hb, cw0, okW, hn, evExt, st0]
  have hrise := not_rise w.qs w.qs.length
  have hmem := fun p (h : p ∈ notN w.qs w.qs.length) => not_mem h
  have hgone := fun (i : Nat) (h : w.qs.getD i [] ≠ []) (hi : i < w.qs.length) => kZj (gs := w.regs) h hi
  have hnl := notN_len w.qs w.qs.length
  have hdl := wZR w.qs w.regs w.qs.length
  obtain ⟨l, hle⟩ : ∃ l, l = notN w.qs w.qs.length := ⟨_, rfl⟩
  obtain ⟨A, hAe⟩ : ∃ A, A = ntfA w := ⟨_, rfl⟩
  have hAr : A.regs = dropN w.qs w.regs w.qs.length := by rw [hAe]; rfl
  have hAq : A.qs = List.replicate w.qs.length [] := by rw [hAe]; rfl
  have hagain := wZm A (by rw [hAe]; exact sz_ntf z) [.cells (cW w), .cells (cW A)]
  rw [show ntfR A = .tup [.agg (cW A), .arr [], .int .i64 0] by rw [hAe]; exact ntf_again hA] at hagain
  have hsame := kZG A A (by rw [hAe]; exact sz_ntf z) [.cells (cW w), .cells (cW A), .cells (cW A)]
  rw [← hle, ← hAe]
  rw [← hle] at hrise hmem hnl
  rw [← hAr] at hdl
  have x0 : ∀ off, cellsAt [.cells (cW w), .cells (cW A)] (.ptr 0 off) = some ((cW w).drop off) := fun _ => rfl
  have x1 : ∀ off, cellsAt [.cells (cW w), .cells (cW A)] (.ptr 1 off) = some ((cW A).drop off) := fun _ => rfl
  refine kLoop (fun m s => ∃ (i : Nat) (last : Int), m = l.length - i ∧ i ≤ l.length ∧ eget s.env 1 = .ptr 0 0 ∧ eget s.env 3 = .ptr 1 0 ∧ eget s.env 4 = .arr (l.map cN) ∧ eget s.env 5 = .int .i64 0 ∧ eget s.env 6 = .int .i64 last ∧ eget s.env 7 = .int .i64 i ∧ s.env.length = 153 ∧ s.marks = [] ∧ s.heap = [.cells (cW w), .cells (cW A)] ∧ ∀ p ∈ l.drop i, last < p.1) l.length
   ⟨0, 0, rfl, by omega, by simp [he], by simp [he], by simp [he], by simp [he], by simp [he], by simp [he], by simpa using he, rfl, rfl, fun p hp => by
    obtain ⟨k, _, h2, _⟩ := hmem p (by simpa using hp)
    omega⟩ ?_
  rintro m ⟨env, mk, Hh⟩ ⟨i, last, rfl, hi, k1, k3, k4, k5, k6, k7, hl, hm, hH, hlast⟩
  simp only at k1 k3 k4 k5 k6 k7 hl hm hH
  obtain rfl := hm
  obtain rfl := hH
  by_cases c : i < l.length
  ·have cc1 : (i : Int) < l.length := by omega
   obtain ⟨⟨ob, q⟩, hx⟩ : ∃ x, l[i]? = some x := ⟨_, List.getElem?_eq_getElem c⟩
   have hdr : l.drop i = (ob, q) :: l.drop (i + 1) := by
    rw [List.drop_eq_getElem_cons c, ← Option.some.inj ((List.getElem?_eq_getElem c).symm.trans hx)]
   obtain ⟨k, hk, e1, e2, e3⟩ := hmem (ob, q) (List.mem_of_getElem? hx)
   simp only at e1 e2 e3
   have hlt := hlast (ob, q) (by rw [hdr]; simp)
   simp only at hlt
   have hnx : ∀ p ∈ l.drop (i + 1), ob < p.1 := by
    have := List.Pairwise.sublist (List.drop_sublist i l) hrise
    rw [hdr, List.pairwise_cons] at this
    exact fun p hp => this.1 p hp
   have hqk : w.qs[k]? = some q := by
    have : w.qs[k]? = some w.qs[k] := List.getElem?_eq_getElem hk
    rw [e2, List.getD_eq_getElem?_getD, this]; rfl
   have ia := fun H => iaddr_cN (h := H) (k := .i64) hx
   have ib := fun H => wZ4 (h := H) (k := .i64) hqk
   have wr := wrap64 (n := (i : Int) + 1) (by omega) (by omega)
   have wk := wrap64 (n := (k : Int)) (by omega) (by omega)
   have S := vZY q q (z.2.2.2 q (List.mem_of_getElem? hqk)) [.cells (cW w), .cells (cW A)]
   rw [decide_eq_true (rfl : q = q)] at S
   have f1 : ¬ ob ≤ last := by omega
   have f2 : ¬ (w.qs.length : Int) < ob := by omega
   have f3 : ((q.length : Int) == 0) = false := by
    have : q.length ≠ 0 := fun e => e3 (List.eq_nil_of_length_eq_zero e)
    simp; exact e3
   have wk2 : IntKind.i64.wrap (ob - 1) = k := by rw [e1, show (k : Int) + 1 - 1 = k by omega]; exact wk
   simp [zZd.b19, zZd.r8, k1, k3, k4, k5, k6, k7, hl, cc1, qZO]
   refine kDraw1 zZd.r9.ord ?_
   simp [zZd.r9, zZd.r11, zZd.r12, k1, k3, k4, k5, k6, k7, hl, ia, cN, x0, x1, f1, f2, f3, e3, evPick, wk2, ib, okQ, S, qZO]
   have hgk := hgone k (by rw [← e2]; exact e3) hk
   rw [← hAr] at hgk
   refine kLoop (fun m s => ∃ (j : Nat), m = A.regs.length - j ∧ j ≤ A.regs.length ∧ eget s.env 1 = .ptr 0 0 ∧ eget s.env 3 = .ptr 1 0 ∧ eget s.env 4 = .arr (l.map cN) ∧ eget s.env 5 = .int .i64 0 ∧ eget s.env 6 = .int .i64 ob ∧ eget s.env 7 = .int .i64 i ∧ eget s.env 8 = .int .i64 j ∧ s.env.length = 153 ∧ s.marks = [] ∧ s.heap = [.cells (cW w), .cells (cW A)]) A.regs.length
    ⟨0, rfl, by omega, by simp [hl, k1], by simp [hl, k3], by simp [hl, k4], by simp [hl, k5], by simp [hl], by simp [hl, k7], by simp [hl], by simpa using hl, rfl, rfl⟩ ?_
   clear k1 k3 k4 k5 k6 k7 hl env
   rintro m ⟨env, mk, Hh⟩ ⟨j, rfl, hj, k1, k3, k4, k5, k6, k7, k8, hl, hm, hH⟩
   simp only at k1 k3 k4 k5 k6 k7 k8 hl hm hH
   obtain rfl := hm
   obtain rfl := hH
   by_cases cj : j < A.regs.length
   ·have cj1 : (j : Int) < A.regs.length := by omega
    obtain ⟨g, hg⟩ : ∃ g, A.regs[j]? = some g := ⟨_, List.getElem?_eq_getElem cj⟩
    have ig := fun H => jZv (h := H) (k := .i64) hg
    have wj := wrap64 (n := (j : Int) + 1) (by omega) (by omega)
    have hno := hgk g (List.mem_of_getElem? hg)
    rw [← e1] at hno
    cases h1 : (g.obs == ob)
    ·simp [zZd.b17, zZd.r13, zZd.r14, zZd.r16, k1, k3, k4, k5, k6, k7, k8, hl, x1, qZO, cj, ig, cG, h1, evPick, wj]
     exact ⟨A.regs.length - (j + 1), by omega, j + 1, rfl, by omega, by simp⟩
    ·have h2 : (g.src != 0) = false := by
      simp only [goes, h1, Bool.true_and, Bool.not_eq_false'] at hno
      simp [bne, hno]
     simp [zZd.b17, zZd.r13, zZd.r14, zZd.r16, k1, k3, k4, k5, k6, k7, k8, hl, x1, qZO, cj, ig, cG, h1, h2, evPick, wj]
     exact ⟨A.regs.length - (j + 1), by omega, j + 1, rfl, by omega, by simp⟩
   ·have cj1 : ¬ (j : Int) < A.regs.length := by omega
    simp [zZd.b17, zZd.r13, zZd.r18, k1, k3, k4, k5, k6, k7, k8, hl, x1, qZO, cj, wr]
    exact ⟨l.length - (i + 1), by omega, i + 1, rfl, by omega, by simp, fun a b h => hnx (a, b) h⟩
  ·have cc1 : ¬ (i : Int) < l.length := by omega
   simp [zZd.b19, zZd.r8, zZd.r20, zZd.c, k1, k3, k4, k5, k6, k7, hl, c, qZO]
   refine kLoop (fun m s => ∃ (j : Nat), m = A.qs.length - j ∧ j ≤ A.qs.length ∧ eget s.env 1 = .ptr 0 0 ∧ eget s.env 3 = .ptr 1 0 ∧ eget s.env 9 = .int .i64 j ∧ s.env.length = 153 ∧ s.marks = [] ∧ s.heap = [.cells (cW w), .cells (cW A)]) A.qs.length
    ⟨0, rfl, by omega, by simp [hl, k1], by simp [hl, k3], by simp [hl], by simpa using hl, rfl, rfl⟩ ?_
   clear k1 k3 k4 k5 k6 k7 hl env
   rintro m ⟨env, mk, Hh⟩ ⟨j, rfl, hj, k1, k3, k9, hl, hm, hH⟩
   simp only at k1 k3 k9 hl hm hH
   obtain rfl := hm
   obtain rfl := hH
   have hql : A.qs.length = w.qs.length := by rw [hAq]; simp
   by_cases cj : j < A.qs.length
   ·have cj1 : (j : Int) < A.qs.length := by omega
    have hg : A.qs[j]? = some [] := by rw [hAq, List.getElem?_replicate]; rw [if_pos (by omega)]
    have ig := fun H => wZ4 (h := H) (k := .i64) hg
    have wj := wrap64 (n := (j : Int) + 1) (by omega) (by omega)
    simp [zZd.b25, zZd.r21, zZd.r22, zZd.r24, k1, k3, k9, hl, x1, qZO, cj, ig, okQ, wj]
    exact ⟨A.qs.length - (j + 1), by omega, j + 1, rfl, by omega, by simp⟩
   ·have cj1 : ¬ (j : Int) < A.qs.length := by omega
    have st2 : evStoreV [.cells (cW w), .cells (cW A), .cells [.nils, .int .i64 0, .nils]] 3 (.ptr 2 0) (.agg (cW A)) = some (V.non, [.cells (cW w), .cells (cW A), .cells (cW A)]) := vZO (H := [.cells (cW w), .cells (cW A), .cells [.nils, .int .i64 0, .nils]]) (id := 2) rfl rfl rfl rfl
    have y0 : ∀ off, cellsAt [.cells (cW w), .cells (cW A), .cells (cW A)] (.ptr 0 off) = some ((cW w).drop off) := fun _ => rfl
    have y1 : cellsAt [.cells (cW w), .cells (cW A), .cells (cW A)] (.ptr 1 0) = some (cW A) := rfl
    have y12 : cellsAt [.cells (cW w), .cells (cW A), .cells (cW A)] (.ptr 1 2) = some ((cW A).drop 2) := rfl
    have y2 : cellsAt [.cells (cW w), .cells (cW A), .cells (cW A)] (.ptr 2 0) = some (cW A) := rfl
    have x10 : cellsAt [.cells (cW w), .cells (cW A)] (.ptr 1 0) = some (cW A) := rfl
    rw [decide_eq_true (rfl : A = A)] at hsame
    clear x0
    simp [zZd.b25, zZd.r21, k1, k3, k9, hl, x1, qZO, cj]
    simp [zZd.r26, zZd.r27, k1, k3, k9, hl, x10, okW, hagain, evExt, st2, y0, y1, y12, y2, hsame, hql, qZO, evPick]
 obtain ⟨h', hb⟩ := this
 exact vZG (h := H) zZd.Φ rfl (args := [.agg (cW w)]) rfl hb rfl
end Go.Proofs.Ob
