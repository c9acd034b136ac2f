/- Pop; what waits for an element; lists that begin alike. Lists that begin alike; Pop. No conditions. -/
import Derived.Test.YtoakkanklhfpmaaGreatDoorRcQ
set_option maxHeartbeats 16000000
set_option maxRecDepth 100000
set_option linter.unusedVariables false
set_option linter.unusedSimpArgs false
set_option linter.unusedSectionVars false
namespace Go.Proofs.Rc
open Go Go.Ev
theorem wait_take {s : Rs} {i : Nat} {q : Qu} {h : Int} (hq : s.qs[i]? = some q) (hw : ∀ x ∈ s.qs.take i, x.el ≠ h) (he : q.el = h) : waitB s h = q.l := by
 unfold waitB
 have hi := (List.getElem?_eq_some_iff.1 hq).1
 have e : s.qs[i] = q := Option.some.inj ((List.getElem?_eq_getElem hi).symm.trans hq)
 rw [(List.find?_eq_some_iff_getElem (p := fun q => q.el == h) (xs := s.qs) (b := q)).2 ⟨by simpa using he, i, hi, e, fun j hj => by
  have := hw s.qs[j] (List.mem_take_iff_getElem.2 ⟨j, by omega, rfl⟩)
  simpa using this⟩]
theorem wZa (s : Rs) (z : SzS s) (h : Int) (H : Heap) : callW Φ zZB [.agg (cS s), .int .i64 h] H = some (.arr ((waitB s h).map cX), H) := by
 refine jZ2 zZB.Φ rfl (args := [.agg (cS s), .int .i64 h]) rfl ?_
 obtain ⟨P, hP⟩ : ∃ P : V → Heap → Prop, P = fun r h2 => ∃ h3, fz fzDepth h2 r = some (.arr ((waitB s h).map cX), h3) := ⟨_, rfl⟩
 suffices hgo : ∃ r h', evBodyW (callW Φ) zZB.c [.agg (cS s), .int .i64 h] [] = some (r, h') ∧ P r h' by rw [hP] at hgo; exact hgo
 have hPz : ∀ r h2 h3, fz fzDepth h2 r = some (.arr ((waitB s h).map cX), h3) → P r h2 := fun r h2 h3 hz => by rw [hP]; exact ⟨h3, hz⟩
 have hPn : ∀ r h2, flatN2 r = true → nz2 r = .arr ((waitB s h).map cX) → P r h2 := fun r h2 h h1 => hPz r h2 h2 (by rw [← h1]; exact wZI h)
 clear hP
 refine xZx (Nat.le_of_ble_eq_true rfl) (fun env he h0 => ?_)
 have g0 := h0 0 (by simp)
 change eget env 0 = .agg (cS s) at g0
 have g1 := h0 1 (by simp)
 change eget env 1 = .int .i64 h at g1
 clear h0
 simp [zZB.c] at he
 obtain ⟨z1, z2, z3, z4, z5⟩ := z
 have b0 : evBox [] (cS s) = some (.ptr 0 0, [.cells (cS s)]) := wZs [] _ rfl
 have hcc : (V.agg (cS s)).cells = cS s := rfl
 have c0 : cellsAt [.cells (cS s)] (.ptr 0 0) = some (cS s) := rfl
 have okq : ∀ H : Heap, okCells H none (some (cS s)) = some (.arr (s.qs.map cQu), H) := fun _ => rfl
 simp [zZB.c, zZB.r0, zZB.r1, zZB.r7, g0, g1, he, hcc, b0]
 refine kLoop (fun m st => ∃ i : Nat, m = s.qs.length - i ∧ i ≤ s.qs.length ∧ eget st.env 1 = .int .i64 h ∧ eget st.env 2 = .ptr 0 0 ∧ eget st.env 5 = .int .i64 i ∧ st.env.length = 27 ∧ st.marks = [] ∧ st.heap = [.cells (cS s)] ∧ ∀ x ∈ s.qs.take i, x.el ≠ h) s.qs.length
  ⟨0, rfl, by omega, by simp [he, g1], by simp [he], by simp [he], by simpa using he, rfl, rfl, by simp⟩ ?_
 rintro m ⟨env, mk, S⟩ ⟨i, rfl, hi, k1, k2, k5, hl, hm, hS, hw⟩
 simp only at hm k1 k2 k5 hl hS
 obtain rfl := hm
 obtain rfl := hS
 by_cases c : i < s.qs.length
 ·have c1 : (i : Int) < s.qs.length := by omega
  obtain ⟨q, hq⟩ : ∃ q, s.qs[i]? = some q := ⟨_, List.getElem?_eq_getElem c⟩
  have ia := jZq (h := [.cells (cS s)]) (k := .i64) hq
  have wr := wrap64 (n := (i : Int) + 1) (by omega) (by omega)
  cases e1 : (q.el == h)
  ·have e2 : q.el ≠ h := by simpa using e1
   simp [zZB.b6, zZB.r2, zZB.r3, zZB.r4, zZB.r5, k1, k2, k5, hl, c0, okq, c1, ia, vZa, wr, cQu, e1]
   refine ⟨s.qs.length - (i + 1), by omega, i + 1, rfl, by omega, by simp, fun x hx => ?_⟩
   rw [List.take_add_one, hq] at hx
   rcases List.mem_append.1 hx with hx | hx
   ·exact hw x hx
   ·simp at hx
    subst hx; exact e2
  ·have e2 : q.el = h := by simpa using e1
   have hwt := wait_take hq hw e2
   have fin := hPn (.arr (q.l.map cX)) [.cells (cS s)] rfl (by rw [hwt]; rfl)
   simp [zZB.c, zZB.r0, zZB.r1, zZB.r7, zZB.b6, zZB.r2, zZB.r3, zZB.r4, zZB.r5, k1, k2, k5, hl, c0, okq, c1, ia, vZa, cQu, e1, fin]
 ·have c1 : ¬ (i : Int) < s.qs.length := by omega
  rw [List.take_of_length_le (by omega)] at hw
  have hwt := xZl hw
  have fin := hPn .nils [.cells (cS s)] rfl (by rw [hwt]; rfl)
  simp [zZB.c, zZB.r0, zZB.r1, zZB.r7, zZB.b6, zZB.r2, zZB.r3, zZB.r4, zZB.r5, k1, k2, k5, hl, c0, okq, c1, vZa, fin]
abbrev dX : Eqd := .cons 0 none (.leaf .i) (.cons 1 none (.leaf .i) (.cons 2 none (.leaf .i) (.cons 3 none (.leaf .s) (.cons 4 none (.leaf .s) (.cons 5 none (.leaf .s) (.cons 6 none (.leaf .s) (.cons 7 none (.leaf .s) (.cons 8 none (.leaf .b) (.cons 9 none (.leaf .b) (.cons 10 none (.leaf .i) (.cons 11 none (.leaf .i) .nil)))))))))))
theorem eqc_rx (H : Heap) (a b : Rx) : evEqc H true dX (.agg (cX a)) (.agg (cX b)) = some (.bool (!decide (a = b)), H) := by
 have h : decide (a = b) = (a.el == b.el && ((a.kind : Int) == b.kind && (a.cb == b.cb && (beqS ⟨a.df.toArray⟩ ⟨b.df.toArray⟩ && (beqS ⟨a.loc.toArray⟩ ⟨b.loc.toArray⟩ && (beqS ⟨a.space.toArray⟩ ⟨b.space.toArray⟩ && (beqS ⟨a.old.toArray⟩ ⟨b.old.toArray⟩ && (beqS ⟨a.nw.toArray⟩ ⟨b.nw.toArray⟩ && (a.had == b.had && (a.has == b.has && (a.frm == b.frm && (a.tt == b.tt && true)))))))))))) := by
  simp only [T_beq]
  cases a; cases b
  simp only [Rx.mk.injEq, Bool.and_true]
  have hk : ∀ x y : Nat, ((x : Int) == y) = decide (x = y) := fun x y => by
   by_cases e : x = y
   ·simp [e]
   ·simp [e]; omega
  simp only [hk, Bool.decide_and, Bool.beq_eq_decide_eq]
 have e : eqdV dX (.agg (cX a)) (.agg (cX b)) = some (decide (a = b)) := by
  rw [h]
  obtain ⟨a1, a2, a3, a4, a5, a6, a7, a8, a9, a10, a11, a12⟩ := a
  obtain ⟨b1, b2, b3, b4, b5, b6, b7, b8, b9, b10, b11, b12⟩ := b
  cases a9 <;> cases a10 <;> cases b9 <;> cases b10 <;> rfl
 unfold evEqc
 rw [e]
 simp [okV]
open Go Go.Ev
theorem kZF (a : List Rx) (z : a.length < 2 ^ 62) (H : Heap) : callW Φ zZP [.arr (a.map cX), .arr (a.map cX)] H = some (.bool true, H) := by
 have : ∃ hh, evBodyW (callW Φ) zZP.c [.arr (a.map cX), .arr (a.map cX)] [] = some (.bool true, hh) := by
  refine jZ0 (Nat.le_of_ble_eq_true rfl) (fun env he h0 => ?_)
  have g0 := h0 0 (by simp)
  change eget env 0 = .arr (a.map cX) at g0
  have g1 := h0 1 (by simp)
  change eget env 1 = .arr (a.map cX) at g1
  clear h0
  simp [zZP.c] at he
  simp [zZP.c, zZP.r0, zZP.r1, zZP.r7, g0, g1, he]
  refine kLoop (fun m s => ∃ i : Nat, m = a.length - i ∧ i ≤ a.length ∧ eget s.env 0 = .arr (a.map cX) ∧ eget s.env 1 = .arr (a.map cX) ∧ eget s.env 5 = .int .i64 i ∧ s.env.length = 27 ∧ s.marks = []) a.length
   ⟨0, rfl, by omega, by simpa using g0, by simpa using g1, by simp [he], by simpa using he, rfl⟩ ?_
  rintro m ⟨env, mk, Hh⟩ ⟨i, rfl, hi, k0, k1, k5, hl, hm⟩
  simp only at k0 k1 k5 hl hm
  obtain rfl := hm
  by_cases c : i < a.length
  ·have c1 : (i : Int) < a.length := by omega
   have c2 : ¬ (a.length : Int) ≤ i := by omega
   obtain ⟨x, hx⟩ : ∃ x, a[i]? = some x := ⟨_, List.getElem?_eq_getElem c⟩
   have ia := xZ9 (h := Hh) (k := .i64) hx
   have wr := wrap64 (n := (i : Int) + 1) (by omega) (by omega)
   have eq := eqc_rx Hh x x
   simp at eq
   simp [zZP.b6, zZP.r2, zZP.r4, zZP.r5, k0, k1, k5, hl, vZa, c1]
   refine kDraw1 zZP.r3.ord ?_
   simp [zZP.r3, zZP.b6, zZP.r2, zZP.r4, zZP.r5, k0, k1, k5, hl, vZa, c1, c2, ia, okX1, eq, evPick, wr]
   exact ⟨a.length - (i + 1), by omega, i + 1, rfl, by omega, by simp⟩
  ·have c1 : ¬ (i : Int) < a.length := by omega
   simp [zZP.b6, zZP.r2, zZP.r4, zZP.r5, zZP.c, zZP.r0, zZP.r1, zZP.r7, k0, k1, k5, hl, vZa, c1]
 obtain ⟨h', hb⟩ := this
 exact wZe (h := H) zZP.Φ rfl (args := [.arr (a.map cX), .arr (a.map cX)]) rfl hb rfl
theorem VQ.pop {H : Heap} {sz z : Nat} {v : V} {o : Option Nat} {os : List (Option Nat)} {ps : List (List V)} {p : List V} (h : VQ H sz z v o os (ps ++ [p]) []) :
  ∃ v' os' ex' oe, sliceV .l H sz v none (some (.int .i64 ps.length)) = some v' ∧ VQ H sz z v' o os' ps ex' ∧ (∀ k, some k ∈ os' → some k ∈ os) ∧ os[ps.length]? = some oe ∧ ∀ k, oe = some k → some k ∈ os ∧ o ≠ some k ∧ some k ∉ os' := by
 rcases h with ⟨_, h2, _⟩ | ⟨id, ep, es, rfl, rfl, hr, hs, hn⟩
 ·simp at h2
 ·have hl := hs.len
  simp only [List.length_append, List.length_cons, List.length_nil] at hl
  obtain ⟨sA, sB, sC⟩ := hs.td ps.length
  rw [List.take_left] at sA
  obtain ⟨oe, hoe⟩ : ∃ oe, os[ps.length]? = some oe := ⟨_, List.getElem?_eq_getElem (by omega)⟩
  refine ⟨.sl id ep 0 ps.length, os.take ps.length, es.drop ps.length, oe, ?_, .inr ⟨id, ep, es.take ps.length, rfl, rfl, ?_, sA, fun h => hn (List.mem_of_mem_take h)⟩, fun k h => List.mem_of_mem_take h, hoe, fun k hk => ⟨hk ▸ List.mem_of_getElem? hoe, fun e => hn ?_, fun h2 => ?_⟩⟩
  ·simp only [sliceV, sliceL, hr, lohi, bound, List.length_append, List.length_cons, List.length_nil, Int.toNat_natCast, and_self, if_true]
   rw [if_pos ⟨by omega, by omega⟩]
   simp
  ·rw [List.append_nil] at hr
   rw [List.take_append_drop]; exact hr
  ·cases e
   rw [← hk]; exact List.mem_of_getElem? hoe
  ·have hd : oe ∈ os.drop ps.length := by
    rw [List.drop_eq_getElem_cons (by omega), Option.some.inj ((List.getElem?_eq_getElem (by omega : ps.length < os.length)).symm.trans hoe)]
    simp
   exact sC _ h2 _ hd k rfl hk
theorem El.toT {H : Heap} {e : List V} {o : Option Nat} {l : List Int} (h : El H 1 e o (cL l)) : ∃ v, e = [v] ∧ VS H 1 v o (l.map cI) := by
 obtain ⟨a, b, v, xs, rfl, h2, h3, h4, h5⟩ := h
 match a, b, h2 with
 | [], [], h2 =>
  simp only [cL, List.nil_append, List.cons.injEq, and_true, V.arr.injEq] at h2
  rw [← h2] at h5
  exact ⟨v, rfl, h5⟩
 | a0 :: ar, _, h2 => simp [cL] at h2
 | [], b0 :: br, h2 => simp [cL] at h2
def popR (s : Rs) : V := if rightB s = false then .tup [.agg (cS {}), .arr [], .int .i64 15] else if s.st = [] then .tup [.agg (cS {}), .arr [], .int .i64 11] else
 .tup [.agg (cS ⟨s.qs, s.st.dropLast, s.bk, s.busy⟩), .arr ((s.st.getLastD []).map cI), .int .i64 0]
theorem xZr (s : Rs) (z : SzS s) (H : Heap) : callW Φ zZY [.agg (cS s)] H = some (popR s, H) := by
 refine jZ2 zZY.Φ rfl (args := [.agg (cS s)]) rfl ?_
 obtain ⟨P, hP⟩ : ∃ P : V → Heap → Prop, P = fun r h2 => ∃ h3, fz fzDepth h2 r = some (popR s, h3) := ⟨_, rfl⟩
 suffices hgo : ∃ r h', evBodyW (callW Φ) zZY.c [.agg (cS s)] [] = some (r, h') ∧ P r h' by rw [hP] at hgo; exact hgo
 have hPz : ∀ r h2 h3, fz fzDepth h2 r = some (popR s, h3) → P r h2 := fun r h2 h3 hz => by rw [hP]; exact ⟨h3, hz⟩
 have hPn : ∀ r h2, flatN2 r = true → nz2 r = popR s → P r h2 := fun r h2 h h1 => hPz r h2 h2 (by rw [← h1]; exact wZI h)
 clear hP
 refine xZx (Nat.le_of_ble_eq_true rfl) (fun env he h0 => ?_)
 have g0 := h0 0 (by simp)
 change eget env 0 = .agg (cS s) at g0
 clear h0
 simp [zZY.c] at he
 have b0 : evBox [] (cS s) = some (.ptr 0 0, [.cells (cS s)]) := wZs [] _ rfl
 have hcc : (V.agg (cS s)).cells = cS s := rfl
 have ok4 : ∀ H : Heap, okCells H (some 4) (some (cS s)) = some (.agg (cS s), H) := fun _ => rfl
 have hck := wZi s z
 have c0 : cellsAt [.cells (cS s), .cells z4] (.ptr 0 0) = some (cS s) := rfl
 have cst : cellsAt [.cells (cS s), .cells z4] (.ptr 0 1) = some ((cS s).drop 1) := rfl
 have st4 : evStoreV [.cells (cS s), .cells z4] 4 (.ptr 1 0) (.agg z4) = some (V.non, [.cells (cS s), .cells z4]) := vZE (H := [.cells (cS s), .cells z4]) (id := 1) (B := z4) rfl rfl rfl rfl
 have c1 : cellsAt [.cells (cS s), .cells z4] (.ptr 1 0) = some z4 := rfl
 have bd4 : ∀ H : Heap, evBuild H z4 [] = some (.agg z4, H) := fun _ => rfl
 have of4 : ∀ a b c : V, ∀ t : Bool, ofCells (some 4) [a, b, c, .bool t] = some (.agg [a, b, c, .bool t]) := fun _ _ _ _ => rfl
 cases hr : rightB s
 ·rw [hr] at hck
  have ht : popR s = .tup [.agg (cS {}), .arr [], .int .i64 15] := by unfold popR; rw [if_pos hr]
  rw [ht] at hPz
  have fin := hPz (.tup [.agg z4, .nils, .int .i64 15]) [.cells (cS s), .cells z4] _ rfl
  simp at hck
  simp [zZY.c, zZY.r0, zZY.r1, zZY.r2, zZY.r3, zZY.r4, zZY.r5, zZY.r6, zZY.r7, zZY.r8, zZY.r9, g0, he, hcc, b0, c0, cst, vZa, ok4, hck, bd4, st4, c1, of4, fin]
 rw [hr] at hck
 simp at hck
 by_cases ce : s.st = []
 ·have ht : popR s = .tup [.agg (cS {}), .arr [], .int .i64 11] := by unfold popR; rw [if_neg (by rw [hr]; simp), if_pos ce]
  rw [ht] at hPz
  have fin := hPz (.tup [.agg z4, .nils, .int .i64 11]) [.cells (cS s), .cells z4] _ rfl
  simp [zZY.c, zZY.r0, zZY.r1, zZY.r2, zZY.r3, zZY.r4, zZY.r5, zZY.r6, zZY.r7, zZY.r8, zZY.r9, g0, he, hcc, b0, c0, cst, vZa, ok4, hck, ce, bd4, st4, c1, of4, fin]
 have ht : popR s = .tup [.agg (cS ⟨s.qs, s.st.dropLast, s.bk, s.busy⟩), .arr ((s.st.getLastD []).map cI), .int .i64 0] := by unfold popR; rw [if_neg (by rw [hr]; simp), if_neg ce]
 rw [ht] at hPz
 obtain ⟨D, x, hDx⟩ : ∃ D x, s.st = D ++ [x] := ⟨s.st.dropLast, s.st.getLast ce, (List.dropLast_concat_getLast ce).symm⟩
 have hdl : s.st.dropLast = D := by rw [hDx]; simp
 have hgl : s.st.getLastD [] = x := by rw [hDx]; simp
 rw [hdl, hgl] at hPz
 have hlen : s.st.length = D.length + 1 := by rw [hDx]; simp
 obtain ⟨hok, hst⟩ := right_sz hr
 obtain ⟨r1, H1, ho, v0, v1, v2, o0, o1, o2, os0, os1, rfl, hk1, hl1, hw⟩ := wZV s z [.cells (cS s), .cells z4]
 simp only [List.length_cons, List.length_nil, Nat.zero_add, Nat.reduceAdd] at hk1 hl1 hw
 have hcell : ([v0, v1, v2, .bool s.busy] : List V).all V.isCell = true := by simp only [List.all_cons, List.all_nil, hw.q.cell.1, hw.t.cell.1, hw.b.cell.1]; rfl
 obtain ⟨H2, hH2⟩ : ∃ H2, H2 = H1 ++ [Ob.cells [v0, v1, v2, .bool s.busy]] := ⟨_, rfl⟩
 have st9 : evStoreV (H1 ++ [.cells z4]) 4 (.ptr H1.length 0) (.agg [v0, v1, v2, .bool s.busy]) = some (V.non, H2) := by rw [hH2]; exact wZO rfl rfl hcell
 have k2 : ∀ j, j < H1.length → H2[j]? = H1[j]? := fun j hj => by rw [hH2, List.getElem?_append_left hj]
 have p2 : H2[H1.length]? = some (.cells [v0, v1, v2, .bool s.busy]) := by rw [hH2]; exact xZ4 _ _
 have hw2 := hw.mono2 (H' := H2) fun id h => k2 id (hw.lt h)
 have hl2 : H2.length = H1.length + 1 := by rw [hH2]; simp
 have ht2 := hw2.t
 rw [hDx, List.map_append] at ht2
 have hv1 := hw.t.cell.1
 have cv : cellsAt H2 (.ptr H1.length 1) = some [v1, v2, .bool s.busy] := qZo p2 1
 have okv : ∀ S : Heap, okCells S none (some [v1, v2, .bool s.busy]) = some (v1, S) := fun S => by simp [okCells, hv1]
 obtain ⟨v1', os1', ex1', oe, sl, hq', hsub, hoe, hap⟩ := ht2.pop
 obtain ⟨id, ep, e, oe', _, ia, ca, hE, hoe'⟩ := ht2.at (i := D.length) (p := cL x) (by simp)
 obtain ⟨w, rfl, hwv⟩ := hE.toT
 have hoo : oe' = oe := by
  rw [List.length_map] at hoe
  rw [hoe] at hoe'; exact (Option.some.inj hoe').symm
 rw [hoo] at hwv
 have ca0 : cellsAt H2 (.eptr id ep D.length 0) = some [w] := ca 0
 have okw : ∀ S : Heap, okCells S none (some [w]) = some (w, S) := fun S => by simp [okCells, hwv.cell.1]
 have s5 := wZF (off := 1) p2 (by simp) hq'.cell
 obtain ⟨H3, hH3⟩ : ∃ H3, H3 = H2.set H1.length (.cells [v0, v1', v2, .bool s.busy]) := ⟨_, rfl⟩
 have s5' : evStoreV H2 1 (.ptr H1.length 1) v1' = some (V.non, H3) := by rw [hH3]; exact s5
 have p3 : H3[H1.length]? = some (.cells [v0, v1', v2, .bool s.busy]) := by rw [hH3]; exact wZd p2 _
 have k3 : ∀ j, j ≠ H1.length → H3[j]? = H2[j]? := fun j hj => by rw [hH3, List.getElem?_set_ne (Ne.symm hj)]
 have c3 : cellsAt H3 (.ptr H1.length 0) = some [v0, v1', v2, .bool s.busy] := qZo p3 0
 have ok3 : ∀ S : Heap, okCells S (some 4) (some [v0, v1', v2, .bool s.busy]) = some (.agg [v0, v1', v2, .bool s.busy], S) := fun _ => rfl
 have hcell3 : ([v0, v1', v2, .bool s.busy] : List V).all V.isCell = true := by simp only [List.all_cons, List.all_nil, hw.q.cell.1, hq'.cell.1, hw.b.cell.1]; rfl
 have x1 : H3[1]? = some (.cells z4) := by rw [k3 1 (by omega), k2 1 (by omega), hk1 1 (by omega)]; rfl
 have s6 := vZE (H := H3) (id := 1) (n := 4) (A := [v0, v1', v2, .bool s.busy]) (B := z4) x1 rfl rfl hcell3
 obtain ⟨H4, hH4⟩ : ∃ H4, H4 = H3.set 1 (.cells [v0, v1', v2, .bool s.busy]) := ⟨_, rfl⟩
 rw [← hH4] at s6
 have cr : cellsAt H4 (.ptr 1 0) = some [v0, v1', v2, .bool s.busy] := by rw [hH4]; exact qZo (wZd x1 _) 0
 have k4 : ∀ j, 2 ≤ j → j < H1.length → H4[j]? = H2[j]? := fun j h1 h2 => by rw [hH4, List.getElem?_set_ne (by omega), k3 j (by omega)]
 have hub : ∀ k, Ow o1 os1' k → Ow o1 os1 k := fun k h => h.imp (fun h => h) fun h => hsub k h
 have hwN : Own H2 2 v0 v1' v2 o0 o1 o2 os0 os1' s.qs D s.bk [] ex1' := ⟨hw2.q, hq', hw2.b, hw2.l0, fun k h => hw2.l1 k (hub k h), hw2.l2, fun k h h2 => hw2.a01 k h (hub k h2), hw2.a02, fun k h => hw2.a12 k (hub k h)⟩
 have hlt1 : ∀ k, (Ow o0 os0 k ∨ Ow o1 os1 k ∨ o2 = some k) → k < H1.length := fun k h => hw.lt h
 have hw4 := hwN.mono2 (H' := H4) fun k h => k4 k (h.elim (hwN.l0 k) (fun h => h.elim (hwN.l1 k) (hwN.l2 k))) (hlt1 k (h.imp (fun h => h) fun h => h.imp (hub k) fun h => h))
 have hoe1 : ∀ k, oe = some k → Ow o1 os1 k := fun k h => .inr (hap k h).1
 have hwv4 := hwv.mono (h' := H4) fun k h => k4 k (hw.l1 k (hoe1 k h)) (hlt1 k (.inr (.inl (hoe1 k h))))
 obtain ⟨H5, f5⟩ := hw4.fzT (b := s.busy) hwv4 (fun k h h2 => by
  rcases h2 with h2 | h2 | h2
  ·exact hw.a01 k h2 (hoe1 k h)
  ·rcases h2 with h2 | h2
   ·exact (hap k h).2.1 h2
   ·exact (hap k h).2.2 h2
  ·exact hw.a12 k (hoe1 k h) h2) (rest := [.int .i64 0]) (fun H => rfl)
 have fin := hPz _ _ _ f5
 have ne : (((D.length : Int) + 1) == 0) = false := by rw [beq_eq_false_iff_ne]; omega
 have ws := wrap64 (n := (D.length : Int) + 1 - 1) (by have := z.2.1; omega) (by have := z.2.1; omega)
 rw [show (D.length : Int) + 1 - 1 = D.length by omega] at ws
 rw [List.length_map] at sl
 simp [zZY.c, zZY.r0, zZY.r1, zZY.r2, zZY.r4, zZY.r6, zZY.r7, zZY.r8, zZY.r9, g0, he, hcc, b0, c0, cst, vZa, ok4, hck, hlen, ne, ho, st9, cv, okv, ws, ia, ca0, okw, sl, s5', c3, ok3, s6, cr, of4, fin]
end Go.Proofs.Rc
