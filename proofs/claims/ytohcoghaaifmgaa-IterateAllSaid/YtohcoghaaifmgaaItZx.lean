/- What becomes of an iterator when a node is about to be removed. What becomes of an iterator when a node is about to be removed: the program's answer. No conditions. -/
import Derived.Test.YtohcoghaaifmgaaItZw
set_option maxHeartbeats 16000000
set_option maxRecDepth 100000
set_option linter.unusedVariables false
set_option linter.unusedSimpArgs false
set_option linter.unusedSectionVars false
namespace Go.Proofs.It
open Go Go.Ev
def behind (f : List Nd) (i : Itr) (node : Int) : Nat := (place (allW f i.root) node 0 + (allW f node).length).toNat
def remRef (f : List Nd) (node : Int) : Int := if besideI f node (-1) = 0 then par f node else (allW f (besideI f node (-1))).getLast?.getD 0
noncomputable def remI (f : List Nd) (i : Itr) (node : Int) : Itr :=
 if holdsF f node i.ref && !(holdsF f node i.root) then
  (if i.before && decide (behind f i node < (allW f i.root).length) then { i with ref := (allW f i.root).getD (behind f i node) 0 } else { i with ref := remRef f node, before := false })
 else i
theorem xZc {f : List Nd} (R : right f = true) {h : Int} (hi : is_ f h = true) :
  (indexI f h = 0 ∧ besideI f h (-1) = 0) ∨ ∃ (k : Nat) (s : Int), indexI f h = ((k + 1 : Nat) : Int) ∧ (kds f (par f h))[k]? = some s ∧ besideI f h (-1) = s ∧ is_ f s = true ∧ is_ f (par f h) = true ∧ s ≠ 0 := by
 rcases jZK R hi with h0 | ⟨hp, hm⟩
 ·left
  simp [indexI, besideI, h0]
 ·have hp0 : par f h ≠ 0 := by intro e; rw [e, is0] at hp; cases hp
  obtain ⟨k, h1, h2, h3⟩ := jZJ hm
  have hI : indexI f h = k := by simp [indexI, hp0, h1]
  cases k with
  | zero =>
   left
   refine ⟨by rw [hI]; rfl, ?_⟩
   simp [besideI, hp0, h1]
  | succ k =>
   right
   have hx : (kds f (par f h))[k]? = some ((kds f (par f h)).getD k 0) := by
    rw [List.getD_eq_getElem?_getD, List.getElem?_eq_getElem (by omega)]; rfl
   have hs := (vZh R hp (List.mem_of_getElem? hx)).1
   refine ⟨k, _, hI, hx, ?_, hs, hp, ?_⟩
   ·have e : ((k + 1 : Nat) : Int) + -1 = k := by omega
    simp only [besideI, if_neg hp0, h1, e]
    rw [if_neg (by omega)]
    rfl
   ·intro e; rw [e, is0] at hs; cases hs
theorem rem_tail {f : List Nd} (z : Sz f) (R : right f = true) {P : V → Heap → Prop} {j : Itr} {p s y u : Int} {k : Nat} {L : List Int} (hpi : is_ f p = true) (hkx : (kds f p)[k]? = some s) (hsi : is_ f s = true) (hL : allW f s = L ++ [y]) (hu : u = ((k + 1 : Nat) : Int))
  {H2 H3 H4 : Heap} (cH2 : cellsAt H2 (.ptr 0 0) = some [.arr (f.map cN)]) (st3 : evStoreV H2 1 (.ptr 1 1) (.int .i64 y) = some (V.non, H3)) (cH3 : cellsAt H3 (.ptr 1 0) = some (cIt j)) (st4 : evStoreV H3 5 (.ptr 2 0) (eIt j) = some (V.non, H4)) (cH4 : cellsAt H4 (.ptr 2 0) = some (cIt j)) (hfin : ∀ H, P (eIt j) H)
  {env : List V} (he : env.length = 85) (t3 : eget env 3 = .ptr 0 0) (t4 : eget env 4 = .ptr 1 0) (t6 : eget env 6 = .ptr 2 0) (t10 : eget env 10 = .int .i64 p) (t11 : eget env 11 = .int .i64 u) :
  WK (callW Φ) none (FinX [.cell 6 (some 5)] P) [It.c (.draw zZd.r15 [[], [], [], [1, 2], [3], [], [5], [4, 6], [7], [0, 8, 3], [9, 9, 0, 1, 2, 3, 4, 5, 6, 7, 8, 9]] [2, 4, 5, 6, 7, 10]), It.c (.seq (.region zZd.r16) (.seq (.region zZd.r17) .ret))] { env := env, marks := [], heap := H2 } := by
 have hO2 := fun H => vZk f p z.len (vZt.1 hpi).1 (vZt.1 hpi).2 H
 have hF9 : ∀ H, evField H 9 none (.agg (cN (at_ f p))) = some (.arr ((kds f p).map cI), H) := fun _ => rfl
 have hkk : (kds f p).length < 2 ^ 50 := z.atk _
 have hkl := (List.getElem?_eq_some_iff.1 hkx).1
 have hle := vZp R
 have hwk : IntKind.i64.wrap (u - 1) = (k : Int) := by rw [show u - 1 = k by omega, Ev.wrap64] <;> omega
 have ha := fun H => qZj (h := H) (k := .i64) qZY hkx
 have hA3 := fun H => vZo z R hsi H
 have hlen4 : (allW f s).length ≤ _ := vZz R f.length hsi
 rw [hL] at hA3 hlen4
 have hLl : (L ++ [y]).length = L.length + 1 := by simp
 rw [hLl] at hlen4
 have ha2 := fun H => qZj (h := H) (k := .i64) qZY (show (L ++ [y])[L.length]? = some y by simp)
 obtain ⟨A, hAe⟩ : ∃ A, A = (L ++ [y]).map cI := ⟨_, rfl⟩
 obtain ⟨v, hv⟩ : ∃ v : Int, v = ((L.length + 1 : Nat) : Int) := ⟨_, rfl⟩
 have hAl : ∀ H, evLen H .l (.arr A) = some (.int .i64 v, H) := fun H => by rw [len_arr, hAe, hv]; simp
 have hwl : IntKind.i64.wrap (v - 1) = (L.length : Int) := by rw [show v - 1 = L.length by omega, Ev.wrap64] <;> omega
 simp only [eF, eI, eN] at hA3 hO2
 rw [← hAe] at hA3 ha2
 refine kDraw2 zZd.r15.ord ?_
 simp (config := { maxSteps := 5000000 }) [zZd.r15, zZd.r16, zZd.r17, List.filterMap_cons, t3, t4, t6, t10, t11, he, cH2, hO2, hF9, hwk, ha, cellI, hA3, hAl, hwl, ha2, st3, cH3, okIt, st4, cH4, ofIt, hfin]
 try (simp only [kZK, wZV, List.cons_append, List.nil_append]; exact kZJ _ rfl rfl rfl rfl)
theorem jZr (f : List Nd) (z : Sz f) (i : Itr) (hc : checkI f i = 0) (node : Int) (hi : is_ f node = true) (H : Heap) : callW Φ zZd [eF f, eIt i, .int .i64 node] H = some (eIt (remI f i node), H) := by
 refine qZ8 zZd.Φ rfl (args := [eF f, eIt i, .int .i64 node]) rfl ?_
 obtain ⟨P, hP⟩ : ∃ P : V → Heap → Prop, P = fun r h2 => ∃ h3, fz fzDepth h2 r = some (eIt (remI f i node), h3) := ⟨_, rfl⟩
 suffices hgo : ∃ r h', evBodyW (callW Φ) zZd.c [eF f, eIt i, .int .i64 node] [] = some (r, h') ∧ P r h' by rw [hP] at hgo; exact hgo
 have hPz : ∀ r h2 h3, fz fzDepth h2 r = some (eIt (remI f i node), h3) → P r h2 := fun r h2 h3 hz => by rw [hP]; exact ⟨h3, hz⟩
 have hPn : ∀ r h2, flatN2 r = true → nz2 r = eIt (remI f i node) → P r h2 := fun r h2 h h1 => hPz r h2 h2 (by rw [← h1]; exact qZ0 h)
 clear hP
 obtain ⟨K0, hK0⟩ : ∃ K0 : Heap, K0 = [cF f] := ⟨_, rfl⟩
 obtain ⟨K1, hK1⟩ : ∃ K1 : Heap, K1 = [cF f, .cells (cIt i)] := ⟨_, rfl⟩
 obtain ⟨K2, hK2⟩ : ∃ K2 : Heap, K2 = [cF f, .cells (cIt i), .cells zIt] := ⟨_, rfl⟩
 have hb0 : evBox [] [.arr (f.map cN)] = some (.ptr 0 0, K0) := by rw [hK0]; exact qZd [] rfl
 have hb1 : evBox K0 (cIt i) = some (.ptr 1 0, K1) := by rw [hK0, hK1]; exact qZd _ rfl
 have l1 : K1.length = 2 := by rw [hK1]; rfl
 have e2 : K1 ++ [.cells zIt] = K2 := by rw [hK1, hK2]; rfl
 have cK : ∀ j, cellsAt [cF f, .cells (cIt j), .cells zIt] (.ptr 0 0) = some [.arr (f.map cN)] := fun j => rfl
 have cK2 : cellsAt K2 (.ptr 0 0) = some [.arr (f.map cN)] := by rw [hK2]; rfl
 have k1 : K2[1]? = some (.cells (cIt i)) := by rw [hK2]; rfl
 have c1 := qZv k1
 have k2 : K2[2]? = some (.cells zIt) := by rw [hK2]; rfl
 have lt2 := (List.getElem?_eq_some_iff.1 k2).1
 obtain ⟨R, hr1, hr2, hh, hl64, hwr⟩ := checkI0 hc
 have hle := vZp R
 have hH1 := fun H => vZm z R node hr2 H
 have hH2 := fun H => vZm z R node hr1 H
 have hA1 := fun H => vZo z R hr1 H
 have hA2 := fun H => vZo z R hi H
 have hlen1 : (allW f i.root).length ≤ _ := vZz R f.length hr1
 have hlen2 : (allW f node).length ≤ _ := vZz R f.length hi
 have hlen3 : 1 ≤ (allW f node).length := by
  have := allF_ne f f.length node
  unfold allW
  cases h : allF f f.length node with
  | nil => exact absurd h this
  | cons x l => simp
 have hpb := vZ6 (allW f i.root) node 0
 have hP1 := fun H => vZd (allW f i.root) node (by omega) H
 have hrem : remI f i node = if holdsF f node i.ref && !(holdsF f node i.root) then
   (if i.before && decide (behind f i node < (allW f i.root).length) then { i with ref := (allW f i.root).getD (behind f i node) 0 } else { i with ref := remRef f node, before := false })
  else i := rfl
 obtain ⟨q, hq⟩ : ∃ q : Nat, (q : Int) = place (allW f i.root) node 0 + (allW f node).length := ⟨(place (allW f i.root) node 0 + (allW f node).length).toNat, by omega⟩
 have hbq : behind f i node = q := by unfold behind; omega
 rw [hbq] at hrem
 have hwq : IntKind.i64.wrap (place (allW f i.root) node 0 + (allW f node).length) = (q : Int) := by rw [← hq, Ev.wrap64] <;> omega
 have hO := fun H => vZk f node z.len (vZt.1 hi).1 (vZt.1 hi).2 H
 have hF8 : ∀ H, evField H 8 none (.agg (cN (at_ f node))) = some (.int .i64 (par f node), H) := fun _ => rfl
 have hX := fun H => kZv f z node hi ((jZK R hi).imp id fun h => h.1) H
 simp only [eF, eI, eN] at hH1 hH2 hA1 hA2 hP1 hO hX
 refine vZv (Nat.le_of_ble_eq_true rfl) (fun env he h0 => ?_)
 have g0 := h0 0 (by simp)
 change eget env 0 = .agg [.arr (f.map cN)] at g0
 have g1 := h0 1 (by simp)
 change eget env 1 = eIt i at g1
 have g2 := h0 2 (by simp)
 change eget env 2 = .int .i64 node at g2
 clear h0
 simp [zZd.c] at he
 have hfin : ∀ H, P (eIt (remI f i node)) H := fun H => hPn _ _ rfl rfl
 cases h1 : holdsF f node i.ref with
 | false =>
  have : remI f i node = i := by rw [hrem, h1]; rfl
  rw [this] at hfin
  rw [h1] at hH1
  have c5 : cellsAt (K2.set 2 (.cells (cIt i))) (.ptr 2 0) = some (cIt i) := by simp [cellsAt, lt2]
  simp [zZd.c, zZd.r0, zZd.r1, zZd.r2, zZd.r3, zZd.r4, zZd.r5, zZd.r6, zZd.r7, zZd.r8, zZd.r9, zZd.r10, zZd.r11, zZd.r12, zZd.r13, zZd.r14, zZd.r16, zZd.r17, g0, g1, g2, he, ccF, ccIt, hb0, hb1, l1, e2, cK2, c1, okIt, okIt0, okIt1, hH1, evPick, storeIt _ k2, c5, ofIt, hfin]
 | true =>
  rw [h1] at hH1
  cases h2 : holdsF f node i.root with
  | true =>
   have : remI f i node = i := by rw [hrem, h1, h2]; rfl
   rw [this] at hfin
   rw [h2] at hH2
   have c5 : cellsAt (K2.set 2 (.cells (cIt i))) (.ptr 2 0) = some (cIt i) := by simp [cellsAt, lt2]
   simp [zZd.c, zZd.r0, zZd.r1, zZd.r2, zZd.r3, zZd.r4, zZd.r5, zZd.r6, zZd.r7, zZd.r8, zZd.r9, zZd.r10, zZd.r11, zZd.r12, zZd.r13, zZd.r14, zZd.r16, zZd.r17, g0, g1, g2, he, ccF, ccIt, hb0, hb1, l1, e2, cK2, c1, okIt, okIt0, okIt1, hH1, hH2, evPick, storeIt _ k2, c5, ofIt, hfin]
  | false =>
   rw [h2] at hH2
   have hrem2 : remI f i node = if i.before && decide (q < (allW f i.root).length) then { i with ref := (allW f i.root).getD q 0 } else { i with ref := remRef f node, before := false } := by rw [hrem, h1, h2]; rfl
   have done : ∀ (x : Int), remI f i node = { i with ref := x, before := false } → ∃ H2, evStoreV K2 1 (.ptr 1 2) (.bool false) = some (V.non, H2) ∧ cellsAt H2 (.ptr 0 0) = some [.arr (f.map cN)] ∧ ∃ H3, evStoreV H2 1 (.ptr 1 1) (.int .i64 x) = some (V.non, H3) ∧ cellsAt H3 (.ptr 1 0) = some (cIt (remI f i node)) ∧ ∃ H4, evStoreV H3 5 (.ptr 2 0) (eIt (remI f i node)) = some (V.non, H4) ∧ cellsAt H4 (.ptr 2 0) = some (cIt (remI f i node)) := by
    intro x hx
    have a1 := storeBef k1 false
    have b1 : (K2.set 1 (.cells (cIt { i with before := false })))[1]? = some (.cells (cIt { i with before := false })) := by rw [hK2]; rfl
    have a2 := storeRef b1 x
    refine ⟨_, a1, by rw [hK2]; rfl, _, a2, by rw [hK2, hx]; rfl, _, storeIt _ (by rw [hK2]; rfl), by rw [hK2]; rfl⟩
   have ending : (i.before && decide (q < (allW f i.root).length)) = false → remI f i node = { i with ref := remRef f node, before := false } := fun h => by rw [hrem2, h]; rfl
   have two : ∀ (env : List V), env.length = 85 → eget env 2 = .int .i64 node → eget env 3 = .ptr 0 0 → eget env 4 = .ptr 1 0 → eget env 6 = .ptr 2 0 → remI f i node = { i with ref := remRef f node, before := false } →
     WK (callW Φ) none (FinX [.cell 6 (some 5)] P) [It.o zZd.r9, It.c (.seq (.region zZd.r10) (.seq (.region zZd.r11) (.seq (.seq (.region zZd.r12) (.cond (.t 63) (.seq (.region zZd.r13) (.seq (.region zZd.r14) .ret)) .skip)) (.seq (.draw zZd.r15 [[], [], [], [1, 2], [3], [], [5], [4, 6], [7], [0, 8, 3], [9, 9, 0, 1, 2, 3, 4, 5, 6, 7, 8, 9]] [2, 4, 5, 6, 7, 10]) (.seq (.region zZd.r16) (.seq (.region zZd.r17) .ret))))))] { env := env, marks := [], heap := K2 } := by
    intro env he t2 t3 t4 t6 hrm
    obtain ⟨H2, st2, cH2, H3, st3, cH3, H4, st4, cH4⟩ := done _ hrm
    rcases xZc R hi with ⟨ix, bx⟩ | ⟨k, s, ix, hkx, bx, hsi, hpi, hs0⟩
    ·have hrr : remRef f node = par f node := by simp [remRef, bx]
     rw [hrr] at st3
     rw [ix] at hX
     simp [zZd.r9, zZd.r10, zZd.r11, zZd.r12, zZd.r13, zZd.r14, t2, t3, t4, t6, he, st2, cH2, hO, hF8, hX, st3, cH3, okIt, st4, cH4, ofIt, hfin]
    ·have hrr : remRef f node = (allW f s).getLast?.getD 0 := by simp [remRef, bx, hs0]
     rw [hrr] at st3
     rw [ix] at hX
     have hxb : (((k + 1 : Nat) : Int) == 0) = false := by simp; omega
     obtain ⟨L, y, hL⟩ : ∃ L y, allW f s = L ++ [y] := ⟨_, _, (List.dropLast_concat_getLast (allF_ne f f.length s)).symm⟩
     rw [hL] at st3
     simp only [List.getLast?_concat, Option.getD_some] at st3
     obtain ⟨u, hu⟩ : ∃ u : Int, u = ((k + 1 : Nat) : Int) := ⟨_, rfl⟩
     rw [← hu] at hX hxb
     simp [zZd.r9, zZd.r10, zZd.r11, zZd.r12, t2, t3, t4, t6, he, st2, cH2, hO, hF8, hX, hxb]
     refine rem_tail z R hpi hkx hsi hL hu cH2 st3 cH3 st4 cH4 hfin ?_ ?_ ?_ ?_ ?_ ?_ <;> simp [he, t3, t4, t6]
   cases hb : i.before with
   | false =>
    have hrm := ending (by rw [hb]; rfl)
    simp [zZd.c, zZd.r0, zZd.r1, zZd.r3, zZd.r4, zZd.r5, zZd.r6, g0, g1, g2, he, ccF, ccIt, hb0, hb1, l1, e2, cK2, c1, okIt, okIt0, okIt1, okIt2, hH1, hH2, hA1, hA2, hP1, hwq, hb, evPick]
    refine two _ ?_ ?_ ?_ ?_ ?_ hrm <;> simp [he, g2]
   | true =>
    by_cases hql : q < (allW f i.root).length
    ·have hrm : remI f i node = { i with ref := (allW f i.root).getD q 0 } := by rw [hrem2, hb]; simp [hql]
     have hx : (allW f i.root)[q]? = some ((allW f i.root).getD q 0) := by rw [List.getD_eq_getElem?_getD, List.getElem?_eq_getElem hql]; rfl
     have ha := fun H => qZj (h := H) (k := .i64) qZY hx
     have a2 := storeRef k1 ((allW f i.root).getD q 0)
     obtain ⟨x, hxe⟩ : ∃ x, x = (allW f i.root).getD q 0 := ⟨_, rfl⟩
     rw [← hxe] at hrm ha a2
     rw [← hrm] at a2
     obtain ⟨H3, hH3⟩ : ∃ H3, H3 = K2.set 1 (.cells (cIt (remI f i node))) := ⟨_, rfl⟩
     rw [← hH3] at a2
     have cH3 : cellsAt H3 (.ptr 1 0) = some (cIt (remI f i node)) := by rw [hH3, hK2]; rfl
     have h32 : H3[2]? = some (.cells zIt) := by rw [hH3, hK2]; rfl
     have st4 := storeIt (remI f i node) h32
     have cH4 : cellsAt (H3.set 2 (.cells (cIt (remI f i node)))) (.ptr 2 0) = some (cIt (remI f i node)) := by rw [hH3, hK2]; rfl
     simp [zZd.c, zZd.r0, zZd.r1, zZd.r3, zZd.r4, zZd.r5, zZd.r6, zZd.r7, zZd.r8, g0, g1, g2, he, ccF, ccIt, hb0, hb1, l1, e2, cK2, c1, okIt, okIt0, okIt1, okIt2, hH1, hH2, hA1, hA2, hP1, hwq, hb, hql, ha, cellI, a2, cH3, st4, cH4, ofIt, hfin, evPick]
    ·have hrm := ending (by rw [hb]; simp; omega)
     simp [zZd.c, zZd.r0, zZd.r1, zZd.r3, zZd.r4, zZd.r5, zZd.r6, g0, g1, g2, he, ccF, ccIt, hb0, hb1, l1, e2, cK2, c1, okIt, okIt0, okIt1, okIt2, hH1, hH2, hA1, hA2, hP1, hwq, hb, hql, evPick]
     refine two _ ?_ ?_ ?_ ?_ ?_ hrm <;> simp [he, g2]
open Go Go.Ev
abbrev kR (f : List Nd) (i j : Itr) : Heap := [cF f, .cells (cIt i), .cells zIt, .cells (cIt j)]
theorem kR_ref (f : List Nd) (i j : Itr) (x : Int) : evStoreV (kR f i j) 1 (.ptr 3 1) (.int .i64 x) = some (V.non, kR f i { j with ref := x }) := storeRef (H := kR f i j) (id := 3) (i := j) rfl x
theorem kR_bef (f : List Nd) (i j : Itr) (b : Bool) : evStoreV (kR f i j) 1 (.ptr 3 2) (.bool b) = some (V.non, kR f i { j with before := b }) := storeBef (H := kR f i j) (id := 3) (i := j) rfl b
theorem kR_it (f : List Nd) (i j k : Itr) : evStoreV (kR f i j) 5 (.ptr 2 0) (eIt k) = some (V.non, [cF f, .cells (cIt i), .cells (cIt k), .cells (cIt j)]) := storeIt (H := kR f i j) (id := 2) k rfl
theorem remP_tail {f : List Nd} (z : Sz f) (R : right f = true) {P : V → Heap → Prop} {i j : Itr} {node : Int} (hi : is_ f node = true) (hfin : ∀ H, P (eIt { j with ref := remRef f node }) H)
  {env : List V} (he : env.length = 67) (t2 : eget env 2 = .int .i64 node) (t3 : eget env 3 = .ptr 0 0) (t7 : eget env 7 = .ptr 3 0) (t6 : eget env 6 = .ptr 2 0) :
  WK (callW Φ) none (FinX [.cell 6 (some 5)] P) [It.o zZc.r11, It.c (.seq (.seq (.region zZc.r12) (.seq (.region zZc.r13) (.cond (.t 61) (.region zZc.r14) .skip))) (.seq (.region zZc.r15) .ret))] { env := env, marks := [], heap := kR f i j } := by
 have hA := fun H => vZx f node z.len H
 have hF8 : ∀ H, evField H 8 none (.agg (cN (at_ f node))) = some (.int .i64 (par f node), H) := fun _ => rfl
 have hB := fun H => kZz f z node (-1) (by omega) H
 simp only [eF, eN] at hA hB
 have c0 : ∀ j, cellsAt (kR f i j) (.ptr 0 0) = some [.arr (f.map cN)] := fun _ => rfl
 have c3 : ∀ j, cellsAt (kR f i j) (.ptr 3 0) = some (cIt j) := fun _ => rfl
 have c4 : ∀ j k, cellsAt [cF f, .cells (cIt i), .cells (cIt k), .cells (cIt j)] (.ptr 2 0) = some (cIt k) := fun _ _ => rfl
 have sr := kR_ref f i
 have si := kR_it f i
 obtain ⟨KR, hKR⟩ : ∃ KR, KR = kR f i := ⟨_, rfl⟩
 obtain ⟨KS, hKS⟩ : ∃ KS : Itr → Itr → Heap, KS = fun j k => [cF f, .cells (cIt i), .cells (cIt k), .cells (cIt j)] := ⟨_, rfl⟩
 have si' : ∀ j k, evStoreV (KR j) 5 (.ptr 2 0) (eIt k) = some (V.non, KS j k) := fun j k => by rw [hKR, hKS]; exact si j k
 have c4' : ∀ j k, cellsAt (KS j k) (.ptr 2 0) = some (cIt k) := fun j k => by rw [hKS]; exact c4 j k
 rw [← hKR] at sr c0 c3 ⊢
 rcases xZc R hi with ⟨ix, bx⟩ | ⟨k, s, ix, hkx, bx, hsi, hpi, hs0⟩
 ·have hrr : remRef f node = par f node := by simp [remRef, bx]
  rw [bx] at hB
  rw [hrr] at hfin
  simp [zZc.r11, zZc.r12, zZc.r13, zZc.r15, t2, t3, t6, t7, he, c0, hA, hF8, sr, hB, c3, okIt, si', c4', ofIt, hfin]
 ·have hrr : remRef f node = (allW f s).getLast?.getD 0 := by simp [remRef, bx, hs0]
  have hsb : (s != 0) = true := by simpa using hs0
  have hL := fun H => jZ3 f z R s hsi H
  simp only [eF] at hL
  rw [bx] at hB
  rw [hrr] at hfin
  obtain ⟨y, hy⟩ : ∃ y, y = (allW f s).getLast?.getD 0 := ⟨_, rfl⟩
  rw [← hy] at hfin hL
  simp [zZc.r11, zZc.r12, zZc.r13, zZc.r14, zZc.r15, t2, t3, t6, t7, he, c0, hA, hF8, sr, hB, hsb, hL, c3, okIt, si', c4', ofIt, hfin]
theorem rem_draw {f : List Nd} {node : Int} {l : List (List V)} {p m q : Int} {H : Heap} (cK : cellsAt H (.ptr 0 0) = some [.arr (f.map cN)]) (hP1 : callW Φ zZo [.arr l, .int .i64 node] H = some (.int .i64 p, H))
  {l2 : List (List V)} (hA2 : callW Φ qZL [.agg [.arr (f.map cN)], .int .i64 node] H = some (.arr l2, H)) (hm : ((l2.length : Nat) : Int) = m) (hw : IntKind.i64.wrap (p + m) = q)
  {Q : Ex → St → Prop} {k : List It} {env : List V} (he : env.length = 67) (t2 : eget env 2 = .int .i64 node) (t3 : eget env 3 = .ptr 0 0) (t6 : eget env 6 = .ptr 2 0) (t7 : eget env 7 = .ptr 3 0) (t8 : eget env 8 = .arr l)
  (hk : ∀ env' : List V, env'.length = 67 → eget env' 2 = .int .i64 node → eget env' 3 = .ptr 0 0 → eget env' 6 = .ptr 2 0 → eget env' 7 = .ptr 3 0 → eget env' 8 = .arr l → eget env' 9 = .int .i64 q → WK (callW Φ) none Q k { env := env', marks := [], heap := H }) :
  WK (callW Φ) none Q (.c (.draw zZc.r6 [[], [], [0, 1], [], [], [3, 4, 2], [5], [2, 6], [7, 5, 0, 1, 2, 3, 4, 5, 6, 7]] [0, 1, 4, 7, 8]) :: k) { env := env, marks := [], heap := H } := by
 refine kDraw2 zZc.r6.ord ?_
 simp [zZc.r6, List.filterMap_cons, t2, t3, t6, t7, t8, he, cK, hP1, hA2, hm, hw]
 refine ⟨?_, hk _ ?_ ?_ ?_ ?_ ?_ ?_ ?_⟩
 ·simp only [kZK, wZV, List.cons_append, List.nil_append]
  exact kZJ _ rfl rfl rfl rfl
 all_goals simp [he, t2, t3, t6, t7, t8]
theorem wZR (f : List Nd) (z : Sz f) (i : Itr) (hc : checkI f i = 0) (node : Int) (hi : is_ f node = true) (H : Heap) : callW Φ zZc [eF f, eIt i, .int .i64 node] H = some (eIt (remI f i node), H) := by
 refine qZ8 zZc.Φ rfl (args := [eF f, eIt i, .int .i64 node]) rfl ?_
 obtain ⟨P, hP⟩ : ∃ P : V → Heap → Prop, P = fun r h2 => ∃ h3, fz fzDepth h2 r = some (eIt (remI f i node), h3) := ⟨_, rfl⟩
 suffices hgo : ∃ r h', evBodyW (callW Φ) zZc.c [eF f, eIt i, .int .i64 node] [] = some (r, h') ∧ P r h' by rw [hP] at hgo; exact hgo
 have hPz : ∀ r h2 h3, fz fzDepth h2 r = some (eIt (remI f i node), h3) → P r h2 := fun r h2 h3 hz => by rw [hP]; exact ⟨h3, hz⟩
 have hPn : ∀ r h2, flatN2 r = true → nz2 r = eIt (remI f i node) → P r h2 := fun r h2 h h1 => hPz r h2 h2 (by rw [← h1]; exact qZ0 h)
 clear hP
 obtain ⟨K0, hK0⟩ : ∃ K0 : Heap, K0 = [cF f] := ⟨_, rfl⟩
 obtain ⟨K1, hK1⟩ : ∃ K1 : Heap, K1 = [cF f, .cells (cIt i)] := ⟨_, rfl⟩
 obtain ⟨K2, hK2⟩ : ∃ K2 : Heap, K2 = [cF f, .cells (cIt i), .cells zIt] := ⟨_, rfl⟩
 obtain ⟨K2', hK2'⟩ : ∃ K2' : Heap, K2' = [cF f, .cells (cIt i), .cells zIt, .cells zIt] := ⟨_, rfl⟩
 obtain ⟨K3, hK3⟩ : ∃ K3 : Heap, K3 = kR f i i := ⟨_, rfl⟩
 have hb0 : evBox [] [.arr (f.map cN)] = some (.ptr 0 0, K0) := by rw [hK0]; exact qZd [] rfl
 have hb1 : evBox K0 (cIt i) = some (.ptr 1 0, K1) := by rw [hK0, hK1]; exact qZd _ rfl
 have l1 : K1.length = 2 := by rw [hK1]; rfl
 have l2 : K2.length = 3 := by rw [hK2]; rfl
 have e2 : K1 ++ [.cells zIt] = K2 := by rw [hK1, hK2]; rfl
 have e3 : K2 ++ [.cells zIt] = K2' := by rw [hK2, hK2']; rfl
 have s3 : evStoreV K2' 5 (.ptr 3 0) (eIt i) = some (V.non, K3) := by
  have := storeIt (H := K2') (id := 3) i (by rw [hK2']; rfl)
  rw [this, hK2', hK3]
  rfl
 have k1' : K2[1]? = some (.cells (cIt i)) := by rw [hK2]; rfl
 have c1' := qZv k1'
 have cK : cellsAt K3 (.ptr 0 0) = some [.arr (f.map cN)] := by rw [hK3]; rfl
 have k1 : K3[1]? = some (.cells (cIt i)) := by rw [hK3]; rfl
 have c1 := qZv k1
 have c3 : cellsAt K3 (.ptr 3 0) = some (cIt i) := by rw [hK3]; rfl
 have s4 : evStoreV K3 5 (.ptr 2 0) (eIt i) = some (V.non, [cF f, .cells (cIt i), .cells (cIt i), .cells (cIt i)]) := by rw [hK3]; exact kR_it f i i i
 have c4 : cellsAt [cF f, .cells (cIt i), .cells (cIt i), .cells (cIt i)] (.ptr 2 0) = some (cIt i) := rfl
 obtain ⟨K4, hK4⟩ : ∃ K4 : Heap, K4 = [cF f, .cells (cIt i), .cells (cIt i), .cells (cIt i)] := ⟨_, rfl⟩
 rw [← hK4] at s4 c4
 obtain ⟨R, hr1, hr2, hh, hl64, hwr⟩ := checkI0 hc
 have hle := vZp R
 have hOw := fun H => vZq i (by omega) H
 have hH1 := fun H => vZT z R node hr2 H
 have hH2 := fun H => vZT z R node hr1 H
 have hA1 := fun H => vZL f z R i.root hr1 H
 have hA2 := fun H => vZL f z R node hi H
 have hlen1 : (allW f i.root).length ≤ _ := vZz R f.length hr1
 have hlen2 : (allW f node).length ≤ _ := vZz R f.length hi
 have hlen3 : 1 ≤ (allW f node).length := by
  have := allF_ne f f.length node
  unfold allW
  cases h : allF f f.length node with
  | nil => exact absurd h this
  | cons x l => simp
 have hpb := vZ6 (allW f i.root) node 0
 have hP1 := fun H => vZl (allW f i.root) node (by omega) H
 have hrem : remI f i node = if holdsF f node i.ref && !(holdsF f node i.root) then
   (if i.before && decide (behind f i node < (allW f i.root).length) then { i with ref := (allW f i.root).getD (behind f i node) 0 } else { i with ref := remRef f node, before := false })
  else i := rfl
 obtain ⟨q, hq⟩ : ∃ q : Nat, (q : Int) = place (allW f i.root) node 0 + (allW f node).length := ⟨(place (allW f i.root) node 0 + (allW f node).length).toNat, by omega⟩
 have hbq : behind f i node = q := by unfold behind; omega
 rw [hbq] at hrem
 have hwq : IntKind.i64.wrap (place (allW f i.root) node 0 + (allW f node).length) = (q : Int) := by rw [← hq, Ev.wrap64] <;> omega
 simp only [eF, eI] at hH1 hH2 hA1 hA2 hP1
 refine vZv (Nat.le_of_ble_eq_true rfl) (fun env he h0 => ?_)
 have g0 := h0 0 (by simp)
 change eget env 0 = .agg [.arr (f.map cN)] at g0
 have g1 := h0 1 (by simp)
 change eget env 1 = eIt i at g1
 have g2 := h0 2 (by simp)
 change eget env 2 = .int .i64 node at g2
 clear h0
 simp [zZc.c] at he
 have hfin : ∀ H, P (eIt (remI f i node)) H := fun H => hPn _ _ rfl rfl
 cases h1 : holdsF f node i.ref with
 | false =>
  have : remI f i node = i := by rw [hrem, h1]; rfl
  rw [this] at hfin
  rw [h1] at hH1
  simp [zZc.c, zZc.r0, zZc.r1, zZc.r2, zZc.r3, zZc.r4, zZc.r5, zZc.r7, zZc.r8, zZc.r9, zZc.r10, zZc.r11, zZc.r12, zZc.r13, zZc.r14, zZc.r15, g0, g1, g2, he, ccF, ccIt, hb0, hb1, l1, l2, e2, e3, c1', hOw, s3, cK, c1, c3, okIt, okIt0, okIt1, hH1, evPick, s4, c4, ofIt, hfin]
 | true =>
  rw [h1] at hH1
  cases h2 : holdsF f node i.root with
  | true =>
   have : remI f i node = i := by rw [hrem, h1, h2]; rfl
   rw [this] at hfin
   rw [h2] at hH2
   simp [zZc.c, zZc.r0, zZc.r1, zZc.r2, zZc.r3, zZc.r4, zZc.r5, zZc.r7, zZc.r8, zZc.r9, zZc.r10, zZc.r11, zZc.r12, zZc.r13, zZc.r14, zZc.r15, g0, g1, g2, he, ccF, ccIt, hb0, hb1, l1, l2, e2, e3, c1', hOw, s3, cK, c1, c3, okIt, okIt0, okIt1, hH1, hH2, evPick, s4, c4, ofIt, hfin]
  | false =>
   rw [h2] at hH2
   have hrem2 : remI f i node = if i.before && decide (q < (allW f i.root).length) then { i with ref := (allW f i.root).getD q 0 } else { i with ref := remRef f node, before := false } := by rw [hrem, h1, h2]; rfl
   have ending : (i.before && decide (q < (allW f i.root).length)) = false → remI f i node = { i with ref := remRef f node, before := false } := fun h => by rw [hrem2, h]; rfl
   cases hb : i.before with
   | false =>
    have hrm := ending (by rw [hb]; rfl)
    have hij : i = { i with before := false } := by cases i; simp at hb; simp [hb]
    rw [hrm] at hfin
    simp [zZc.c, zZc.r0, zZc.r1, zZc.r2, zZc.r4, g0, g1, g2, he, ccF, ccIt, hb0, hb1, l1, l2, e2, e3, c1', hOw, s3, cK, c1, c3, okIt, okIt0, okIt1, okIt2, hH1, hH2, hb, evPick]
    rw [hK3, show kR f i i = kR f i { i with before := false } by rw [← hij]]
    refine remP_tail (j := { i with before := false }) z R hi hfin ?_ ?_ ?_ ?_ ?_ <;> simp [he, g2]
   | true =>
    by_cases hql : q < (allW f i.root).length
    ·have hrm : remI f i node = { i with ref := (allW f i.root).getD q 0 } := by rw [hrem2, hb]; simp [hql]
     have hx : (allW f i.root)[q]? = some ((allW f i.root).getD q 0) := by rw [List.getD_eq_getElem?_getD, List.getElem?_eq_getElem hql]; rfl
     have ha := fun H => qZj (h := H) (k := .i64) qZY hx
     obtain ⟨x, hxe⟩ : ∃ x, x = (allW f i.root).getD q 0 := ⟨_, rfl⟩
     rw [← hxe] at hrm ha
     have a2 := kR_ref f i i x
     rw [← hrm, ← hK3] at a2
     obtain ⟨H3, hH3⟩ : ∃ H3, H3 = kR f i (remI f i node) := ⟨_, rfl⟩
     rw [← hH3] at a2
     have cH3 : cellsAt H3 (.ptr 3 0) = some (cIt (remI f i node)) := by rw [hH3]; rfl
     have st4 := kR_it f i (remI f i node) (remI f i node)
     rw [← hH3] at st4
     have cH4 : cellsAt [cF f, .cells (cIt i), .cells (cIt (remI f i node)), .cells (cIt (remI f i node))] (.ptr 2 0) = some (cIt (remI f i node)) := rfl
     obtain ⟨H4, hH4⟩ : ∃ H4 : Heap, H4 = [cF f, .cells (cIt i), .cells (cIt (remI f i node)), .cells (cIt (remI f i node))] := ⟨_, rfl⟩
     rw [← hH4] at st4 cH4
     simp [zZc.c, zZc.r0, zZc.r1, zZc.r2, zZc.r4, zZc.r5, g0, g1, g2, he, ccF, ccIt, hb0, hb1, l1, l2, e2, e3, c1', hOw, s3, cK, c1, c3, okIt, okIt0, okIt1, okIt2, hH1, hH2, hb, hA1, evPick]
     refine rem_draw cK (hP1 K3) (hA2 K3) (by rw [List.length_map]) hwq (by simp [he]) (by simp [g2]) (by simp [he]) (by simp [he]) (by simp [he]) (by simp [he]) (fun e2 he u2 u3 u6 u7 u8 u9 => ?_)
     simp [zZc.r7, zZc.r8, zZc.r9, u2, u3, u6, u7, u8, u9, he, hql, ha, cellI, a2, cH3, okIt, st4, cH4, ofIt, hfin]
    ·have hrm := ending (by rw [hb]; simp; omega)
     rw [hrm] at hfin
     have a2 := kR_bef f i i false
     rw [← hK3] at a2
     simp [zZc.c, zZc.r0, zZc.r1, zZc.r2, zZc.r4, zZc.r5, g0, g1, g2, he, ccF, ccIt, hb0, hb1, l1, l2, e2, e3, c1', hOw, s3, cK, c1, c3, okIt, okIt0, okIt1, okIt2, hH1, hH2, hb, hA1, evPick]
     refine rem_draw cK (hP1 K3) (hA2 K3) (by rw [List.length_map]) hwq (by simp [he]) (by simp [g2]) (by simp [he]) (by simp [he]) (by simp [he]) (by simp [he]) (fun e2 he u2 u3 u6 u7 u8 u9 => ?_)
     simp [zZc.r7, zZc.r10, u2, u3, u6, u7, u8, u9, he, hql, a2]
     refine remP_tail (j := { i with before := false }) z R hi hfin ?_ ?_ ?_ ?_ ?_ <;> simp [he, u2, u3, u6, u7]
end Go.Proofs.It
