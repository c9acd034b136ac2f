/- The program's iterators: Next and Prev. No conditions. -/
import Derived.Test.YtohcoghaaifmgaaItZu
set_option maxHeartbeats 16000000
set_option maxRecDepth 100000
set_option linter.unusedVariables false
set_option linter.unusedSimpArgs false
set_option linter.unusedSectionVars false
namespace Go.Proofs.It
open Go Go.Ev
theorem eqcB (H : Heap) (neg x y : Bool) : evEqc H neg (.leaf .b) (.bool x) (.bool y) = some (.bool ((x == y) != neg), H) := by cases neg <;> cases x <;> cases y <;> rfl
theorem xZ4 {s : Int} {b : Bool} {P : V → Heap → Prop} {Q : Ex → St → Prop} (hQ : ∀ s, FinX [.cell 6 (some 5), .tmp 7, .tmp 8] P .ret s → Q .ret s) {H : Heap} {i : Itr} {l : List Int} {n : Nat} {x : Int} (hx : l[n]? = some x) (h0 : H[0]? = some (.cells [.int .i64 s, .bool b])) (h4 : H[4]? = some (.cells (cIt i))) (h3 : H[3]? = some (.cells zIt))
  {env : List V} (he : env.length = 93) (k3 : eget env 3 = .ptr 0 0) (k6 : eget env 6 = .ptr 3 0) (k14 : eget env 14 = .ptr 4 0) (k10 : eget env 10 = .arr (l.map cI)) (k11 : eget env 11 = .int .i64 n)
  (hP : ∀ H, P (.tup [eIt { i with ref := x, before := b }, .int .i64 x, .int .i64 0]) H) {k : List It} : WK (callW Φ) none Q (.c (.draw zZa.r13 [[], [], [0, 1], [2], [], [4], [0, 1, 2, 3], [6, 3, 0, 1, 2, 3], [0, 1, 2, 3, 4, 5, 6, 7], [8, 5, 7, 0, 1, 2, 3, 4, 5, 6, 7]] [0, 1, 2, 4, 6, 8]) :: .c (.seq (.draw zZa.r14 [[], [], [], [1, 2], [3], [0, 0], [4, 5, 0, 1, 2, 3, 4, 5], [6, 0, 1, 2, 3, 4, 5, 6]] [1, 2, 3, 6, 7]) .ret) :: k) { env := env, marks := [], heap := H } := by
 have c0 : cellsAt H (.ptr 0 1) = some [.bool b] := by simp [cellsAt, h0]
 have st1 := storeRef h4 x
 have lt4 := (List.getElem?_eq_some_iff.1 h4).1
 obtain ⟨H1, hH1⟩ : ∃ H1, H1 = H.set 4 (.cells (cIt { i with ref := x })) := ⟨_, rfl⟩
 rw [← hH1] at st1
 have q4 : H1[4]? = some (.cells (cIt { i with ref := x })) := by rw [hH1, List.getElem?_set_self lt4]
 have c1 : cellsAt H1 (.ptr 0 1) = some [.bool b] := by rw [hH1]; simp [cellsAt, h0]
 have st2 := storeBef q4 b
 have lt14 := (List.getElem?_eq_some_iff.1 q4).1
 obtain ⟨H2, hH2⟩ : ∃ H2, H2 = H1.set 4 (.cells (cIt { { i with ref := x } with before := b })) := ⟨_, rfl⟩
 rw [← hH2] at st2
 obtain ⟨j, hj⟩ : ∃ j : Itr, j = { i with ref := x, before := b } := ⟨_, rfl⟩
 have w4 : H2[4]? = some (.cells (cIt j)) := by rw [hH2, List.getElem?_set_self lt14, hj]
 have w3 : H2[3]? = some (.cells zIt) := by rw [hH2, List.getElem?_set_ne (by decide), hH1, List.getElem?_set_ne (by decide)]; exact h3
 have c4 := qZv w4
 have lt3 := (List.getElem?_eq_some_iff.1 w3).1
 obtain ⟨H3, hH3⟩ : ∃ H3, H3 = H2.set 3 (.cells (cIt j)) := ⟨_, rfl⟩
 have st := storeIt j w3
 rw [← hH3] at st
 have c5 : cellsAt H3 (.ptr 3 0) = some (cIt j) := by rw [hH3]; simp [cellsAt, lt3]
 have ha := fun H => qZj (h := H) (k := .i64) qZY hx
 have okb : ∀ H, okCells H none (some [.bool b]) = some (.bool b, H) := fun _ => rfl
 rw [← hj] at hP
 refine kDraw2 zZa.r13.ord ?_
 simp (config := { maxSteps := 5000000 }) [zZa.r13, List.filterMap_cons, k3, k6, k14, k10, k11, he, c0, c1, okb, ha, cellI, st1, st2]
 refine kDraw2 zZa.r14.ord ?_
 simp (config := { maxSteps := 5000000 }) [zZa.r14, List.filterMap_cons, k3, k6, k14, k10, k11, he, c4, okIt, ha, cellI, st]
 exact hQ _ (by simp [he, k6, c5, ofIt, hP])
theorem reach_on (f : List Nd) (z : Sz f) (i : Itr) (zt : Fz i.flt) (H : Heap) : callW Φ zZa [.agg [.int .i64 1, .bool false], eF f, eIt i] H = some (.tup [eIt (nextI f i), .int .i64 (nextN f i), .int .i64 (checkI f i)], H) := by
 refine qZ8 zZa.Φ rfl (args := [.agg [.int .i64 1, .bool false], eF f, eIt i]) rfl ?_
 obtain ⟨P, hP⟩ : ∃ P : V → Heap → Prop, P = fun r h2 => ∃ h3, fz fzDepth h2 r = some (.tup [eIt (nextI f i), .int .i64 (nextN f i), .int .i64 (checkI f i)], h3) := ⟨_, rfl⟩
 suffices hgo : ∃ r h', evBodyW (callW Φ) zZa.c [.agg [.int .i64 1, .bool false], eF f, eIt i] [] = some (r, h') ∧ P r h' by rw [hP] at hgo; exact hgo
 have hPz : ∀ r h2 h3, fz fzDepth h2 r = some (.tup [eIt (nextI f i), .int .i64 (nextN f i), .int .i64 (checkI f i)], h3) → P r h2 := fun r h2 h3 hz => by rw [hP]; exact ⟨h3, hz⟩
 have hPn : ∀ r h2, flatN2 r = true → nz2 r = .tup [eIt (nextI f i), .int .i64 (nextN f i), .int .i64 (checkI f i)] → P r h2 := fun r h2 h h1 => hPz r h2 h2 (by rw [← h1]; exact qZ0 h)
 clear hP
 obtain ⟨K0, hK0⟩ : ∃ K0 : Heap, K0 = [.cells [.int .i64 1, .bool false]] := ⟨_, rfl⟩
 obtain ⟨K1, hK1⟩ : ∃ K1 : Heap, K1 = [.cells [.int .i64 1, .bool false], cF f] := ⟨_, rfl⟩
 obtain ⟨K2, hK2⟩ : ∃ K2 : Heap, K2 = [.cells [.int .i64 1, .bool false], cF f, .cells (cIt i)] := ⟨_, rfl⟩
 obtain ⟨K3, hK3⟩ : ∃ K3 : Heap, K3 = [.cells [.int .i64 1, .bool false], cF f, .cells (cIt i), .cells zIt] := ⟨_, rfl⟩
 have hb0 : evBox [] [.int .i64 1, .bool false] = some (.ptr 0 0, K0) := by rw [hK0]; exact qZd [] rfl
 have hb1 : evBox K0 [.arr (f.map cN)] = some (.ptr 1 0, K1) := by rw [hK0, hK1]; exact qZd _ rfl
 have hb2 : evBox K1 (cIt i) = some (.ptr 2 0, K2) := by rw [hK1, hK2]; exact qZd _ rfl
 have l2 : K2.length = 3 := by rw [hK2]; rfl
 have l3 : K3.length = 4 := by rw [hK3]; rfl
 have e3 : K2 ++ [.cells zIt] = K3 := by rw [hK2, hK3]; rfl
 have cw : (V.agg [.int .i64 1, .bool false]).cells = [.int .i64 1, .bool false] := rfl
 have k0 : K3[0]? = some (.cells [.int .i64 1, .bool false]) := by rw [hK3]; rfl
 have w0 : cellsAt K3 (.ptr 0 0) = some [.int .i64 1, .bool false] := by rw [hK3]; rfl
 have w1 : cellsAt K3 (.ptr 0 1) = some [.bool false] := by rw [hK3]; rfl
 have okw0 : ∀ H, okCells H none (some [V.int .i64 1, .bool false]) = some (.int .i64 1, H) := fun _ => rfl
 have okw1 : ∀ H, okCells H none (some [V.bool false]) = some (.bool false, H) := fun _ => rfl
 have cK : cellsAt K3 (.ptr 1 0) = some [.arr (f.map cN)] := by rw [hK3]; rfl
 have k1 : K3[2]? = some (.cells (cIt i)) := by rw [hK3]; rfl
 have c1 := qZv k1
 have k2 : K3[3]? = some (.cells zIt) := by rw [hK3]; rfl
 have lt2 := (List.getElem?_eq_some_iff.1 k2).1
 have hC := qZ4 f z i zt K3
 simp only [eF] at hC
 refine vZv (Nat.le_of_ble_eq_true rfl) (fun env he h0 => ?_)
 have g0 := h0 0 (by simp)
 change eget env 0 = .agg [.int .i64 1, .bool false] at g0
 have g1 := h0 1 (by simp)
 change eget env 1 = .agg [.arr (f.map cN)] at g1
 have g2 := h0 2 (by simp)
 change eget env 2 = eIt i at g2
 clear h0
 simp [zZa.c] at he
 by_cases hf : checkI f i = 0
 case neg =>
  have hb3 : (checkI f i != 0) = true := by simpa using hf
  have hn : nextI f i = noIt := by simp [nextI, hf]
  have hm : nextN f i = 0 := by simp [nextN, hf]
  have c3 : cellsAt (K3.set 3 (.cells zIt)) (.ptr 3 0) = some zIt := by simp [cellsAt, lt2]
  have hfin : ∀ H, P (.tup [.agg zIt, .int .i64 0, .int .i64 (checkI f i)]) H := fun H => hPn _ _ rfl (by rw [hn, hm]; rfl)
  simp [zZa.c, zZa.r0, zZa.r1, zZa.r2, zZa.r3, g0, g1, g2, he, cw, ccF, ccIt, hb0, hb1, hb2, l2, e3, cK, c1, okIt, hC, hb3, buildNo, storeNo k2, c3, of5, hfin]
 have hb3 : (checkI f i != 0) = false := by simpa using hf
 obtain ⟨R, hr1, hr2, hh, hl64, hwr⟩ := checkI0 hf
 have hA := vZL f z R i.root hr1 K3
 obtain ⟨n0, hp1, hp2, hp3⟩ := jZJ ((kZI R hr1 hr2).2 hh)
 have hlen := vZz R f.length hr1
 have hle := vZp R
 have hI := vZl (allW f i.root) i.ref (by unfold allW; omega) K3
 have hO := fun H => vZq i (by omega) H
 have hcur : cur f i = n0 + if i.before then 0 else 1 := by rw [cur, hp1]; simp
 have hnextI : nextI f i = toldI i false (nextO f i) := by simp [nextI, hf]
 have hnextN : nextN f i = toldN (nextO f i) := by simp [nextN, hf]
 have hnextO : nextO f i = findOn (accF f i.flt) (allW f i.root) (cur f i) := rfl
 have hmem := allW_is R hr1
 obtain ⟨l, hl⟩ : ∃ l, l = allW f i.root := ⟨_, rfl⟩
 rw [← hl] at hA hI hp1 hp2 hnextO hmem
 change (allW f i.root).length ≤ _ at hlen
 rw [← hl] at hlen
 rw [hp1] at hI
 simp only [eF, eI] at hA hI
 have hfin : ∀ H, P (.tup [eIt (toldI i false (nextO f i)), .int .i64 (toldN (nextO f i)), .int .i64 0]) H := fun H => hPn _ _ rfl (by rw [hnextI, hnextN, hf]; rfl)
 have loop : ∀ (env : List V) (n : Nat), env.length = 93 → eget env 3 = .ptr 0 0 → eget env 4 = .ptr 1 0 → eget env 5 = .ptr 2 0 → eget env 6 = .ptr 3 0 → eget env 10 = .arr (l.map cI) → eget env 11 = .int .i64 (n) → n = cur f i →
   WK (callW Φ) none (FinX [.cell 6 (some 5), .tmp 7, .tmp 8] P) [It.c (.loop zZa.b16), It.b 0, It.c (Cc.seq (.region zZa.r17) .ret)] { env := env, marks := [], heap := K3 } := by
  intro env n0 he k3 k4 k5 k6 k10 k11 hn0
  refine kLoop (fun m s => ∃ n : Nat, m = l.length - n ∧ n ≤ l.length ∧ s.env.length = 93 ∧ eget s.env 3 = .ptr 0 0 ∧ eget s.env 4 = .ptr 1 0 ∧ eget s.env 5 = .ptr 2 0 ∧ eget s.env 6 = .ptr 3 0 ∧ eget s.env 10 = .arr (l.map cI) ∧ eget s.env 11 = .int .i64 (n) ∧ s.marks = [] ∧ s.heap = K3 ∧ nextO f i = findOn (accF f i.flt) l n) (l.length - n0) ⟨n0, rfl, by rw [hn0, hcur]; split <;> omega, he, k3, k4, k5, k6, k10, k11, rfl, rfl, by rw [hn0]; exact hnextO⟩ ?_
  rintro m ⟨e, mk, hp⟩ ⟨n, rfl, hnl, he, k3, k4, k5, k6, k10, k11, hm, hh, hat⟩
  simp only at he k3 k4 k5 k6 k10 k11 hm hh
  obtain rfl := hm
  obtain rfl := hh
  by_cases hlt : n < l.length
  ·obtain ⟨x, hx⟩ : ∃ x, l[n]? = some x := ⟨_, List.getElem?_eq_getElem hlt⟩
   have hw : IntKind.i64.wrap ((n : Int) + 1) = ((n + 1 : Nat) : Int) := by rw [Ev.wrap64] <;> omega
   have ha1 := qZj (h := hp) (k := .i64) qZY hx
   have hxi := hmem x (List.mem_of_getElem? hx)
   have hV := vZU f z i.flt zt x hp
   have hft : faultT f i.flt [x] = 0 := by simp [faultT, faultL, R, inF, hxi, hwr]
   have hav : acceptV f i.flt x = verdictV f i.flt x := by simp [acceptV, hft]
   rw [hft, hav] at hV
   simp only [eF] at hV
   have hacc : accF f i.flt x = (verdictV f i.flt x == 1) := rfl
   rw [findOn_at hx] at hat
   simp [zZa.b16, zZa.r9, k3, k4, k5, k6, k10, k11, he, hlt, evPick]
   refine kDraw1 zZa.r10.ord ?_
   cases hac : accF f i.flt x with
   | true =>
    rw [hac, if_pos rfl] at hat
    rw [hac] at hacc
    have hb1 : (verdictV f i.flt x == 1) = true := hacc.symm
    obtain ⟨H1, hH1⟩ : ∃ H1, H1 = hp ++ [Ob.cells zIt] := ⟨_, rfl⟩
    have q4 : H1[4]? = some (.cells zIt) := by rw [hH1, ← l3]; simp
    have st1 := storeIt i q4
    have lt4 := (List.getElem?_eq_some_iff.1 q4).1
    obtain ⟨H2, hH2⟩ : ∃ H2, H2 = H1.set 4 (.cells (cIt i)) := ⟨_, rfl⟩
    rw [← hH2] at st1
    have u4 : H2[4]? = some (.cells (cIt i)) := by rw [hH2, List.getElem?_set_self lt4]
    have u3 : H2[3]? = some (.cells zIt) := by rw [hH2, List.getElem?_set_ne (by decide), hH1, List.getElem?_append_left lt2]; exact k2
    have u0 : H2[0]? = some (.cells [.int .i64 1, .bool false]) := by rw [hH2, List.getElem?_set_ne (by decide), hH1, List.getElem?_append_left (by omega)]; exact k0
    rw [hat] at hfin
    simp [zZa.r10, zZa.r11, zZa.r12, List.filterMap_cons, k3, k4, k5, k6, k10, k11, he, cK, c1, okIt, okIt3, ha1, cellI, hV, evExt, hb1, hO, l3, ← hH1, st1]
    refine xZ4 ?_ hx u0 u4 u3 ?_ ?_ ?_ ?_ ?_ ?_ hfin
    ·intro s h; simpa using h
    ·simp [he]
    ·simp [k3]
    ·simp [k6]
    ·simp [he]
    ·simp [k10]
    ·simp [k11]
   | false =>
    rw [hac, if_neg (by decide)] at hat
    rw [hac] at hacc
    have hb1 : (verdictV f i.flt x == 1) = false := hacc.symm
    simp [zZa.r10, zZa.r11, zZa.r15, List.filterMap_cons, k3, k4, k5, k6, k10, k11, he, cK, c1, okIt, okIt3, ha1, cellI, hV, evExt, hb1, w0, okw0]
    exact ⟨l.length - (n + 1), by omega, n + 1, rfl, by omega, by simpa using hw, hat⟩
  ·have : n = l.length := by omega
   subst this
   rw [xZ0 (Nat.le_refl _)] at hat
   have c3 : cellsAt (hp.set 3 (.cells (cIt i))) (.ptr 3 0) = some (cIt i) := by simp [cellsAt, lt2]
   rw [hat] at hfin
   simp only [toldI, toldN] at hfin
   simp [zZa.b16, zZa.r9, zZa.r17, k3, k4, k5, k6, k10, k11, he, c1, okIt, hO, storeIt _ k2, c3, ofIt, hfin, evPick]
 by_cases hbe : i.before = true
 ·have hcur2 : cur f i = n0 := by rw [hcur, hbe]; rfl
  have hwA : IntKind.i64.wrap ((n0 : Int) - 1) = (n0 : Int) - 1 := by rw [Ev.wrap64] <;> omega
  have hwC : IntKind.i64.wrap (n0 : Int) = (n0 : Int) := by rw [Ev.wrap64] <;> omega
  simp [zZa.c, zZa.r0, zZa.r1, zZa.r2, zZa.r4, zZa.r5, zZa.r6, zZa.r7, zZa.r8, g0, g1, g2, he, cw, ccF, ccIt, hb0, hb1, hb2, l2, e3, cK, c1, okIt, okIt0, okIt1, okIt2, hC, hb3, hA, hI, hbe, w0, w1, okw0, okw1, eqcB, evPick, hwA, hwC]
  exact loop _ n0 (by simp [he]) (by simp [he]) (by simp [he]) (by simp [he]) (by simp [he]) (by simp [he]) (by simp [he]) hcur2.symm
 ·have hbe : i.before = false := by simpa using hbe
  have hcur2 : cur f i = n0 + 1 := by rw [hcur, hbe]; rfl
  have hwA : IntKind.i64.wrap ((n0 : Int) + 1) = ((n0 + 1 : Nat) : Int) := by rw [Ev.wrap64] <;> omega
  have hwC := hwA
  simp [zZa.c, zZa.r0, zZa.r1, zZa.r2, zZa.r4, zZa.r5, zZa.r6, zZa.r7, zZa.r8, g0, g1, g2, he, cw, ccF, ccIt, hb0, hb1, hb2, l2, e3, cK, c1, okIt, okIt0, okIt1, okIt2, hC, hb3, hA, hI, hbe, w0, w1, okw0, okw1, eqcB, evPick, hwA, hwC]
  exact loop _ (n0 + 1) (by simp [he]) (by simp [he]) (by simp [he]) (by simp [he]) (by simp [he]) (by simp [he]) (by simp [he]) hcur2.symm
theorem reach_back (f : List Nd) (z : Sz f) (i : Itr) (zt : Fz i.flt) (H : Heap) : callW Φ zZa [.agg [.int .i64 (-1), .bool true], eF f, eIt i] H = some (.tup [eIt (prevI f i), .int .i64 (prevN f i), .int .i64 (checkI f i)], H) := by
 refine qZ8 zZa.Φ rfl (args := [.agg [.int .i64 (-1), .bool true], eF f, eIt i]) rfl ?_
 obtain ⟨P, hP⟩ : ∃ P : V → Heap → Prop, P = fun r h2 => ∃ h3, fz fzDepth h2 r = some (.tup [eIt (prevI f i), .int .i64 (prevN f i), .int .i64 (checkI f i)], h3) := ⟨_, rfl⟩
 suffices hgo : ∃ r h', evBodyW (callW Φ) zZa.c [.agg [.int .i64 (-1), .bool true], eF f, eIt i] [] = some (r, h') ∧ P r h' by rw [hP] at hgo; exact hgo
 have hPz : ∀ r h2 h3, fz fzDepth h2 r = some (.tup [eIt (prevI f i), .int .i64 (prevN f i), .int .i64 (checkI f i)], h3) → P r h2 := fun r h2 h3 hz => by rw [hP]; exact ⟨h3, hz⟩
 have hPn : ∀ r h2, flatN2 r = true → nz2 r = .tup [eIt (prevI f i), .int .i64 (prevN f i), .int .i64 (checkI f i)] → P r h2 := fun r h2 h h1 => hPz r h2 h2 (by rw [← h1]; exact qZ0 h)
 clear hP
 obtain ⟨K0, hK0⟩ : ∃ K0 : Heap, K0 = [.cells [.int .i64 (-1), .bool true]] := ⟨_, rfl⟩
 obtain ⟨K1, hK1⟩ : ∃ K1 : Heap, K1 = [.cells [.int .i64 (-1), .bool true], cF f] := ⟨_, rfl⟩
 obtain ⟨K2, hK2⟩ : ∃ K2 : Heap, K2 = [.cells [.int .i64 (-1), .bool true], cF f, .cells (cIt i)] := ⟨_, rfl⟩
 obtain ⟨K3, hK3⟩ : ∃ K3 : Heap, K3 = [.cells [.int .i64 (-1), .bool true], cF f, .cells (cIt i), .cells zIt] := ⟨_, rfl⟩
 have hb0 : evBox [] [.int .i64 (-1), .bool true] = some (.ptr 0 0, K0) := by rw [hK0]; exact qZd [] rfl
 have hb1 : evBox K0 [.arr (f.map cN)] = some (.ptr 1 0, K1) := by rw [hK0, hK1]; exact qZd _ rfl
 have hb2 : evBox K1 (cIt i) = some (.ptr 2 0, K2) := by rw [hK1, hK2]; exact qZd _ rfl
 have l2 : K2.length = 3 := by rw [hK2]; rfl
 have l3 : K3.length = 4 := by rw [hK3]; rfl
 have e3 : K2 ++ [.cells zIt] = K3 := by rw [hK2, hK3]; rfl
 have cw : (V.agg [.int .i64 (-1), .bool true]).cells = [.int .i64 (-1), .bool true] := rfl
 have k0 : K3[0]? = some (.cells [.int .i64 (-1), .bool true]) := by rw [hK3]; rfl
 have w0 : cellsAt K3 (.ptr 0 0) = some [.int .i64 (-1), .bool true] := by rw [hK3]; rfl
 have w1 : cellsAt K3 (.ptr 0 1) = some [.bool true] := by rw [hK3]; rfl
 have okw0 : ∀ H, okCells H none (some [V.int .i64 (-1), .bool true]) = some (.int .i64 (-1), H) := fun _ => rfl
 have okw1 : ∀ H, okCells H none (some [V.bool true]) = some (.bool true, H) := fun _ => rfl
 have cK : cellsAt K3 (.ptr 1 0) = some [.arr (f.map cN)] := by rw [hK3]; rfl
 have k1 : K3[2]? = some (.cells (cIt i)) := by rw [hK3]; rfl
 have c1 := qZv k1
 have k2 : K3[3]? = some (.cells zIt) := by rw [hK3]; rfl
 have lt2 := (List.getElem?_eq_some_iff.1 k2).1
 have hC := qZ4 f z i zt K3
 simp only [eF] at hC
 refine vZv (Nat.le_of_ble_eq_true rfl) (fun env he h0 => ?_)
 have g0 := h0 0 (by simp)
 change eget env 0 = .agg [.int .i64 (-1), .bool true] at g0
 have g1 := h0 1 (by simp)
 change eget env 1 = .agg [.arr (f.map cN)] at g1
 have g2 := h0 2 (by simp)
 change eget env 2 = eIt i at g2
 clear h0
 simp [zZa.c] at he
 by_cases hf : checkI f i = 0
 case neg =>
  have hb3 : (checkI f i != 0) = true := by simpa using hf
  have hn : prevI f i = noIt := by simp [prevI, hf]
  have hm : prevN f i = 0 := by simp [prevN, hf]
  have c3 : cellsAt (K3.set 3 (.cells zIt)) (.ptr 3 0) = some zIt := by simp [cellsAt, lt2]
  have hfin : ∀ H, P (.tup [.agg zIt, .int .i64 0, .int .i64 (checkI f i)]) H := fun H => hPn _ _ rfl (by rw [hn, hm]; rfl)
  simp [zZa.c, zZa.r0, zZa.r1, zZa.r2, zZa.r3, g0, g1, g2, he, cw, ccF, ccIt, hb0, hb1, hb2, l2, e3, cK, c1, okIt, hC, hb3, buildNo, storeNo k2, c3, of5, hfin]
 have hb3 : (checkI f i != 0) = false := by simpa using hf
 obtain ⟨R, hr1, hr2, hh, hl64, hwr⟩ := checkI0 hf
 have hA := vZL f z R i.root hr1 K3
 obtain ⟨n0, hp1, hp2, hp3⟩ := jZJ ((kZI R hr1 hr2).2 hh)
 have hlen := vZz R f.length hr1
 have hle := vZp R
 have hI := vZl (allW f i.root) i.ref (by unfold allW; omega) K3
 have hO := fun H => vZq i (by omega) H
 have hcur : cur f i = n0 + if i.before then 0 else 1 := by rw [cur, hp1]; simp
 have hprevI : prevI f i = toldI i true (prevO f i) := by simp [prevI, hf]
 have hprevN : prevN f i = toldN (prevO f i) := by simp [prevN, hf]
 have hprevO : prevO f i = findBack (accF f i.flt) (allW f i.root) (cur f i) := rfl
 have hmem := allW_is R hr1
 obtain ⟨l, hl⟩ : ∃ l, l = allW f i.root := ⟨_, rfl⟩
 rw [← hl] at hA hI hp1 hp2 hprevO hmem
 change (allW f i.root).length ≤ _ at hlen
 rw [← hl] at hlen
 rw [hp1] at hI
 simp only [eF, eI] at hA hI
 have hfin : ∀ H, P (.tup [eIt (toldI i true (prevO f i)), .int .i64 (toldN (prevO f i)), .int .i64 0]) H := fun H => hPn _ _ rfl (by rw [hprevI, hprevN, hf]; rfl)
 have loop : ∀ (env : List V) (n : Nat), env.length = 93 → eget env 3 = .ptr 0 0 → eget env 4 = .ptr 1 0 → eget env 5 = .ptr 2 0 → eget env 6 = .ptr 3 0 → eget env 10 = .arr (l.map cI) → eget env 11 = .int .i64 ((n : Int) - 1) → n = cur f i →
   WK (callW Φ) none (FinX [.cell 6 (some 5), .tmp 7, .tmp 8] P) [It.c (.loop zZa.b16), It.b 0, It.c (Cc.seq (.region zZa.r17) .ret)] { env := env, marks := [], heap := K3 } := by
  intro env n0 he k3 k4 k5 k6 k10 k11 hn0
  refine kLoop (fun m s => ∃ n : Nat, m = n + 1 ∧ n ≤ l.length ∧ s.env.length = 93 ∧ eget s.env 3 = .ptr 0 0 ∧ eget s.env 4 = .ptr 1 0 ∧ eget s.env 5 = .ptr 2 0 ∧ eget s.env 6 = .ptr 3 0 ∧ eget s.env 10 = .arr (l.map cI) ∧ eget s.env 11 = .int .i64 ((n : Int) - 1) ∧ s.marks = [] ∧ s.heap = K3 ∧ prevO f i = findBack (accF f i.flt) l n) (n0 + 1) ⟨n0, rfl, by rw [hn0, hcur]; split <;> omega, he, k3, k4, k5, k6, k10, k11, rfl, rfl, by rw [hn0]; exact hprevO⟩ ?_
  rintro m ⟨e, mk, hp⟩ ⟨n, rfl, hnl, he, k3, k4, k5, k6, k10, k11, hm, hh, hat⟩
  simp only at he k3 k4 k5 k6 k10 k11 hm hh
  obtain rfl := hm
  obtain rfl := hh
  cases n with
  | succ n =>
   obtain ⟨x, hx⟩ : ∃ x, l[n]? = some x := ⟨_, List.getElem?_eq_getElem (by omega)⟩
   have e9 : ((n + 1 : Nat) : Int) - 1 = n := by omega
   rw [e9] at k11
   have hge : ¬ (n : Int) < 0 := by omega
   have hlt : n < l.length := by omega
   have hw : IntKind.i64.wrap ((n : Int) + -1) = (n : Int) - 1 := by rw [Ev.wrap64] <;> omega
   have ha1 := qZj (h := hp) (k := .i64) qZY hx
   have hxi := hmem x (List.mem_of_getElem? hx)
   have hV := vZU f z i.flt zt x hp
   have hft : faultT f i.flt [x] = 0 := by simp [faultT, faultL, R, inF, hxi, hwr]
   have hav : acceptV f i.flt x = verdictV f i.flt x := by simp [acceptV, hft]
   rw [hft, hav] at hV
   simp only [eF] at hV
   have hacc : accF f i.flt x = (verdictV f i.flt x == 1) := rfl
   rw [kZ5 hx] at hat
   simp [zZa.b16, zZa.r9, k3, k4, k5, k6, k10, k11, he, hge, hlt, evPick]
   refine kDraw1 zZa.r10.ord ?_
   cases hac : accF f i.flt x with
   | true =>
    rw [hac, if_pos rfl] at hat
    rw [hac] at hacc
    have hb1 : (verdictV f i.flt x == 1) = true := hacc.symm
    obtain ⟨H1, hH1⟩ : ∃ H1, H1 = hp ++ [Ob.cells zIt] := ⟨_, rfl⟩
    have q4 : H1[4]? = some (.cells zIt) := by rw [hH1, ← l3]; simp
    have st1 := storeIt i q4
    have lt4 := (List.getElem?_eq_some_iff.1 q4).1
    obtain ⟨H2, hH2⟩ : ∃ H2, H2 = H1.set 4 (.cells (cIt i)) := ⟨_, rfl⟩
    rw [← hH2] at st1
    have u4 : H2[4]? = some (.cells (cIt i)) := by rw [hH2, List.getElem?_set_self lt4]
    have u3 : H2[3]? = some (.cells zIt) := by rw [hH2, List.getElem?_set_ne (by decide), hH1, List.getElem?_append_left lt2]; exact k2
    have u0 : H2[0]? = some (.cells [.int .i64 (-1), .bool true]) := by rw [hH2, List.getElem?_set_ne (by decide), hH1, List.getElem?_append_left (by omega)]; exact k0
    rw [hat] at hfin
    simp [zZa.r10, zZa.r11, zZa.r12, List.filterMap_cons, k3, k4, k5, k6, k10, k11, he, cK, c1, okIt, okIt3, ha1, cellI, hV, evExt, hb1, hO, l3, ← hH1, st1]
    refine xZ4 ?_ hx u0 u4 u3 ?_ ?_ ?_ ?_ ?_ ?_ hfin
    ·intro s h; simpa using h
    ·simp [he]
    ·simp [k3]
    ·simp [k6]
    ·simp [he]
    ·simp [k10]
    ·simp [k11]
   | false =>
    rw [hac, if_neg (by decide)] at hat
    rw [hac] at hacc
    have hb1 : (verdictV f i.flt x == 1) = false := hacc.symm
    simp [zZa.r10, zZa.r11, zZa.r15, List.filterMap_cons, k3, k4, k5, k6, k10, k11, he, cK, c1, okIt, okIt3, ha1, cellI, hV, evExt, hb1, w0, okw0]
    exact ⟨n + 1, by omega, n, rfl, by omega, by simpa using hw, hat⟩
  | zero =>
   rw [jZB] at hat
   simp at k11
   have c3 : cellsAt (hp.set 3 (.cells (cIt i))) (.ptr 3 0) = some (cIt i) := by simp [cellsAt, lt2]
   rw [hat] at hfin
   simp only [toldI, toldN] at hfin
   simp [zZa.b16, zZa.r9, zZa.r17, k3, k4, k5, k6, k10, k11, he, c1, okIt, hO, storeIt _ k2, c3, ofIt, hfin, evPick]
 by_cases hbe : i.before = true
 ·have hcur2 : cur f i = n0 := by rw [hcur, hbe]; rfl
  have hwA : IntKind.i64.wrap ((n0 : Int) + -1) = (n0 : Int) - 1 := by rw [Ev.wrap64] <;> omega
  have hwC := hwA
  simp [zZa.c, zZa.r0, zZa.r1, zZa.r2, zZa.r4, zZa.r5, zZa.r6, zZa.r7, zZa.r8, g0, g1, g2, he, cw, ccF, ccIt, hb0, hb1, hb2, l2, e3, cK, c1, okIt, okIt0, okIt1, okIt2, hC, hb3, hA, hI, hbe, w0, w1, okw0, okw1, eqcB, evPick, hwA, hwC]
  exact loop _ n0 (by simp [he]) (by simp [he]) (by simp [he]) (by simp [he]) (by simp [he]) (by simp [he]) (by simp [he]) hcur2.symm
 ·have hbe : i.before = false := by simpa using hbe
  have hcur2 : cur f i = n0 + 1 := by rw [hcur, hbe]; rfl
  have hwA : IntKind.i64.wrap ((n0 : Int) + 1) = (n0 : Int) + 1 := by rw [Ev.wrap64] <;> omega
  have hwC : IntKind.i64.wrap ((n0 : Int) + 1 + -1) = (n0 : Int) := by rw [Ev.wrap64] <;> omega
  simp [zZa.c, zZa.r0, zZa.r1, zZa.r2, zZa.r4, zZa.r5, zZa.r6, zZa.r7, zZa.r8, g0, g1, g2, he, cw, ccF, ccIt, hb0, hb1, hb2, l2, e3, cK, c1, okIt, okIt0, okIt1, okIt2, hC, hb3, hA, hI, hbe, w0, w1, okw0, okw1, eqcB, evPick, hwA, hwC]
  exact loop _ (n0 + 1) (by simp [he]) (by simp [he]) (by simp [he]) (by simp [he]) (by simp [he]) (by simp [he]) (by simp [he]) hcur2.symm
end Go.Proofs.It
