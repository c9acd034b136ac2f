/- Reactions' own copy, in the heap. No conditions. -/
import Derived.Test.YtoakkanklhfpmaaGreatDoorRcH
import Derived.Test.YtoakkanklhfpmaaGreatDoorRcG
set_option maxHeartbeats 16000000
set_option maxRecDepth 100000
set_option linter.unusedVariables false
set_option linter.unusedSimpArgs false
set_option linter.unusedSectionVars false
namespace Go.Proofs.Rc
open Go Go.Ev
theorem vZE {H : Heap} {id n : Nat} {A B : List V} (h : H[id]? = some (.cells B)) (ha : A.length = n) (hb : B.length = n) (hc : A.all V.isCell = true) : evStoreV H n (.ptr id 0) (.agg A) = some (V.non, H.set id (.cells A)) := by
 have hsr : setRange B 0 A = some A := by
  unfold setRange
  rw [if_pos (by omega), Nat.zero_add, List.drop_eq_nil_of_le (by omega)]
  simp
 simp only [evStoreV, V.cells, ha, hc, and_self, if_true, evStore, h, hsr, vZC]
theorem kEnv {call : CallF} {rnd : Option Nat} {Q : Ex → St → Prop} {k : List It} {env : List V} {mk : List Nat} {H : Heap} (h : ∀ env2 : List V, env2 = env → WK call rnd Q k { env := env2, marks := mk, heap := H }) : WK call rnd Q k { env := env, marks := mk, heap := H } := h _ rfl
abbrev z4 : List V := [.nils, .nils, .nils, .bool false]
theorem build4 (X : Heap) {v : V} (hv : v.isCell = true ∧ v.cells = [v]) (b : Bool) : evBuild X z4 [(2, 1, v), (3, 1, .bool b)] = some (.agg [.nils, .nils, v, .bool b], X) := by
 have hb : (V.bool b).cells = [.bool b] := rfl
 simp only [evBuild, placeParts, hv.2, hb, List.all_cons, List.all_nil, hv.1]
 simp [setRange, V.isCell]
theorem build2 (X : Heap) (n : Int) {v : V} (hv : v.isCell = true ∧ v.cells = [v]) : evBuild X [.int .i64 0, .nils] [(0, 1, .int .i64 n), (1, 1, v)] = some (.agg [.int .i64 n, v], X) := by
 have hb : (V.int .i64 n).cells = [.int .i64 n] := rfl
 simp only [evBuild, placeParts, hv.2, hb, List.all_cons, List.all_nil, hv.1]
 simp [setRange, V.isCell]
def OI (H : Heap) (s : Rs) (i j : Nat) (S : Heap) : Prop := ∃ (v0 v1 v2 : V) (o0 o1 o2 : Option Nat) (os0 os1 : List (Option Nat)),
 (∀ k, k < H.length → S[k]? = H[k]?) ∧ S[H.length]? = some (.cells (cS s)) ∧ S[H.length + 1]? = some (.cells z4) ∧ S[H.length + 2]? = some (.cells [v0, v1, v2, .bool s.busy]) ∧
 Own S (H.length + 3) v0 v1 v2 o0 o1 o2 os0 os1 (s.qs.take i) (s.st.take j) s.bk [] []
def OQ (H : Heap) (s : Rs) (m : Nat) (st : St) : Prop := st.marks = [] ∧ ∃ i : Nat, m = s.qs.length - i ∧ i ≤ s.qs.length ∧
 (eget st.env 1 = .ptr H.length 0 ∧ eget st.env 2 = .ptr (H.length + 1) 0 ∧ eget st.env 3 = .ptr (H.length + 2) 0 ∧ eget st.env 15 = .arr (s.qs.map cQu) ∧ eget st.env 16 = .int .i64 s.qs.length ∧ eget st.env 17 = .int .i64 i ∧ st.env.length = 49) ∧ OI H s i 0 st.heap
def OT (H : Heap) (s : Rs) (m : Nat) (st : St) : Prop := st.marks = [] ∧ ∃ i : Nat, m = s.st.length - i ∧ i ≤ s.st.length ∧
 (eget st.env 1 = .ptr H.length 0 ∧ eget st.env 2 = .ptr (H.length + 1) 0 ∧ eget st.env 3 = .ptr (H.length + 2) 0 ∧ eget st.env 34 = .arr (s.st.map cL) ∧ eget st.env 35 = .int .i64 s.st.length ∧ eget st.env 36 = .int .i64 i ∧ st.env.length = 49) ∧ OI H s s.qs.length i st.heap
def ownP (s : Rs) (H : Heap) (r : V) (H' : Heap) : Prop := ∃ (v0 v1 v2 : V) (o0 o1 o2 : Option Nat) (os0 os1 : List (Option Nat)), r = .agg [v0, v1, v2, .bool s.busy] ∧ (∀ k, k < H.length → H'[k]? = H[k]?) ∧ H.length ≤ H'.length ∧ Own H' H.length v0 v1 v2 o0 o1 o2 os0 os1 s.qs s.st s.bk [] []
theorem wZV (s : Rs) (z : SzS s) (H : Heap) : ∃ r h', callW Φ (.fn (.func zZK.k) [] []) [.agg (cS s)] H = some (r, h') ∧ (ownP s H) r h' := by
 obtain ⟨P, hP⟩ : ∃ P : V → Heap → Prop, P = ownP s H := ⟨_, rfl⟩
 suffices hgo : ∃ r h', callW Φ (.fn (.func zZK.k) [] []) [.agg (cS s)] H = some (r, h') ∧ P r h' by rw [hP] at hgo; exact hgo
 have hPi : ∀ r h', (ownP s H) r h' → P r h' := fun r h' q => by rw [hP]; exact q
 clear hP
 refine wZS zZK.Φ rfl (Nat.le_of_ble_eq_true rfl) (fun env he h0 => ?_)
 have g0 := h0 0 (by simp)
 change eget env 0 = .agg (cS s) at g0
 clear h0
 simp [zZK.c] at he
 obtain ⟨z1, z2, z3, z4', z5⟩ := z
 have b0 : evBox H (cS s) = some (.ptr H.length 0, H ++ [.cells (cS s)]) := wZs _ _ rfl
 have hcc : (V.agg (cS s)).cells = cS s := rfl
 obtain ⟨A0, hA0⟩ : ∃ A0, A0 = H ++ [.cells (cS s), .cells z4, .resv 3] := ⟨_, rfl⟩
 have l0 : A0.length = H.length + 3 := by rw [hA0]; simp
 have p0 : A0[H.length]? = some (.cells (cS s)) := by rw [hA0]; simp
 have p1 : A0[H.length + 1]? = some (.cells z4) := by rw [hA0, List.getElem?_append_right (by omega)]; simp
 have hl9 : ∀ xs : List (List V), H.length + 2 < (A0 ++ clnE 1 xs).length := fun xs => by simp; omega
 have hf0 : findR 3 A0 0 none = some (H.length + 2) := by
  have := kZo (d := 3) (H ++ [.cells (cS s), .cells z4]) [] 0 none (by simp)
  rw [hA0]; simpa using this
 have hf1 : ∀ xs, findR 3 (A0 ++ clnE 1 xs) 0 none = some (H.length + 2) := fun xs => by
  have := kZo (d := 3) (H ++ [.cells (cS s), .cells z4]) (clnE 1 xs) 0 none (noR_cln 1 xs)
  rw [hA0]; simpa using this
 have x1 : evAllocD A0 3 z4 = some (.ptr (H.length + 2) 0, A0.set (H.length + 2) (.cells z4)) := by simp only [evAllocD, hf0, vZL, vZC]
 have x2 : evAllocD (A0 ++ clnE 1 (s.bk.map cI)) 3 z4 = some (.ptr (H.length + 2) 0, (A0 ++ clnE 1 (s.bk.map cI)).set (H.length + 2) (.cells z4)) := by simp only [evAllocD, hf1, vZL, vZC]
 obtain ⟨A1, hA1⟩ : ∃ A1, A1 = A0.set (H.length + 2) (.cells z4) := ⟨_, rfl⟩
 obtain ⟨B0, hB0⟩ : ∃ B0, B0 = A0 ++ clnE 1 (s.bk.map cI) := ⟨_, rfl⟩
 obtain ⟨B1, hB1⟩ : ∃ B1, B1 = A1 ++ clnE 1 (s.bk.map cI) := ⟨_, rfl⟩
 have hB1' : B1 = B0.set (H.length + 2) (.cells z4) := by rw [hB1, hB0, hA1, List.set_append_left _ _ (by omega)]
 have l1 : A1.length = H.length + 3 := by rw [hA1]; simp [l0]
 have y1 := cln_i s.bk z3 A0
 have y2 := cln_i s.bk z3 A1
 rw [l0] at y1
 rw [l1] at y2
 obtain ⟨v2, hv2⟩ : ∃ v2, v2 = clnV (H.length + 3) (s.bk.map cI) := ⟨_, rfl⟩
 have q0 : A1[H.length]? = some (.cells (cS s)) := by rw [hA1, List.getElem?_set_ne (by omega)]; exact p0
 have q1 : B0[H.length]? = some (.cells (cS s)) := by rw [hB0, List.getElem?_append_left (by omega)]; exact p0
 have q2 : B1[H.length]? = some (.cells (cS s)) := by rw [hB1, List.getElem?_append_left (by omega)]; exact q0
 have q3 : B1[H.length + 1]? = some (.cells z4) := by rw [hB1, List.getElem?_append_left (by omega), hA1, List.getElem?_set_ne (by omega)]; exact p1
 have q4 : B1[H.length + 2]? = some (.cells z4) := by rw [hB1, List.getElem?_append_left (by omega), hA1, List.getElem?_set_self (by omega)]
 have hbl := cln_vl (plainI s.bk) A1
 rw [l1, ← hB1, ← hv2] at hbl
 rw [← hA1] at x1
 rw [← hB0, ← hB1'] at x2
 rw [← hB0, ← hv2] at y1
 rw [← hB1, ← hv2] at y2
 have ca : ∀ {X : Heap}, X[H.length]? = some (.cells (cS s)) → cellsAt X (.ptr H.length 2) = some ((cS s).drop 2) ∧ cellsAt X (.ptr H.length 3) = some ((cS s).drop 3) ∧ cellsAt X (.ptr H.length 0) = some (cS s) ∧ cellsAt X (.ptr H.length 1) = some ((cS s).drop 1) := fun h => ⟨qZo h 2, qZo h 3, qZo h 0, qZo h 1⟩
 have ca0 := ca p0
 have ca1 := ca q0
 have cb0 := ca q1
 have cb1 := ca q2
 have hcell := hbl.cell.1
 have bd : ∀ X : Heap, evBuild X z4 [(2, 1, v2), (3, 1, .bool s.busy)] = some (.agg [.nils, .nils, v2, .bool s.busy], X) := fun X => build4 X hbl.cell s.busy
 have st : evStoreV B1 4 (.ptr (H.length + 2) 0) (.agg [.nils, .nils, v2, .bool s.busy]) = some (V.non, B1.set (H.length + 2) (.cells [.nils, .nils, v2, .bool s.busy])) := vZE q4 rfl rfl (by simp only [List.all_cons, List.all_nil, hcell]; rfl)
 obtain ⟨C, hC⟩ : ∃ C, C = B1.set (H.length + 2) (.cells [.nils, .nils, v2, .bool s.busy]) := ⟨_, rfl⟩
 rw [← hC] at st
 have cc0 : C[H.length]? = some (.cells (cS s)) := by rw [hC, List.getElem?_set_ne (by omega)]; exact q2
 have cc1 : C[H.length + 1]? = some (.cells z4) := by rw [hC, List.getElem?_set_ne (by omega)]; exact q3
 have cc2 : C[H.length + 2]? = some (.cells [.nils, .nils, v2, .bool s.busy]) := by rw [hC]; exact wZd q4 _
 have cck : ∀ k, k < H.length → C[k]? = H[k]? := fun k hk => by
  rw [hC, List.getElem?_set_ne (by omega), hB1, List.getElem?_append_left (by omega), hA1, List.getElem?_set_ne (by omega), hA0, List.getElem?_append_left hk]
 have cbl : VL C 1 v2 (clnO (H.length + 3) (s.bk.map cI)) (s.bk.map cI) := hbl.mono fun id h => by rw [hC, List.getElem?_set_ne (by have := kZU h; omega)]
 have ccc := ca cc0
 have own0 : OI H s 0 0 C := ⟨.nils, .nils, v2, none, none, _, [], [], cck, cc0, cc1, cc2, VQ.nil _ _ _, VQ.nil _ _ _, cbl.vs, fun id h => by simp [Ow] at h, fun id h => by simp [Ow] at h, fun id h => by have := kZU h; omega, fun id h => by simp [Ow] at h, fun id h => by simp [Ow] at h, fun id h => by simp [Ow] at h⟩
 simp [zZK.c, zZK.r0, zZK.r1, g0, he, hcc, b0]
 rw [← hA0]
 refine kEnv fun env2 hE => ?_
 have j1 : eget env2 1 = .ptr H.length 0 := by rw [hE]; simp [he]
 have j2 : eget env2 2 = .ptr (H.length + 1) 0 := by rw [hE]; simp [he]
 have jl : env2.length = 49 := by rw [hE]; simp [he]
 clear hE
 refine kDrawW zZK.r2.ord ?_
 simp [zZK.r2, zZK.r3, List.filterMap_cons, j1, j2, jl, ca0, ca1, cb0, cb1, ccc, x1, x2, y1, y2, bd, st, vZa]
 refine ⟨?_, ?_⟩
 ·simp only [xZY, jZ9, List.cons_append, List.nil_append]
  repeat' apply And.intro
  all_goals exact xZX _ rfl rfl rfl rfl
 refine kLoop (OQ H s) s.qs.length ⟨rfl, 0, rfl, by omega, ⟨by simp [j1], by simp [j2], by simp [jl], by simp [jl], by simp [jl], by simp [jl], by simpa using jl⟩, own0⟩ ?_
 clear own0 ccc cbl cck cc0 cc1 cc2 st bd hcell cb0 cb1 ca0 ca1 ca hbl q0 q1 q2 q3 q4 hv2 y1 y2 l1 hB1' hB1 hB0 hA1 x1 x2 hf1 hf0 hl9 p0 p1 l0 hA0 b0 hcc hC j1 j2 jl g0 he env env2
 rintro m ⟨env, mk, S⟩ ⟨hm, i, rfl, hi, ⟨k1, k2, k3, k15, k16, k17, hl⟩, w0, w1, w2, u0, u1, u2, us0, us1, hS, hb0, hb1, hb2, hw⟩
 simp only at hm k1 k2 k3 k15 k16 k17 hl hS hb0 hb1 hb2 hw
 obtain rfl := hm
 have hlt2 := (List.getElem?_eq_some_iff.1 hb2).1
 by_cases c : i < s.qs.length
 ·have cc1 : (i : Int) < s.qs.length := by omega
  obtain ⟨x, hx⟩ : ∃ x, s.qs[i]? = some x := ⟨_, List.getElem?_eq_getElem c⟩
  have zx := z4' x (List.mem_of_getElem? hx)
  unfold SzQ at zx
  have ia := jZq (h := S) (k := .i64) hx
  have wr := wrap64 (n := (i : Int) + 1) (by omega) (by omega)
  have sx := zYaa S x
  obtain ⟨S1, hS1⟩ : ∃ S1, S1 = S ++ [.cells (cQu x)] := ⟨_, rfl⟩
  rw [← hS1] at sx
  have l1 : S1.length = S.length + 1 := by rw [hS1]; simp
  have n1 : S1[S.length]? = some (.cells (cQu x)) := by rw [hS1]; simp
  have o1 : ∀ j, j < S.length → S1[j]? = S[j]? := fun j hj => by rw [hS1, List.getElem?_append_left hj]
  have cx := cln_x x.l zx S1
  obtain ⟨v, hv⟩ : ∃ v, v = clnV S1.length (x.l.map cX) := ⟨_, rfl⟩
  obtain ⟨S2, hS2⟩ : ∃ S2, S2 = S1 ++ clnE 12 (x.l.map cX) := ⟨_, rfl⟩
  rw [← hv, ← hS2] at cx
  have hvl := cln_vl (plainX x.l) S1
  rw [← hv, ← hS2] at hvl
  have l2 : S1.length ≤ S2.length := by rw [hS2]; simp
  have o2 : ∀ j, j < S1.length → S2[j]? = S1[j]? := fun j hj => by rw [hS2, List.getElem?_append_left hj]
  have b1 : S1[H.length + 2]? = some (.cells [w0, w1, w2, .bool s.busy]) := by rw [o1 _ hlt2]; exact hb2
  have b2 : S2[H.length + 2]? = some (.cells [w0, w1, w2, .bool s.busy]) := by rw [o2 _ (by omega)]; exact b1
  have e1 := qZo b1 0
  have e2 := qZo b2 0
  have n2 : S2[S.length]? = some (.cells (cQu x)) := by rw [o2 _ (by omega)]; exact n1
  have f1 : cellsAt S1 (.ptr S.length 0) = some [.int .i64 x.el, .arr (x.l.map cX)] := qZo n1 0
  have f2 : cellsAt S1 (.ptr S.length 1) = some [.arr (x.l.map cX)] := qZo n1 1
  have f3 : cellsAt S2 (.ptr S.length 0) = some [.int .i64 x.el, .arr (x.l.map cX)] := qZo n2 0
  have f4 : cellsAt S2 (.ptr S.length 1) = some [.arr (x.l.map cX)] := qZo n2 1
  have bd : ∀ X : Heap, evBuild X [.int .i64 0, .nils] [(0, 1, .int .i64 x.el), (1, 1, v)] = some (.agg [.int .i64 x.el, v], X) := fun X => build2 X x.el hvl.cell
  have bs := bsQ S2 x.el v hvl.cell.1
  obtain ⟨w0', u0', S4, e4, hw4, l4, k4⟩ := hw.addQ (H' := S2) (by omega) (fun id hid => by rw [o2 _ (by omega), o1 _ hid]) (by omega) (El.Q hvl.vs) (fun id hid => by have := kZU hid; omega) (by rw [List.length_take]; omega)
  have b4 : S4[H.length + 2]? = some (.cells [w0, w1, w2, .bool s.busy]) := by rw [k4 _ (by omega)]; exact hb2
  have s5 := wZF (off := 0) b4 (by simp) hw4.q.cell
  obtain ⟨S5, hS5⟩ : ∃ S5, S5 = S4.set (H.length + 2) (.cells [w0', w1, w2, .bool s.busy]) := ⟨_, rfl⟩
  have s5' : evStoreV S4 1 (.ptr (H.length + 2) 0) w0' = some (V.non, S5) := by rw [hS5]; exact s5
  have hw5 : Own S5 (H.length + 3) w0' w1 w2 u0' u1 u2 (us0 ++ [clnO S1.length (x.l.map cX)]) us1 (s.qs.take (i + 1)) (s.st.take 0) s.bk [] [] := by
   rw [List.take_add_one, hx]
   exact hw4.mono fun id h _ => by rw [hS5, List.getElem?_set_ne (by omega)]
  have base : ∀ j, j < H.length + 2 → S5[j]? = S[j]? := fun j hj => by rw [hS5, List.getElem?_set_ne (by omega), k4 j (by omega)]
  have hfin : OI H s (i + 1) 0 S5 := ⟨w0', w1, w2, u0', u1, u2, _, us1, fun j hj => by rw [base j (by omega)]; exact hS j hj, by rw [base _ (by omega)]; exact hb0, by rw [base _ (by omega)]; exact hb1, by rw [hS5]; exact wZd b4 _, hw5⟩
  simp [zZK.b8, zZK.r4, zZK.r5, k1, k2, k3, k15, k16, k17, hl, cc1, ia, okQu, sx]
  refine kEnv fun env2 hE => ?_
  have j1 : eget env2 1 = .ptr H.length 0 := by rw [hE]; simp [hl, k1]
  have j2 : eget env2 2 = .ptr (H.length + 1) 0 := by rw [hE]; simp [hl, k2]
  have j3 : eget env2 3 = .ptr (H.length + 2) 0 := by rw [hE]; simp [hl, k3]
  have j5 : eget env2 5 = .ptr S.length 0 := by rw [hE]; simp [hl]
  have j15 : eget env2 15 = .arr (s.qs.map cQu) := by rw [hE]; simp [hl, k15]
  have j16 : eget env2 16 = .int .i64 s.qs.length := by rw [hE]; simp [hl, k16]
  have j17 : eget env2 17 = .int .i64 i := by rw [hE]; simp [hl, k17]
  have jl : env2.length = 49 := by rw [hE]; simp [hl]
  clear hE k1 k2 k3 k15 k16 k17 hl env
  refine kDrawW zZK.r6.ord ?_
  simp [zZK.r6, zZK.r7, List.filterMap_cons, j1, j2, j3, j5, j15, j16, j17, jl, e1, e2, f1, f2, f3, f4, cx, bd, bs, e4, s5', wr]
  refine ⟨?_, ?_⟩
  ·simp only [xZY, jZ9, List.cons_append, List.nil_append]
   repeat' apply And.intro
   all_goals exact xZX _ rfl rfl rfl rfl
  exact ⟨s.qs.length - (i + 1), by omega, rfl, i + 1, rfl, by omega, ⟨by simp [jl, j1], by simp [jl, j2], by simp [jl, j3], by simp [jl, j15], by simp [jl, j16], by simp [jl], by simp [jl]⟩, hfin⟩
 have c1 : ¬ (i : Int) < s.qs.length := by omega
 obtain rfl : i = s.qs.length := by omega
 have cA : cellsAt S (.ptr H.length 1) = some ((cS s).drop 1) := qZo hb0 1
 simp [zZK.b8, zZK.r4, zZK.r9, k1, k2, k3, k15, k16, k17, hl, c1, cA, vZa]
 refine kLoop (OT H s) s.st.length ⟨rfl, 0, rfl, by omega, ⟨by simp [hl, k1], by simp [hl, k2], by simp [hl, k3], by simp [hl], by simp [hl], by simp [hl], by simpa using hl⟩, ⟨w0, w1, w2, u0, u1, u2, us0, us1, hS, hb0, hb1, hb2, hw⟩⟩ ?_
 clear hlt2 hw hb2 hb1 hb0 hS cA hl k1 k2 k3 k15 k16 k17 c c1 hi
 clear S env w0 w1 w2 u0 u1 u2 us0 us1
 rintro m ⟨env, mk, S⟩ ⟨hm, i, rfl, hi, ⟨k1, k2, k3, k34, k35, k36, hl⟩, w0, w1, w2, u0, u1, u2, us0, us1, hS, hb0, hb1, hb2, hw⟩
 simp only at hm k1 k2 k3 k34 k35 k36 hl hS hb0 hb1 hb2 hw
 obtain rfl := hm
 have hlt2 := (List.getElem?_eq_some_iff.1 hb2).1
 by_cases c : i < s.st.length
 ·have cc1 : (i : Int) < s.st.length := by omega
  obtain ⟨x, hx⟩ : ∃ x, s.st[i]? = some x := ⟨_, List.getElem?_eq_getElem c⟩
  have zx := z5 x (List.mem_of_getElem? hx)
  have ia := xZ1 (h := S) (k := .i64) hx
  have wr := wrap64 (n := (i : Int) + 1) (by omega) (by omega)
  have cx := cln_i x zx S
  obtain ⟨v, hv⟩ : ∃ v, v = clnV S.length (x.map cI) := ⟨_, rfl⟩
  obtain ⟨S2, hS2⟩ : ∃ S2, S2 = S ++ clnE 1 (x.map cI) := ⟨_, rfl⟩
  rw [← hv, ← hS2] at cx
  have hvl := cln_vl (plainI x) S
  rw [← hv, ← hS2] at hvl
  have l2 : S.length ≤ S2.length := by rw [hS2]; simp
  have o2 : ∀ j, j < S.length → S2[j]? = S[j]? := fun j hj => by rw [hS2, List.getElem?_append_left hj]
  have b2 : S2[H.length + 2]? = some (.cells [w0, w1, w2, .bool s.busy]) := by rw [o2 _ (by omega)]; exact hb2
  have e1 : cellsAt S (.ptr (H.length + 2) 1) = some [w1, w2, .bool s.busy] := qZo hb2 1
  have e2 : cellsAt S2 (.ptr (H.length + 2) 1) = some [w1, w2, .bool s.busy] := qZo b2 1
  have bs := bsT S2 v hvl.cell
  obtain ⟨w1', u1', S4, e4, hw4, l4, k4⟩ := hw.addT (H' := S2) (by omega) (fun id hid => o2 _ hid) (by omega) (El.T hvl.vs) (fun id hid => by have := kZU hid; omega) (by rw [List.length_take]; omega)
  have b4 : S4[H.length + 2]? = some (.cells [w0, w1, w2, .bool s.busy]) := by rw [k4 _ (by omega)]; exact hb2
  have s5 := wZF (off := 1) b4 (by simp) hw4.t.cell
  obtain ⟨S5, hS5⟩ : ∃ S5, S5 = S4.set (H.length + 2) (.cells [w0, w1', w2, .bool s.busy]) := ⟨_, rfl⟩
  have s5' : evStoreV S4 1 (.ptr (H.length + 2) 1) w1' = some (V.non, S5) := by rw [hS5]; exact s5
  have hw5 : Own S5 (H.length + 3) w0 w1' w2 u0 u1' u2 us0 (us1 ++ [clnO S.length (x.map cI)]) (s.qs.take s.qs.length) (s.st.take (i + 1)) s.bk [] [] := by
   rw [List.take_add_one, hx]
   exact hw4.mono fun id h _ => by rw [hS5, List.getElem?_set_ne (by omega)]
  have base : ∀ j, j < H.length + 2 → S5[j]? = S[j]? := fun j hj => by rw [hS5, List.getElem?_set_ne (by omega), k4 j (by omega)]
  have hfin : OI H s s.qs.length (i + 1) S5 := ⟨w0, w1', w2, u0, u1', u2, us0, _, fun j hj => by rw [base j (by omega)]; exact hS j hj, by rw [base _ (by omega)]; exact hb0, by rw [base _ (by omega)]; exact hb1, by rw [hS5]; exact wZd b4 _, hw5⟩
  simp [zZK.b14, zZK.r10, zZK.r11, k1, k2, k3, k34, k35, k36, hl, cc1, ia, okL]
  refine kEnv fun env2 hE => ?_
  have j1 : eget env2 1 = .ptr H.length 0 := by rw [hE]; simp [hl, k1]
  have j2 : eget env2 2 = .ptr (H.length + 1) 0 := by rw [hE]; simp [hl, k2]
  have j3 : eget env2 3 = .ptr (H.length + 2) 0 := by rw [hE]; simp [hl, k3]
  have j7 : eget env2 7 = .arr (x.map cI) := by rw [hE]; simp [hl]
  have j34 : eget env2 34 = .arr (s.st.map cL) := by rw [hE]; simp [hl, k34]
  have j35 : eget env2 35 = .int .i64 s.st.length := by rw [hE]; simp [hl, k35]
  have j36 : eget env2 36 = .int .i64 i := by rw [hE]; simp [hl, k36]
  have jl : env2.length = 49 := by rw [hE]; simp [hl]
  clear hE k1 k2 k3 k34 k35 k36 hl env
  refine kDrawW zZK.r12.ord ?_
  simp [zZK.r12, zZK.r13, List.filterMap_cons, j1, j2, j3, j7, j34, j35, j36, jl, e1, e2, cx, bs, e4, s5', wr]
  refine ⟨?_, ?_⟩
  ·simp only [xZY, jZ9, List.cons_append, List.nil_append]
   repeat' apply And.intro
   all_goals exact xZX _ rfl rfl rfl rfl
  exact ⟨s.st.length - (i + 1), by omega, rfl, i + 1, rfl, by omega, ⟨by simp [jl, j1], by simp [jl, j2], by simp [jl, j3], by simp [jl, j34], by simp [jl, j35], by simp [jl], by simp [jl]⟩, hfin⟩
 have c1 : ¬ (i : Int) < s.st.length := by omega
 rw [List.take_of_length_le (Nat.le_refl _), List.take_of_length_le (by omega)] at hw
 have cA := qZo hb2 0
 have hcell : ([w0, w1, w2, .bool s.busy] : List V).all V.isCell = true := by simp only [List.all_cons, List.all_nil, hw.q.cell.1, hw.t.cell.1, hw.b.cell.1]; rfl
 have s4 := vZE (n := 4) (A := [w0, w1, w2, .bool s.busy]) hb1 rfl rfl hcell
 obtain ⟨S6, hS6⟩ : ∃ S6, S6 = S.set (H.length + 1) (.cells [w0, w1, w2, .bool s.busy]) := ⟨_, rfl⟩
 rw [← hS6] at s4
 have cB : cellsAt S6 (.ptr (H.length + 1) 0) = some [w0, w1, w2, .bool s.busy] := by rw [hS6]; exact qZo (wZd hb1 _) 0
 have hl6 : H.length ≤ S6.length := by rw [hS6]; simp; omega
 have fin := hPi (.agg [w0, w1, w2, .bool s.busy]) S6 ⟨w0, w1, w2, u0, u1, u2, us0, us1, rfl, fun j hj => by rw [hS6, List.getElem?_set_ne (by omega)]; exact hS j hj, hl6, (hw.mono fun id h _ => by rw [hS6, List.getElem?_set_ne (by omega)]).low (by omega)⟩
 simp [zZK.c, zZK.b14, zZK.r10, zZK.r15, k1, k2, k3, k34, k35, k36, hl, c1, cA, s4, cB, ofCells, fin]
end Go.Proofs.Rc
