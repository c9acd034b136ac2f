/- Reactions' copy, by the book. Reactions compared with themselves. No conditions. -/
import Derived.Test.YtoakkanklhfpmaaGreatDoorRcI
import Derived.Test.YtoakkanklhfpmaaGreatDoorRcSa
import Derived.Test.YtoakkanklhfpmaaGreatDoorRcS
set_option maxHeartbeats 16000000
set_option maxRecDepth 100000
set_option linter.unusedVariables false
set_option linter.unusedSimpArgs false
set_option linter.unusedSectionVars false
namespace Go.Proofs.Rc
open Go Go.Ev
def apV (n : Nat) (xs : List (List V)) : V := if xs = [] then .sl n 0 0 0 else .sl n 1 0 xs.length
def apO (sz : Nat) (xs : List (List V)) : Ob := .row sz xs (if xs = [] then 0 else 1) true
theorem bs0 (H : Heap) (z : List V) (sz : Nat) : evBslice H z 0 sz [] = some (.sl H.length 0 0 0, H ++ [.row sz [] 0 true]) := by
 simp only [evBslice, List.map_nil, placeParts, vZU]
 rfl
theorem ap_run {H : Heap} {n sz by_ : Nat} {xs : List (List V)} (h : H[n]? = some (.row sz [] 0 true)) (hp : plainR sz xs) (hr : xs.length * by_ ≤ roomB) : evApp H sz by_ (.sl n 0 0 0) (.arr xs) = some (apV n xs, H.set n (apO sz xs)) := by
 have hq : elemsOf H (.arr xs) = some xs := rfl
 have hs : H.set n (.row sz [] 0 true) = H := by
  apply List.ext_getElem?
  intro k
  by_cases e : n = k
  ·subst e; rw [List.getElem?_set_self (List.getElem?_eq_some_iff.1 h).1, h]
  ·rw [List.getElem?_set_ne e]
 unfold apV apO
 cases xs with
 | nil => simp only [evApp, hq, h, if_true, hs]
 | cons e es =>
  have hz := jZK hp
  simp only [evApp, hq, h, hz, if_neg (List.cons_ne_nil e es), Nat.zero_add, hr, true_and, and_true]
  rw [if_pos trivial, if_pos (by simp), vZL, vZC]
  simp
theorem ap_vs {H : Heap} {n sz : Nat} {xs : List (List V)} (h : H[n]? = some (apO sz xs)) (hp : plainR sz xs) : VS H sz (apV n xs) (some n) xs := by
 unfold apO at h
 unfold apV
 by_cases e : xs = []
 ·subst e
  simp only [if_true] at h ⊢
  exact .inr ⟨n, 0, 0, [], rfl, rfl, h, hp, rfl, by simp⟩
 ·simp only [if_neg e] at h ⊢
  exact .inr ⟨n, 1, 0, xs, rfl, rfl, h, hp, by simp, by omega⟩
def CQ (H : Heap) (s : Rs) (m : Nat) (st : St) : Prop := st.marks = [] ∧ ∃ i : Nat, m = s.qs.length - i ∧ i ≤ s.qs.length ∧
 (eget st.env 1 = .ptr H.length 0 ∧ eget st.env 2 = .ptr (H.length + 1) 0 ∧ eget st.env 3 = .ptr (H.length + 2) 0 ∧ eget st.env 4 = .int .i64 i ∧ st.env.length = 60) ∧ OI H s i 0 st.heap
def CT (H : Heap) (s : Rs) (m : Nat) (st : St) : Prop := st.marks = [] ∧ ∃ i : Nat, m = s.st.length - i ∧ i ≤ s.st.length ∧
 (eget st.env 1 = .ptr H.length 0 ∧ eget st.env 2 = .ptr (H.length + 1) 0 ∧ eget st.env 3 = .ptr (H.length + 2) 0 ∧ eget st.env 5 = .int .i64 i ∧ st.env.length = 60) ∧ OI H s s.qs.length i st.heap
theorem xZU (s : Rs) (z : SzS s) (H : Heap) : ∃ r h', callW Φ (.fn (.func zZ8.k) [] []) [.agg (cS s)] H = some (r, h') ∧ (ownP s H) r h' := by
 obtain ⟨P, hP⟩ : ∃ P : V → Heap → Prop, P = ownP s H := ⟨_, rfl⟩
 suffices hgo : ∃ r h', callW Φ (.fn (.func zZ8.k) [] []) [.agg (cS s)] H = some (r, h') ∧ P r h' by rw [hP] at hgo; exact hgo
 have hPi : ∀ r h', (ownP s H) r h' → P r h' := fun r h' q => by rw [hP]; exact q
 clear hP
 refine wZS zZ8.Φ rfl (Nat.le_of_ble_eq_true rfl) (fun env he h0 => ?_)
 have g0 := h0 0 (by simp)
 change eget env 0 = .agg (cS s) at g0
 clear h0
 simp [zZ8.c] at he
 obtain ⟨z1, z2, z3, z4', z5⟩ := z
 have z3' := z3
 unfold SzL at z3'
 have b0 : evBox H (cS s) = some (.ptr H.length 0, H ++ [.cells (cS s)]) := wZs _ _ rfl
 have hcc : (V.agg (cS s)).cells = cS s := rfl
 obtain ⟨A0, hA0⟩ : ∃ A0, A0 = H ++ [.cells (cS s), .cells z4, .resv 3] := ⟨_, rfl⟩
 have l0 : A0.length = H.length + 3 := by rw [hA0]; simp
 have p0 : A0[H.length]? = some (.cells (cS s)) := by rw [hA0]; simp
 have p1 : A0[H.length + 1]? = some (.cells z4) := by rw [hA0, List.getElem?_append_right (by omega)]; simp
 obtain ⟨A1, hA1⟩ : ∃ A1, A1 = A0.set (H.length + 2) (.cells z4) := ⟨_, rfl⟩
 obtain ⟨B0, hB0⟩ : ∃ B0, B0 = A0 ++ [Ob.row 1 [] 0 true] := ⟨_, rfl⟩
 obtain ⟨B1, hB1⟩ : ∃ B1, B1 = A1 ++ [Ob.row 1 [] 0 true] := ⟨_, rfl⟩
 obtain ⟨C0, hC0⟩ : ∃ C0, C0 = B0.set (H.length + 3) (apO 1 (s.bk.map cI)) := ⟨_, rfl⟩
 obtain ⟨C1, hC1⟩ : ∃ C1, C1 = B1.set (H.length + 3) (apO 1 (s.bk.map cI)) := ⟨_, rfl⟩
 have l1 : A1.length = H.length + 3 := by rw [hA1]; simp [l0]
 have hB1' : B1 = B0.set (H.length + 2) (.cells z4) := by rw [hB1, hB0, hA1, List.set_append_left _ _ (by omega)]
 have hC0' : C0 = A0 ++ [apO 1 (s.bk.map cI)] := by rw [hC0, hB0, List.set_append_right _ _ (by omega), l0]; simp
 have hC1' : C1 = A1 ++ [apO 1 (s.bk.map cI)] := by rw [hC1, hB1, List.set_append_right _ _ (by omega), l1]; simp
 have hC1'' : C1 = C0.set (H.length + 2) (.cells z4) := by rw [hC1', hC0', hA1, List.set_append_left _ _ (by omega)]
 have fr : ∀ E : Heap, (∀ o ∈ E, ∀ e, o ≠ .resv e) → findR 3 (A0 ++ E) 0 none = some (H.length + 2) := fun E hE => by
  have := kZo (d := 3) (H ++ [.cells (cS s), .cells z4]) E 0 none hE
  rw [hA0]; simpa using this
 have f0 := fr [] (by simp)
 rw [List.append_nil] at f0
 have f1 := fr [Ob.row 1 [] 0 true] (by simp)
 rw [← hB0] at f1
 have f2 := fr [apO 1 (s.bk.map cI)] (by intro o ho e; rw [List.mem_singleton.1 ho]; unfold apO; simp)
 rw [← hC0'] at f2
 have x0 : evAllocD A0 3 z4 = some (.ptr (H.length + 2) 0, A1) := by simp only [evAllocD, f0, vZL, vZC, hA1]
 have x1 : evAllocD B0 3 z4 = some (.ptr (H.length + 2) 0, B1) := by simp only [evAllocD, f1, vZL, vZC, hB1']
 have x2 : evAllocD C0 3 z4 = some (.ptr (H.length + 2) 0, C1) := by simp only [evAllocD, f2, vZL, vZC, hC1'']
 have y0 := bs0 A0 [.int .i64 0] 1
 rw [l0, ← hB0] at y0
 have y1 := bs0 A1 [.int .i64 0] 1
 rw [l1, ← hB1] at y1
 obtain ⟨v2, hv2⟩ : ∃ v2, v2 = apV (H.length + 3) (s.bk.map cI) := ⟨_, rfl⟩
 have room : (s.bk.map cI).length * 8 ≤ roomB := by rw [List.length_map]; unfold roomB; omega
 have w0 := ap_run (H := B0) (n := H.length + 3) (by_ := 8) (by rw [hB0, List.getElem?_append_right (by omega), l0]; simp) (plainI s.bk) room
 have w1 := ap_run (H := B1) (n := H.length + 3) (by_ := 8) (by rw [hB1, List.getElem?_append_right (by omega), l1]; simp) (plainI s.bk) room
 rw [← hC0, ← hv2] at w0
 rw [← hC1, ← hv2] at w1
 have q0 : A1[H.length]? = some (.cells (cS s)) := by rw [hA1, List.getElem?_set_ne (by omega)]; exact p0
 have q1 : B0[H.length]? = some (.cells (cS s)) := by rw [hB0, List.getElem?_append_left (by omega)]; exact p0
 have q2 : B1[H.length]? = some (.cells (cS s)) := by rw [hB1, List.getElem?_append_left (by omega)]; exact q0
 have q3 : C0[H.length]? = some (.cells (cS s)) := by rw [hC0', List.getElem?_append_left (by omega)]; exact p0
 have q4 : C1[H.length]? = some (.cells (cS s)) := by rw [hC1', List.getElem?_append_left (by omega)]; exact q0
 have q5 : C1[H.length + 1]? = some (.cells z4) := by rw [hC1', List.getElem?_append_left (by omega), hA1, List.getElem?_set_ne (by omega)]; exact p1
 have q6 : C1[H.length + 2]? = some (.cells z4) := by rw [hC1', List.getElem?_append_left (by omega), hA1, List.getElem?_set_self (by omega)]
 have q7 : C1[H.length + 3]? = some (apO 1 (s.bk.map cI)) := by rw [hC1', List.getElem?_append_right (by omega), l1]; simp
 have hbl := ap_vs q7 (plainI s.bk)
 rw [← hv2] at hbl
 have ca : ∀ {X : Heap}, X[H.length]? = some (.cells (cS s)) → cellsAt X (.ptr H.length 2) = some ((cS s).drop 2) ∧ cellsAt X (.ptr H.length 3) = some ((cS s).drop 3) := fun h => ⟨qZo h 2, qZo h 3⟩
 have k0 := ca p0
 have k1 := ca q0
 have k2 := ca q1
 have k3 := ca q2
 have k4 := ca q3
 have k5 := ca q4
 have bd : ∀ X : Heap, evBuild X z4 [(3, 1, .bool s.busy), (2, 1, v2)] = some (.agg [.nils, .nils, v2, .bool s.busy], X) := fun X => by
  have hb : (V.bool s.busy).cells = [.bool s.busy] := rfl
  simp only [evBuild, placeParts, hbl.cell.2, hb, List.all_cons, List.all_nil, hbl.cell.1]
  simp [setRange, V.isCell]
 have hcell := hbl.cell.1
 have st : evStoreV C1 4 (.ptr (H.length + 2) 0) (.agg [.nils, .nils, v2, .bool s.busy]) = some (V.non, C1.set (H.length + 2) (.cells [.nils, .nils, v2, .bool s.busy])) := vZE q6 rfl rfl (by simp only [List.all_cons, List.all_nil, hcell]; rfl)
 obtain ⟨C, hC⟩ : ∃ C, C = C1.set (H.length + 2) (.cells [.nils, .nils, v2, .bool s.busy]) := ⟨_, rfl⟩
 rw [← hC] at st
 have cc0 : C[H.length]? = some (.cells (cS s)) := by rw [hC, List.getElem?_set_ne (by omega)]; exact q4
 have cc1 : C[H.length + 1]? = some (.cells z4) := by rw [hC, List.getElem?_set_ne (by omega)]; exact q5
 have cc2 : C[H.length + 2]? = some (.cells [.nils, .nils, v2, .bool s.busy]) := by rw [hC]; exact wZd q6 _
 have cck : ∀ k, k < H.length → C[k]? = H[k]? := fun k hk => by
  rw [hC, List.getElem?_set_ne (by omega), hC1', List.getElem?_append_left (by omega), hA1, List.getElem?_set_ne (by omega), hA0, List.getElem?_append_left hk]
 have cbl : VS C 1 v2 (some (H.length + 3)) (s.bk.map cI) := hbl.mono fun id h => by rw [hC, List.getElem?_set_ne (by cases h; omega)]
 have own0 : OI H s 0 0 C := ⟨.nils, .nils, v2, none, none, _, [], [], cck, cc0, cc1, cc2, VQ.nil _ _ _, VQ.nil _ _ _, cbl, fun id h => by simp [Ow] at h, fun id h => by simp [Ow] at h, fun id h => by cases h; omega, fun id h => by simp [Ow] at h, fun id h => by simp [Ow] at h, fun id h => by simp [Ow] at h⟩
 simp [zZ8.c, zZ8.r0, zZ8.r1, g0, he, hcc, b0]
 rw [← hA0]
 refine kEnv fun env2 hE => ?_
 have j1 : eget env2 1 = .ptr H.length 0 := by rw [hE]; simp [he]
 have j2 : eget env2 2 = .ptr (H.length + 1) 0 := by rw [hE]; simp [he]
 have jl : env2.length = 60 := by rw [hE]; simp [he]
 clear hE
 refine kDrawW zZ8.r2.ord ?_
 simp [zZ8.r2, zZ8.r3, List.filterMap_cons, j1, j2, jl, k0, k1, k2, k3, k4, k5, x0, x1, x2, y0, y1, w0, w1, bd, st, vZa]
 refine ⟨?_, ?_⟩
 ·simp only [xZY, jZ9, List.cons_append, List.nil_append]
  repeat' apply And.intro
  all_goals exact xZX _ rfl rfl rfl rfl
 refine kLoop (CQ H s) s.qs.length ⟨rfl, 0, rfl, by omega, ⟨by simp [j1], by simp [j2], by simp [jl], by simp [jl], by simpa using jl⟩, own0⟩ ?_
 clear own0 cbl cck cc0 cc1 cc2 st bd hcell k0 k1 k2 k3 k4 k5 ca hbl q0 q1 q2 q3 q4 q5 q6 q7 w0 w1 hv2 y0 y1 l1 x0 x1 x2 f0 f1 f2 fr hB1' hC0' hC1' hC1'' hC0 hC1 hB1 hB0 hA1 room p0 p1 l0 hA0 b0 hcc hC j1 j2 jl g0 he env env2
 rintro m ⟨env, mk, S⟩ ⟨hm, i, rfl, hi, ⟨k1, k2, k3, k4, hl⟩, w0, w1, w2, u0, u1, u2, us0, us1, hS, hb0, hb1, hb2, hw⟩
 simp only at hm k1 k2 k3 k4 hl hS hb0 hb1 hb2 hw
 obtain rfl := hm
 have hlt2 := (List.getElem?_eq_some_iff.1 hb2).1
 by_cases c : i < s.qs.length
 ·have cc1 : (i : Int) < s.qs.length := by omega
  obtain ⟨x, hx⟩ : ∃ x, s.qs[i]? = some x := ⟨_, List.getElem?_eq_getElem c⟩
  have zx := z4' x (List.mem_of_getElem? hx)
  unfold SzQ at zx
  have ia : ∀ X : Heap, iaddrV X 2 (.arr (s.qs.map cQu)) (.int .i64 i) = some (.iptr (cQu x)) := fun X => jZq hx
  have wr := wrap64 (n := (i : Int) + 1) (by omega) (by omega)
  have y0 := bs0 S zX 12
  obtain ⟨S1, hS1⟩ : ∃ S1, S1 = S ++ [Ob.row 12 [] 0 true] := ⟨_, rfl⟩
  rw [← hS1] at y0
  obtain ⟨S2, hS2⟩ : ∃ S2, S2 = S1.set S.length (apO 12 (x.l.map cX)) := ⟨_, rfl⟩
  obtain ⟨v, hv⟩ : ∃ v, v = apV S.length (x.l.map cX) := ⟨_, rfl⟩
  have a0 := ap_run (H := S1) (n := S.length) (by_ := 128) (by rw [hS1]; simp) (plainX x.l) (by rw [List.length_map]; unfold roomB; omega)
  rw [← hS2, ← hv] at a0
  have l1 : S1.length = S.length + 1 := by rw [hS1]; simp
  have l2 : S2.length = S.length + 1 := by rw [hS2]; simp [l1]
  have n2 : S2[S.length]? = some (apO 12 (x.l.map cX)) := by rw [hS2, List.getElem?_set_self (by omega)]
  have hvl := ap_vs n2 (plainX x.l)
  rw [← hv] at hvl
  have o1 : ∀ j, j < S.length → S1[j]? = S[j]? := fun j hj => by rw [hS1, List.getElem?_append_left hj]
  have o2 : ∀ j, j < S.length → S2[j]? = S[j]? := fun j hj => by rw [hS2, List.getElem?_set_ne (by omega), o1 j hj]
  have cfa : ∀ {X : Heap}, (∀ j, j < S.length → X[j]? = S[j]?) → cellsAt X (.ptr (H.length + 2) 0) = some [w0, w1, w2, .bool s.busy] ∧ cellsAt X (.ptr H.length 0) = some (cS s) := fun h => ⟨qZo (by rw [h _ hlt2]; exact hb2) 0, qZo (by rw [h _ (by omega)]; exact hb0) 0⟩
  have e0 := cfa (X := S) fun _ _ => rfl
  have e1 := cfa o1
  have e2 := cfa o2
  have okw : ∀ X : Heap, okCells X none (some [w0, w1, w2, .bool s.busy]) = some (w0, X) := fun X => by
   have := hw.q.cell.1
   simp [okCells, this]
  have okq : ∀ X : Heap, okCells X none (some (cS s)) = some (.arr (s.qs.map cQu), X) := fun _ => rfl
  have x3 : ∀ X : Heap, okCells X none (some (cQu x)) = some (.int .i64 x.el, X) := fun _ => rfl
  have x4 : ∀ X : Heap, okCells X none (some (cQu x).tail) = some (.arr (x.l.map cX), X) := fun _ => rfl
  have fa : faddrV 1 (.iptr (cQu x)) = some (.iptr (cQu x).tail) := rfl
  have bd : ∀ X : Heap, evBuild X [.int .i64 0, .nils] [(0, 1, .int .i64 x.el), (1, 1, v)] = some (.agg [.int .i64 x.el, v], X) := fun X => build2 X x.el hvl.cell
  have bs := bsQ S2 x.el v hvl.cell.1
  obtain ⟨w0', u0', S4, e4, hw4, l4, k4'⟩ := hw.addQ (H' := S2) (by omega) o2 (by omega) (El.Q hvl) (fun id hid => by cases hid; omega) (by rw [List.length_take]; omega)
  have b4 : S4[H.length + 2]? = some (.cells [w0, w1, w2, .bool s.busy]) := by rw [k4' _ (by omega)]; exact hb2
  have s5 := wZF (off := 0) b4 (by simp) hw4.q.cell
  obtain ⟨S5, hS5⟩ : ∃ S5, S5 = S4.set (H.length + 2) (.cells [w0', w1, w2, .bool s.busy]) := ⟨_, rfl⟩
  have s5' : evStoreV S4 1 (.ptr (H.length + 2) 0) w0' = some (V.non, S5) := by rw [hS5]; exact s5
  have hw5 : Own S5 (H.length + 3) w0' w1 w2 u0' u1 u2 (us0 ++ [some S.length]) us1 (s.qs.take (i + 1)) (s.st.take 0) s.bk [] [] := by
   rw [List.take_add_one, hx]
   exact hw4.mono fun id h _ => by rw [hS5, List.getElem?_set_ne (by omega)]
  have base : ∀ j, j < H.length + 2 → S5[j]? = S[j]? := fun j hj => by rw [hS5, List.getElem?_set_ne (by omega), k4' j (by omega)]
  have hfin : OI H s (i + 1) 0 S5 := ⟨w0', w1, w2, u0', u1, u2, _, us1, fun j hj => by rw [base j (by omega)]; exact hS j hj, by rw [base _ (by omega)]; exact hb0, by rw [base _ (by omega)]; exact hb1, by rw [hS5]; exact wZd b4 _, hw5⟩
  have e0b := e0.2
  simp [zZ8.b7, zZ8.r4, k1, k2, k3, k4, hl, cc1, e0b, okq, vZa]
  refine kEnv fun env2 hE => ?_
  have j1 : eget env2 1 = .ptr H.length 0 := by rw [hE]; simp [hl, k1]
  have j2 : eget env2 2 = .ptr (H.length + 1) 0 := by rw [hE]; simp [hl, k2]
  have j3 : eget env2 3 = .ptr (H.length + 2) 0 := by rw [hE]; simp [hl, k3]
  have j4 : eget env2 4 = .int .i64 i := by rw [hE]; simp [hl, k4]
  have jl : env2.length = 60 := by rw [hE]; simp [hl]
  clear hE k1 k2 k3 k4 hl env
  refine kDrawW zZ8.r5.ord ?_
  simp (config := { maxSteps := 5000000 }) [zZ8.r5, zZ8.r6, List.filterMap_cons, j1, j2, j3, j4, jl, e0, e1, e2, okw, okq, ia, x3, x4, fa, y0, a0, bd, bs, e4, s5', wr]
  refine ⟨?_, ?_⟩
  ·simp only [xZY, jZ9, List.cons_append, List.nil_append]
   repeat' apply And.intro
   all_goals exact xZX _ rfl rfl rfl rfl
  exact ⟨s.qs.length - (i + 1), by omega, rfl, i + 1, rfl, by omega, ⟨by simp [jl, j1], by simp [jl, j2], by simp [jl, j3], by simp [jl], by simp [jl]⟩, hfin⟩
 have c1 : ¬ (i : Int) < s.qs.length := by omega
 obtain rfl : i = s.qs.length := by omega
 have cA : cellsAt S (.ptr H.length 0) = some (cS s) := qZo hb0 0
 have okq : ∀ X : Heap, okCells X none (some (cS s)) = some (.arr (s.qs.map cQu), X) := fun _ => rfl
 simp [zZ8.b7, zZ8.r4, zZ8.r8, k1, k2, k3, k4, hl, c1, cA, okq, vZa]
 refine kLoop (CT H s) s.st.length ⟨rfl, 0, rfl, by omega, ⟨by simp [hl, k1], by simp [hl, k2], by simp [hl, k3], by simp [hl], by simpa using hl⟩, ⟨w0, w1, w2, u0, u1, u2, us0, us1, hS, hb0, hb1, hb2, hw⟩⟩ ?_
 clear hlt2 hw hb2 hb1 hb0 hS cA hl k1 k2 k3 k4 c c1 hi okq
 clear S env w0 w1 w2 u0 u1 u2 us0 us1
 rintro m ⟨env, mk, S⟩ ⟨hm, i, rfl, hi, ⟨k1, k2, k3, k5, hl⟩, w0, w1, w2, u0, u1, u2, us0, us1, hS, hb0, hb1, hb2, hw⟩
 simp only at hm k1 k2 k3 k5 hl hS hb0 hb1 hb2 hw
 obtain rfl := hm
 have hlt2 := (List.getElem?_eq_some_iff.1 hb2).1
 have okt : ∀ X : Heap, okCells X none (some ((cS s).drop 1)) = some (.arr (s.st.map cL), X) := fun _ => rfl
 have cst : cellsAt S (.ptr H.length 1) = some ((cS s).drop 1) := qZo hb0 1
 by_cases c : i < s.st.length
 ·have cc1 : (i : Int) < s.st.length := by omega
  obtain ⟨x, hx⟩ : ∃ x, s.st[i]? = some x := ⟨_, List.getElem?_eq_getElem c⟩
  have zx := z5 x (List.mem_of_getElem? hx)
  unfold SzL at zx
  have ia : ∀ X : Heap, iaddrV X 1 (.arr (s.st.map cL)) (.int .i64 i) = some (.iptr (cL x)) := fun X => xZ1 hx
  have wr := wrap64 (n := (i : Int) + 1) (by omega) (by omega)
  have y0 := bs0 S [.int .i64 0] 1
  obtain ⟨S1, hS1⟩ : ∃ S1, S1 = S ++ [Ob.row 1 [] 0 true] := ⟨_, rfl⟩
  rw [← hS1] at y0
  obtain ⟨S2, hS2⟩ : ∃ S2, S2 = S1.set S.length (apO 1 (x.map cI)) := ⟨_, rfl⟩
  obtain ⟨v, hv⟩ : ∃ v, v = apV S.length (x.map cI) := ⟨_, rfl⟩
  have a0 := ap_run (H := S1) (n := S.length) (by_ := 8) (by rw [hS1]; simp) (plainI x) (by rw [List.length_map]; unfold roomB; omega)
  rw [← hS2, ← hv] at a0
  have l1 : S1.length = S.length + 1 := by rw [hS1]; simp
  have l2 : S2.length = S.length + 1 := by rw [hS2]; simp [l1]
  have n2 : S2[S.length]? = some (apO 1 (x.map cI)) := by rw [hS2, List.getElem?_set_self (by omega)]
  have hvl := ap_vs n2 (plainI x)
  rw [← hv] at hvl
  have o1 : ∀ j, j < S.length → S1[j]? = S[j]? := fun j hj => by rw [hS1, List.getElem?_append_left hj]
  have o2 : ∀ j, j < S.length → S2[j]? = S[j]? := fun j hj => by rw [hS2, List.getElem?_set_ne (by omega), o1 j hj]
  have cfa : ∀ {X : Heap}, (∀ j, j < S.length → X[j]? = S[j]?) → cellsAt X (.ptr (H.length + 2) 1) = some [w1, w2, .bool s.busy] ∧ cellsAt X (.ptr H.length 1) = some ((cS s).drop 1) := fun h => ⟨qZo (by rw [h _ hlt2]; exact hb2) 1, qZo (by rw [h _ (by omega)]; exact hb0) 1⟩
  have e0 := cfa (X := S) fun _ _ => rfl
  have e1 := cfa o1
  have e2 := cfa o2
  have okw : ∀ X : Heap, okCells X none (some [w1, w2, .bool s.busy]) = some (w1, X) := fun X => by
   have := hw.t.cell.1
   simp [okCells, this]
  have bs := bsT S2 v hvl.cell
  obtain ⟨w1', u1', S4, e4, hw4, l4, k4'⟩ := hw.addT (H' := S2) (by omega) o2 (by omega) (El.T hvl) (fun id hid => by cases hid; omega) (by rw [List.length_take]; omega)
  have b4 : S4[H.length + 2]? = some (.cells [w0, w1, w2, .bool s.busy]) := by rw [k4' _ (by omega)]; exact hb2
  have s5 := wZF (off := 1) b4 (by simp) hw4.t.cell
  obtain ⟨S5, hS5⟩ : ∃ S5, S5 = S4.set (H.length + 2) (.cells [w0, w1', w2, .bool s.busy]) := ⟨_, rfl⟩
  have s5' : evStoreV S4 1 (.ptr (H.length + 2) 1) w1' = some (V.non, S5) := by rw [hS5]; exact s5
  have hw5 : Own S5 (H.length + 3) w0 w1' w2 u0 u1' u2 us0 (us1 ++ [some S.length]) (s.qs.take s.qs.length) (s.st.take (i + 1)) s.bk [] [] := by
   rw [List.take_add_one, hx]
   exact hw4.mono fun id h _ => by rw [hS5, List.getElem?_set_ne (by omega)]
  have base : ∀ j, j < H.length + 2 → S5[j]? = S[j]? := fun j hj => by rw [hS5, List.getElem?_set_ne (by omega), k4' j (by omega)]
  have hfin : OI H s s.qs.length (i + 1) S5 := ⟨w0, w1', w2, u0, u1', u2, us0, _, fun j hj => by rw [base j (by omega)]; exact hS j hj, by rw [base _ (by omega)]; exact hb0, by rw [base _ (by omega)]; exact hb1, by rw [hS5]; exact wZd b4 _, hw5⟩
  simp [zZ8.b12, zZ8.r9, k1, k2, k3, k5, hl, cc1, cst, okt, vZa]
  refine kEnv fun env2 hE => ?_
  have j1 : eget env2 1 = .ptr H.length 0 := by rw [hE]; simp [hl, k1]
  have j2 : eget env2 2 = .ptr (H.length + 1) 0 := by rw [hE]; simp [hl, k2]
  have j3 : eget env2 3 = .ptr (H.length + 2) 0 := by rw [hE]; simp [hl, k3]
  have j5 : eget env2 5 = .int .i64 i := by rw [hE]; simp [hl, k5]
  have jl : env2.length = 60 := by rw [hE]; simp [hl]
  clear hE k1 k2 k3 k5 hl env
  refine kDrawW zZ8.r10.ord ?_
  simp (config := { maxSteps := 5000000 }) [zZ8.r10, zZ8.r11, List.filterMap_cons, j1, j2, j3, j5, jl, e0, e1, e2, okw, okt, ia, okL, y0, a0, bs, e4, s5', wr]
  refine ⟨?_, ?_⟩
  ·simp only [xZY, jZ9, List.cons_append, List.nil_append]
   repeat' apply And.intro
   all_goals exact xZX _ rfl rfl rfl rfl
  exact ⟨s.st.length - (i + 1), by omega, rfl, i + 1, rfl, by omega, ⟨by simp [jl, j1], by simp [jl, j2], by simp [jl, j3], by simp [jl], by simp [jl]⟩, hfin⟩
 have c1 : ¬ (i : Int) < s.st.length := by omega
 rw [List.take_of_length_le (Nat.le_refl _), List.take_of_length_le (by omega)] at hw
 have cA := qZo hb2 0
 have hcell : ([w0, w1, w2, .bool s.busy] : List V).all V.isCell = true := by simp only [List.all_cons, List.all_nil, hw.q.cell.1, hw.t.cell.1, hw.b.cell.1]; rfl
 have s4 := vZE (n := 4) (A := [w0, w1, w2, .bool s.busy]) hb1 rfl rfl hcell
 obtain ⟨S6, hS6⟩ : ∃ S6, S6 = S.set (H.length + 1) (.cells [w0, w1, w2, .bool s.busy]) := ⟨_, rfl⟩
 rw [← hS6] at s4
 have cB : cellsAt S6 (.ptr (H.length + 1) 0) = some [w0, w1, w2, .bool s.busy] := by rw [hS6]; exact qZo (wZd hb1 _) 0
 have hl6 : H.length ≤ S6.length := by rw [hS6]; simp; omega
 have fin := hPi (.agg [w0, w1, w2, .bool s.busy]) S6 ⟨w0, w1, w2, u0, u1, u2, us0, us1, rfl, fun j hj => by rw [hS6, List.getElem?_set_ne (by omega)]; exact hS j hj, hl6, (hw.mono fun id h _ => by rw [hS6, List.getElem?_set_ne (by omega)]).low (by omega)⟩
 simp [zZ8.c, zZ8.b12, zZ8.r9, zZ8.r13, k1, k2, k3, k5, hl, c1, cst, okt, vZa, cA, s4, cB, ofCells, fin]
open Go Go.Ev
theorem zYab (l : List Int) (hz : SzL l) (H : Heap) : callW Φ zZJ [.arr (l.map cI), .arr (l.map cI)] H = some (.bool true, H) := by
 have := zYad l l (by unfold SzL at hz; omega) H
 simpa using this
theorem xZV (s : Rs) (z : SzS s) (H : Heap) : callW Φ zZO [.agg (cS s), .agg (cS s)] H = some (.bool true, H) := by
 have : ∃ hh, evBodyW (callW Φ) zZO.c [.agg (cS s), .agg (cS s)] [] = some (.bool true, hh) := by
  refine jZ0 (Nat.le_of_ble_eq_true rfl) (fun env he h0 => ?_)
  have g0 := h0 0 (by simp)
  change eget env 0 = .agg (cS s) at g0
  have g1 := h0 1 (by simp)
  change eget env 1 = .agg (cS s) at g1
  clear h0
  simp [zZO.c] at he
  obtain ⟨z1, z2, z3, z4, z5⟩ := z
  have b0 : evBox [] (cS s) = some (.ptr 0 0, [.cells (cS s)]) := wZs [] _ rfl
  have b1 : evBox [.cells (cS s)] (cS s) = some (.ptr 1 0, [.cells (cS s), .cells (cS s)]) := wZs [.cells (cS s)] _ rfl
  have hcc : (V.agg (cS s)).cells = cS s := rfl
  obtain ⟨H0, hH0⟩ : ∃ H0 : Heap, H0 = [.cells (cS s), .cells (cS s)] := ⟨_, rfl⟩
  rw [← hH0] at b1
  have d0 : cellsAt H0 (.ptr 0 0) = some (cS s) := by rw [hH0]; rfl
  have d1 : cellsAt H0 (.ptr 1 0) = some (cS s) := by rw [hH0]; rfl
  have d2 : cellsAt H0 (.ptr 0 1) = some ((cS s).drop 1) := by rw [hH0]; rfl
  have d3 : cellsAt H0 (.ptr 1 1) = some ((cS s).drop 1) := by rw [hH0]; rfl
  have d4 : cellsAt H0 (.ptr 0 2) = some ((cS s).drop 2) := by rw [hH0]; rfl
  have d5 : cellsAt H0 (.ptr 1 2) = some ((cS s).drop 2) := by rw [hH0]; rfl
  have d6 : cellsAt H0 (.ptr 0 3) = some ((cS s).drop 3) := by rw [hH0]; rfl
  have d7 : cellsAt H0 (.ptr 1 3) = some ((cS s).drop 3) := by rw [hH0]; rfl
  have okq : ∀ H : Heap, okCells H none (some (cS s)) = some (.arr (s.qs.map cQu), H) := fun _ => rfl
  have hint := zYab s.bk z3
  have eqb : ∀ H : Heap, evEqc H true (.leaf .b) (.bool s.busy) (.bool s.busy) = some (.bool false, H) := fun H => by cases s.busy <;> rfl
  have nq : ((s.qs.length : Int) != s.qs.length) = false := by simp
  clear hH0
  simp (config := { maxSteps := 5000000 }) [zZO.c, zZO.r0, zZO.r1, zZO.r3, g0, g1, he, hcc, b0, b1, d0, d1, d2, d3, d4, d5, d6, d7, okq, vZa, hint, eqb, evPick]
  refine kLoop (fun m st => ∃ i : Nat, m = s.qs.length - i ∧ i ≤ s.qs.length ∧ eget st.env 2 = .ptr 0 0 ∧ eget st.env 3 = .ptr 1 0 ∧ eget st.env 5 = .int .i64 i ∧ st.env.length = 125 ∧ st.marks = [] ∧ st.heap = H0) s.qs.length
   ⟨0, rfl, by omega, by simp [he], by simp [he], by simp [he], by simpa using he, rfl, rfl⟩ ?_
  clear g0 g1 he env b0 b1 hcc
  rintro m ⟨env, mk, S⟩ ⟨i, rfl, hi, k2, k3, k5, hl, hm, hS⟩
  simp only at hm k2 k3 k5 hl hS
  obtain rfl := hm
  obtain rfl := hS
  by_cases c : i < s.qs.length
  ·have cc : (i : Int) < s.qs.length := by omega
   obtain ⟨q, hq⟩ : ∃ q, s.qs[i]? = some q := ⟨_, List.getElem?_eq_getElem c⟩
   have ia := jZq (h := S) (k := .i64) hq
   have wr := wrap64 (n := (i : Int) + 1) (by omega) (by omega)
   have x3 : ∀ H, okCells H none (some (cQu q)) = some (.int .i64 q.el, H) := fun _ => rfl
   have x4 : ∀ H, okCells H none (some (cQu q).tail) = some (.arr (q.l.map cX), H) := fun _ => rfl
   have fa : faddrV 1 (.iptr (cQu q)) = some (.iptr (cQu q).tail) := rfl
   have zq := z4 q (List.mem_of_getElem? hq)
   unfold SzQ at zq
   simp [zZO.b14, zZO.r4, k2, k3, k5, hl, d0, okq, vZa, cc]
   refine kDraw1 zZO.r5.ord ?_
   simp (config := { maxSteps := 5000000 }) [zZO.r5, zZO.r7, k2, k3, k5, hl, d0, d1, okq, ia, x3, x4, fa, vZa, evPick]
   refine kLoop (fun m st => ∃ j : Nat, m = q.l.length - j ∧ j ≤ q.l.length ∧ eget st.env 2 = .ptr 0 0 ∧ eget st.env 3 = .ptr 1 0 ∧ eget st.env 5 = .int .i64 i ∧ eget st.env 6 = .int .i64 j ∧ st.env.length = 125 ∧ st.marks = [] ∧ st.heap = S) q.l.length
    ⟨0, rfl, by omega, by simp [hl, k2], by simp [hl, k3], by simp [hl, k5], by simp [hl], by simpa using hl, rfl, rfl⟩ ?_
   clear k2 k3 k5 hl env
   rintro m ⟨env, mk, S2⟩ ⟨j, rfl, hj, k2, k3, k5, k6, hl, hm, hS⟩
   simp only at hm k2 k3 k5 k6 hl hS
   obtain rfl := hm
   obtain rfl := hS
   by_cases d : j < q.l.length
   ·have dd : (j : Int) < q.l.length := by omega
    obtain ⟨r, hr⟩ : ∃ r, q.l[j]? = some r := ⟨_, List.getElem?_eq_getElem d⟩
    have ib := xZ9 (h := S2) (k := .i64) hr
    have wj := wrap64 (n := (j : Int) + 1) (by omega) (by omega)
    have eq := eqc_rx S2 r r
    simp at eq
    simp [zZO.b12, zZO.r8, k2, k3, k5, k6, hl, d0, okq, ia, x4, fa, vZa, dd]
    refine kDraw1 zZO.r9.ord ?_
    simp (config := { maxSteps := 5000000 }) [zZO.r9, zZO.r11, k2, k3, k5, k6, hl, d0, d1, okq, ia, x4, fa, ib, okX1, eq, wj]
    exact ⟨q.l.length - (j + 1), by omega, j + 1, rfl, by omega, by simp⟩
   ·have dd : ¬ (j : Int) < q.l.length := by omega
    simp [zZO.b12, zZO.r8, zZO.r13, k2, k3, k5, k6, hl, d0, okq, ia, x4, fa, vZa, dd, wr]
    exact ⟨s.qs.length - (i + 1), by omega, i + 1, rfl, by omega, by simp⟩
  ·have cc : ¬ (i : Int) < s.qs.length := by omega
   simp [zZO.b14, zZO.r4, zZO.r15, k2, k3, k5, hl, d0, okq, vZa, cc]
   refine kLoop (fun m st => ∃ i : Nat, m = s.st.length - i ∧ i ≤ s.st.length ∧ eget st.env 2 = .ptr 0 0 ∧ eget st.env 3 = .ptr 1 0 ∧ eget st.env 7 = .int .i64 i ∧ st.env.length = 125 ∧ st.marks = [] ∧ st.heap = S) s.st.length
    ⟨0, rfl, by omega, by simp [hl, k2], by simp [hl, k3], by simp [hl], by simpa using hl, rfl, rfl⟩ ?_
   clear k2 k3 k5 hl env
   rintro m ⟨env, mk, S2⟩ ⟨j, rfl, hj, k2, k3, k7, hl, hm, hS⟩
   simp only at hm k2 k3 k7 hl hS
   obtain rfl := hm
   obtain rfl := hS
   by_cases d : j < s.st.length
   ·have dd : (j : Int) < s.st.length := by omega
    obtain ⟨l, hll⟩ : ∃ l, s.st[j]? = some l := ⟨_, List.getElem?_eq_getElem d⟩
    have ib := xZ1 (h := S2) (k := .i64) hll
    have wj := wrap64 (n := (j : Int) + 1) (by omega) (by omega)
    have hil := zYab l (z5 l (List.mem_of_getElem? hll))
    simp [zZO.b20, zZO.r16, k2, k3, k7, hl, d2, vZa, dd]
    refine kDraw1 zZO.r17.ord ?_
    simp [zZO.r17, zZO.r19, k2, k3, k7, hl, d2, d3, ib, okL, hil, wj]
    exact ⟨s.st.length - (j + 1), by omega, j + 1, rfl, by omega, by simp⟩
   ·have dd : ¬ (j : Int) < s.st.length := by omega
    simp [zZO.c, zZO.b20, zZO.r16, zZO.r21, k2, k3, k7, hl, d2, vZa, dd]
 obtain ⟨h', hb⟩ := this
 exact wZe (h := H) zZO.Φ rfl (args := [.agg (cS s), .agg (cS s)]) rfl hb rfl
end Go.Proofs.Rc
