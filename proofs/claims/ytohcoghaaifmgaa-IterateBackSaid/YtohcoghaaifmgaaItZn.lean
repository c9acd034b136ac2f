/- The program's List: a node and all within it. The book's order: Ancestors, Contains, All, Index. No conditions. -/
import Derived.Test.YtohcoghaaifmgaaItZl
set_option maxHeartbeats 16000000
set_option maxRecDepth 100000
set_option linter.unusedVariables false
set_option linter.unusedSimpArgs false
set_option linter.unusedSectionVars false
namespace Go.Proofs.It
open Go Go.Ev
theorem xZB {g : FuncId} {first caps : List V} {T : List Int} {H : Heap} (hT : T.length < 2 ^ 40) (hr : Runs (.fn (.func g) first caps) T H) :
  ∃ v o H', callW Φ zZl [.nils, .fn (.func g) first caps] H = some (v, H') ∧ VL H' 1 v o (T.map cI) := by
 obtain ⟨P, hP⟩ : ∃ P : V → Heap → Prop, P = fun r h' => ∃ o, VL h' 1 r o (T.map cI) := ⟨_, rfl⟩
 suffices hgo : ∃ r h', callW Φ zZl [.nils, .fn (.func g) first caps] H = some (r, h') ∧ P r h' by
  obtain ⟨r, h', h1, h2⟩ := hgo
  rw [hP] at h2
  obtain ⟨o, h2⟩ := h2
  exact ⟨r, o, h', h1, h2⟩
 have hPv : ∀ r h' o, VL h' 1 r o (T.map cI) → P r h' := fun r h' o q => by rw [hP]; exact ⟨o, q⟩
 clear hP
 obtain ⟨n, hn⟩ : ∃ n, n = H.length := ⟨_, rfl⟩
 refine call_x zZl.Φ rfl (Nat.le_of_ble_eq_true rfl) (fun env he gg => ?_)
 have g0 := gg 0 (by simp)
 have g1 := gg 1 (by simp)
 change eget env 0 = .nils at g0
 change eget env 1 = .fn (.func g) first caps at g1
 clear gg
 simp [zZl.c] at he
 obtain ⟨K2, hK2⟩ : ∃ K2 : Heap, K2 = H ++ [.cells [.nils]] := ⟨_, rfl⟩
 have hb1 : evBox H (V.nils).cells = some (.ptr n 0, K2) := by rw [hK2, hn]; simp [evBox, V.isCell, qZB, V.cells]
 simp [zZl.c, zZl.r0, zZl.r1, g0, g1, he, hb1]
 obtain ⟨env1, henv1⟩ : ∃ env1, env1 = ((env.set 2 (V.ptr n 0)).set 4 V.nils).set 6 (V.fn (.func g) first caps) := ⟨_, rfl⟩
 rw [← henv1]
 have el : env1.length = 13 := by rw [henv1]; simpa using he
 have k2 : eget env1 2 = .ptr n 0 := by rw [henv1]; simp [he]
 have k6 : eget env1 6 = .fn (.func g) first caps := by rw [henv1]; simp [he]
 have lK2 : K2.length = n + 1 := by rw [hK2, hn]; simp
 obtain ⟨K, hK⟩ : ∃ K, K = K2 ++ [Ob.defr false, aLp env1 n] := ⟨_, rfl⟩
 have hK' : K = H ++ [.cells [.nils], Ob.defr false, aLp env1 n] := by rw [hK, hK2]; simp
 have hC0 : Coll env1 n [] K := by
  refine ⟨?_, ?_, .nils, none, ?_, VL.nil _ _, fun _ h => by cases h⟩ <;> rw [hK', hn] <;> simp
 have hlen : ∀ p H', Coll env1 n p H' → n + 2 < H'.length := fun p H' h => (List.getElem?_eq_some_iff.1 h.2.1).1
 obtain ⟨H2, hc, h4, h5, v, o, h3, hv, ho⟩ := hr (.fn (.yield (n + 2)) [] []) (Coll env1 n) K
  (fun p x H' hp hJ => by rw [← hn]; exact coll_round el k2 (by omega) hJ)
  (fun p H' cs ⟨h4, h5, v, o, h3, hv, ho⟩ => ⟨by rw [List.getElem?_append_left (List.getElem?_eq_some_iff.1 h4).1]; exact h4, by rw [List.getElem?_append_left (List.getElem?_eq_some_iff.1 h5).1]; exact h5, v, o,
   by rw [List.getElem?_append_left (List.getElem?_eq_some_iff.1 h3).1]; exact h3, hv.push _, ho⟩)
  (fun p H' j ob hj ⟨h4, h5, v, o, h3, hv, ho⟩ => by
   rw [← hn] at hj
   exact ⟨by rw [List.getElem?_set_ne (by omega)]; exact h4, by rw [List.getElem?_set_ne (by omega)]; exact h5, v, o, by rw [List.getElem?_set_ne (by omega)]; exact h3, hv.mono fun id hid => List.getElem?_set_ne (by have := ho id hid; omega), ho⟩)
  (fun p H' h => by have := hlen p H' h; omega) (by rw [hK']; exact Kc.push _ _ _) hC0
 have hKf : K = K2 ++ [Ob.defr false, Ob.loop .ready none env1 [7] (Cc.region zZl.r2) zZl.b4 K2.length] := by rw [hK, lK2]
 rw [hKf, show n + 2 = K2.length + 1 by omega] at hc
 refine kRfunc (by simp only [Od.ev]; exact k6) hc (st := .ready) (pend := none) (e' := env1) (p' := [7]) (a' := .region zZl.r2) (b' := zZl.b4) (d' := n + 1) (by rw [lK2]; exact h5) (by decide) ?_
 obtain ⟨H3, hH3⟩ : ∃ H3, H3 = H2.set (K2.length + 1) .dead := ⟨_, rfl⟩
 rw [← hH3, lK2]
 have m3 : H3[n]? = some (.cells [v]) := by rw [hH3, List.getElem?_set_ne (by omega)]; exact h3
 have m4 : H3[n + 1]? = some (.defr false) := by rw [hH3, List.getElem?_set_ne (by omega)]; exact h4
 have c3 := cells1 m3
 have okv : ∀ H, okCells H none (some [v]) = some (v, H) := fun _ => rfl
 have hvf : VL (H3.set (n + 1) (.defr true)) 1 v o (T.map cI) := hv.mono fun id hid => by
  have n1 := hv.ne h4 (fun _ _ _ _ h => by cases h)
  have n2 := hv.ne h5 (fun _ _ _ _ h => by cases h)
  rw [List.getElem?_set_ne (fun e => n1 (by rw [hid, e])), hH3, List.getElem?_set_ne (fun e => n2 (by rw [hid, ← e, lK2]))]
 have := hPv _ _ _ hvf
 simp [zZl.r5, k2, el, c3, okv, takeMarks, m4, this]
theorem collect_spec {g : FuncId} {first caps : List V} {T : List Int} {H : Heap} (hT : T.length < 2 ^ 40) (hr : Runs (.fn (.func g) first caps) T H) :
  ∃ v o H', callW Φ zZ3 [.fn (.func g) first caps] H = some (v, H') ∧ VL H' 1 v o (T.map cI) := by
 obtain ⟨v, o, H', hc, hv⟩ := xZB hT hr
 obtain ⟨P, hP⟩ : ∃ P : V → Heap → Prop, P = fun r h' => r = v ∧ h' = H' := ⟨_, rfl⟩
 suffices hgo : ∃ r h', callW Φ zZ3 [.fn (.func g) first caps] H = some (r, h') ∧ P r h' by
  obtain ⟨r, h', h1, h2⟩ := hgo
  rw [hP] at h2
  obtain ⟨rfl, rfl⟩ := h2
  exact ⟨r, o, h', h1, hv⟩
 refine call_x zZ3.Φ rfl (Nat.le_of_ble_eq_true rfl) (fun env he gg => ?_)
 have g0 := gg 0 (by simp)
 change eget env 0 = .fn (.func g) first caps at g0
 clear gg
 simp [zZ3.c] at he
 simp [zZ3.c, zZ3.r0, zZ3.r1, g0, he, hc, hP]
def allW (f : List Nd) (h : Int) : List Int := allF f f.length h
theorem within_runs {f : List Nd} (z : Sz f) (R : right f = true) {h : Int} (hi : is_ f h = true) {a b : Nat} {H : Heap} (ha : H[a]? = some (cF f)) (hb : H[b]? = some (.cells [.int .i64 h])) :
  Runs (.fn (.func qZk.k) [] [.ptr a 0, .ptr b 0]) (allW f h) H := by
 intro y J H1 step push sets slt hk hJ
 obtain ⟨d, hd1, hd⟩ := wZN R hi
 have la := (List.getElem?_eq_some_iff.1 ha).1
 obtain ⟨H2, hc, hJ2, hK2⟩ := xZ7 z R (· = H.length) J (allW f h).length step push (fun p H' s hj hs => by rw [hs]; exact slt p H' hj) f.length h d hi hd (by omega) [] H1 (by simp [allW]) hJ
 obtain ⟨P, hP⟩ : ∃ P : V → Heap → Prop, P = fun r h' => r = .tup [] ∧ h' = H2 := ⟨_, rfl⟩
 suffices hgo : ∃ r h', callW Φ (.fn (.func qZk.k) [] [.ptr a 0, .ptr b 0]) [y] H1 = some (r, h') ∧ P r h' by
  obtain ⟨r, h', h1, h2⟩ := hgo
  rw [hP] at h2
  obtain ⟨rfl, rfl⟩ := h2
  exact ⟨_, h1, by simpa [allW] using hJ2⟩
 have a1 : cellsAt H1 (.ptr a 0) = some [.arr (f.map cN)] := by simp [cellsAt, hk.2 a _ id ha]
 have b1 := cells1 (hk.2 b _ id hb)
 refine call_xc qZk.Φ rfl (Nat.le_of_ble_eq_true rfl) (fun env he g => ?_)
 have g0 := g 0 (by simp)
 have g1 := g 1 (by simp)
 have g2 := g 2 (by simp)
 change eget env 0 = y at g0
 change eget env 1 = .ptr a 0 at g1
 change eget env 2 = .ptr b 0 at g2
 clear g
 simp [qZk.c] at he
 simp only [eF] at hc
 simp [qZk.c, qZk.r0, g0, g1, g2, he, a1, b1, hc, hP]
theorem kZB (f : List Nd) (h : Int) (H : Heap) : callW Φ qZD [eF f, .int .i64 h] H = some (.fn (.func qZk.k) [] [.ptr H.length 0, .ptr (H.length + 1) 0], H ++ [cF f, .cells [.int .i64 h]]) := by
 obtain ⟨P, hP⟩ : ∃ P : V → Heap → Prop, P = fun r h' => r = .fn (.func qZk.k) [] [.ptr H.length 0, .ptr (H.length + 1) 0] ∧ h' = H ++ [cF f, .cells [.int .i64 h]] := ⟨_, rfl⟩
 suffices hgo : ∃ r h', callW Φ qZD [eF f, .int .i64 h] H = some (r, h') ∧ P r h' by
  obtain ⟨r, h', h1, h2⟩ := hgo
  rw [hP] at h2
  obtain ⟨rfl, rfl⟩ := h2
  exact h1
 refine call_x qZD.Φ rfl (Nat.le_of_ble_eq_true rfl) (fun env he g => ?_)
 have g0 := g 0 (by simp)
 have g1 := g 1 (by simp)
 change eget env 0 = .agg [.arr (f.map cN)] at g0
 change eget env 1 = .int .i64 h at g1
 clear g
 simp [qZD.c] at he
 have hcc : (V.agg [V.arr (f.map cN)]).cells = [.arr (f.map cN)] := rfl
 have hci : (V.int .i64 h).cells = [.int .i64 h] := rfl
 have hb1 : evBox H [.arr (f.map cN)] = some (.ptr H.length 0, H ++ [cF f]) := by simp [evBox, V.isCell, qZB]
 have hb2 : evBox (H ++ [cF f]) [.int .i64 h] = some (.ptr (H.length + 1) 0, H ++ [cF f, .cells [.int .i64 h]]) := by simp [evBox, V.isCell, qZB]
 simp [qZD.c, qZD.r0, qZD.r1, g0, g1, he, hcc, hci, hb1, hb2, hP, qZk.k]
theorem qZ8 {f : FuncId} {cf : Cf} (hf : Φ f = some cf) (hp : cf.pure = true) {args : List V} {h : Heap} {r' : V} (ha : args.all flatN2 = true)
  (hb : ∃ r h2, evBodyW (callW Φ) cf (args.map nz2) [] = some (r, h2) ∧ ∃ h3, fz fzDepth h2 r = some (r', h3)) : callW Φ (.fn (.func f) [] []) args h = some (r', h) := by
 obtain ⟨r, h2, hb, h3, hz⟩ := hb
 refine jZQ hf hp (h1 := h) («as» := args.map nz2) ?_ hb hz
 simp only [List.nil_append, List.append_nil]
 exact jZI fun x hx => qZ0 (List.all_eq_true.1 ha x hx)
theorem vZL (f : List Nd) (z : Sz f) (R : right f = true) (h : Int) (hi : is_ f h = true) (H : Heap) : callW Φ qZL [eF f, .int .i64 h] H = some (eI (allW f h), H) := by
 refine qZ8 qZL.Φ rfl (args := [eF f, .int .i64 h]) rfl ?_
 obtain ⟨P, hP⟩ : ∃ P : V → Heap → Prop, P = fun r h2 => ∃ h3, fz fzDepth h2 r = some (eI (allW f h), h3) := ⟨_, rfl⟩
 suffices hgo : ∃ r h', evBodyW (callW Φ) qZL.c [eF f, .int .i64 h] [] = some (r, h') ∧ P r h' by rw [hP] at hgo; exact hgo
 have hlen := vZz R f.length hi
 have hle := vZp R
 obtain ⟨K0, hK0⟩ : ∃ K0 : Heap, K0 = [cF f] := ⟨_, rfl⟩
 obtain ⟨K1, hK1⟩ : ∃ K1 : Heap, K1 = [cF f, cF f, .cells [.int .i64 h]] := ⟨_, rfl⟩
 have hb1 : evBox [] [.arr (f.map cN)] = some (.ptr 0 0, K0) := by rw [hK0]; simp [evBox, V.isCell, qZB]
 have c0 : cellsAt K0 (.ptr 0 0) = some [.arr (f.map cN)] := by rw [hK0]; rfl
 have hW : callW Φ qZD [.agg [.arr (f.map cN)], .int .i64 h] K0 = some (.fn (.func qZk.k) [] [.ptr 1 0, .ptr 2 0], K1) := by
  have := kZB f h K0
  simp only [eF] at this
  rw [this, hK0, hK1]
  rfl
 obtain ⟨v, o, H2, hc, hv⟩ := collect_spec (T := allW f h) (by unfold allW; omega) (within_runs z R hi (a := 1) (b := 2) (H := K1) (by rw [hK1]; rfl) (by rw [hK1]; rfl))
 obtain ⟨h3, hz, _⟩ := hv.fz (d := 62)
 have hPv : P v H2 := by rw [hP]; exact ⟨h3, hz⟩
 refine vZv (Nat.le_of_ble_eq_true rfl) (fun env he g => ?_)
 have g0 := g 0 (by simp)
 have g1 := g 1 (by simp)
 change eget env 0 = .agg [.arr (f.map cN)] at g0
 change eget env 1 = .int .i64 h at g1
 clear g
 simp [qZL.c] at he
 have hcc : (V.agg [V.arr (f.map cN)]).cells = [.arr (f.map cN)] := rfl
 simp [qZL.c, qZL.r0, qZL.r1, g0, g1, he, hcc, hb1, c0, hW, hc, hPv, ofCells]
open Go Go.Ev
theorem Dep.split {f : List Nd} {h : Int} {d : Nat} (hd : Dep f h d) : (h = 0 ∧ d = 0) ∨ (is_ f h = true ∧ ∃ k, d = k + 1 ∧ Dep f (par f h) k) := by
 cases hd with
 | nil => exact .inl ⟨rfl, rfl⟩
 | up h1 h2 => exact .inr ⟨h1, _, rfl, h2⟩
theorem elems_arr (H : Heap) (xs : List (List V)) : elemsOf H (.arr xs) = some xs := rfl
theorem all_one {f : List Nd} (z : Sz f) {h : Int} (hi : is_ f h = true) (sub : Int → List Int) (hk : ∀ k ∈ kds f h, ∀ H, callW Φ zZ2 [eF f, .int .i64 k] H = some (eI (sub k), H)) (hN : (h :: ((kds f h).map sub).flatten).length < 2 ^ 40) (H : Heap) :
  callW Φ zZ2 [eF f, .int .i64 h] H = some (eI (h :: ((kds f h).map sub).flatten), H) := by
 refine qZ8 zZ2.Φ rfl (args := [eF f, .int .i64 h]) rfl ?_
 obtain ⟨P, hP⟩ : ∃ P : V → Heap → Prop, P = fun r h2 => ∃ h3, fz fzDepth h2 r = some (eI (h :: ((kds f h).map sub).flatten), h3) := ⟨_, rfl⟩
 suffices hgo : ∃ r h', evBodyW (callW Φ) zZ2.c [eF f, .int .i64 h] [] = some (r, h') ∧ P r h' by rw [hP] at hgo; exact hgo
 have hPv : ∀ r h2 o, VL h2 1 r o ((h :: ((kds f h).map sub).flatten).map cI) → P r h2 := fun r h2 o hv => by
  obtain ⟨h3, hz, _⟩ := hv.fz (d := 62)
  rw [hP]; exact ⟨h3, hz⟩
 clear hP
 have hlf := z.len
 have hi' := vZt.1 hi
 have hkl : (kds f h).length < 2 ^ 50 := z.atk h
 obtain ⟨K0, hK0⟩ : ∃ K0 : Heap, K0 = [cF f] := ⟨_, rfl⟩
 obtain ⟨K1, hK1⟩ : ∃ K1 : Heap, K1 = [cF f, .row 1 [cI h] 0 true] := ⟨_, rfl⟩
 have hb1 : evBox [] [.arr (f.map cN)] = some (.ptr 0 0, K0) := by rw [hK0]; simp [evBox, V.isCell, qZB]
 have hbs : evBslice K0 [V.int IntKind.i64 0] 1 1 [(0, V.int IntKind.i64 h)] = some (.sl 1 0 0 1, K1) := by rw [hK0, hK1]; simp [evBslice, placeParts, cI, chunks, setRange, V.cells, V.isCell]
 have c1 : cellsAt K1 (.ptr 0 0) = some [.arr (f.map cN)] := by rw [hK1]; rfl
 have hO := vZk f h hlf hi'.1 hi'.2 K1
 simp only [eF, eN] at hO
 have hF9 : ∀ H, evField H 9 none (.agg (cN (at_ f h))) = some (.arr ((kds f h).map cI), H) := fun _ => rfl
 have v1 : VL K1 1 (.sl 1 0 0 1) (some 1) ([h].map cI) := .inr ⟨1, 0, rfl, rfl, by rw [hK1]; rfl, plainI [h]⟩
 have k0 : K1[0]? = some (cF f) := by rw [hK1]; rfl
 refine vZv (Nat.le_of_ble_eq_true rfl) (fun env he g => ?_)
 have g0 := g 0 (by simp)
 have g1 := g 1 (by simp)
 change eget env 0 = .agg [.arr (f.map cN)] at g0
 change eget env 1 = .int .i64 h at g1
 clear g
 simp [zZ2.c] at he
 have hcc : (V.agg [V.arr (f.map cN)]).cells = [.arr (f.map cN)] := rfl
 obtain ⟨l, hl⟩ : ∃ l, l = kds f h := ⟨_, rfl⟩
 rw [← hl] at hF9 hkl hk hN hPv
 simp [zZ2.c, zZ2.r0, zZ2.r1, zZ2.r2, zZ2.r3, zZ2.r8, g0, g1, he, hcc, hb1, hbs, c1, hO, hF9, ofCells]
 refine kLoop (fun m s => ∃ (i : Nat) (o : Option Nat), m = l.length - i ∧ i ≤ l.length ∧ s.env.length = 29 ∧ eget s.env 2 = .ptr 0 0 ∧ eget s.env 6 = .arr (l.map cI) ∧ eget s.env 7 = .int .i64 i ∧ s.marks = [] ∧ VL s.heap 1 (eget s.env 5) o ((h :: ((l.take i).map sub).flatten).map cI) ∧ s.heap[0]? = some (cF f)) l.length
  ⟨0, some 1, by simp, by simp, by simp [he], by simp [he], by simp [he], by simp [he], rfl, by simpa [he] using v1, k0⟩ ?_
 rintro m ⟨e, mk, hp⟩ ⟨i, o, rfl, hi, he, k2, k6, k7, hm, hv, h0⟩
 simp only at he k2 k6 k7 hm hv h0
 obtain rfl := hm
 obtain ⟨v, hve⟩ : ∃ v, v = eget e 5 := ⟨_, rfl⟩
 rw [← hve] at hv
 by_cases hlt : i < l.length
 ·obtain ⟨x, hx⟩ : ∃ x, l[i]? = some x := ⟨_, List.getElem?_eq_getElem hlt⟩
  have hw : IntKind.i64.wrap ((i : Int) + 1) = ((i + 1 : Nat) : Int) := by rw [Ev.wrap64] <;> omega
  have ha1 := qZj (h := hp) (k := .i64) qZY hx
  obtain ⟨t1, t2⟩ := flat_take (sub := sub) hx
  have hA := hk x (List.mem_of_getElem? hx) hp
  have c0 : cellsAt hp (.ptr 0 0) = some [.arr (f.map cN)] := by simp [cellsAt, h0]
  simp only [List.length_cons] at hN
  obtain ⟨v', o', H2, happ, hv2, hl2, hrest, hnew⟩ := hv.app (by_ := 8) (es := (sub x).map cI) (plainI _) (q := .arr ((sub x).map cI)) (elems_arr _ _) (by simp only [List.length_map, List.length_cons]; unfold roomB; omega)
  have h02 : H2[0]? = some (cF f) := by rw [hrest 0 (List.getElem?_eq_some_iff.1 h0).1 (hv.ne h0 (fun _ _ _ _ h => by cases h))]; exact h0
  have hv3 : VL H2 1 v' o' ((h :: ((l.take (i + 1)).map sub).flatten).map cI) := by rw [t1]; simpa using hv2
  simp only [eF, eI] at hA
  simp [zZ2.b7, zZ2.r4, zZ2.r6, k2, k6, k7, he, hlt]
  refine kDraw1 zZ2.r5.ord ?_
  simp [zZ2.r5, zZ2.b7, zZ2.r4, zZ2.r6, List.filterMap_cons, k2, k6, k7, ← hve, he, ha1, cellI, c0, hA, happ, ofCells]
  exact ⟨l.length - (i + 1), by omega, i + 1, rfl, by omega, by simpa using hw, ⟨o', by simpa using hv3⟩, h02⟩
 ·have : i = l.length := by omega
  subst this
  rw [List.take_length] at hv
  have := hPv _ _ _ hv
  simp [zZ2.b7, zZ2.r4, zZ2.r6, zZ2.r8, k6, k7, he, ← hve, this]
theorem kZg {f : List Nd} (z : Sz f) (R : right f = true) : ∀ (r : Nat) (h : Int) (d : Nat), is_ f h = true → Dep f h d → f.length ≤ d + r → ∀ H, callW Φ zZ2 [eF f, .int .i64 h] H = some (eI (allF f r h), H)
 | 0, h, d, hi, hd, hr, H => by
  have hn := kds_nil R hi hd (by omega)
  have := all_one z hi (fun _ => []) (by rw [hn]; intro k hk; cases hk) (by rw [hn]; simp) H
  rw [hn] at this
  exact this
 | r + 1, h, d, hi, hd, hr, H => by
  have h1 := vZz R (r + 1) hi
  have h2 := vZp R
  exact all_one z hi (allF f r) (fun k hk H => kZg z R r k (d + 1) (vZh R hi hk).1 (vZQ R hi hd hk) (by omega) H) (by change (allF f (r + 1) h).length < _; omega) H
theorem vZo {f : List Nd} (z : Sz f) (R : right f = true) {h : Int} (hi : is_ f h = true) (H : Heap) : callW Φ zZ2 [eF f, .int .i64 h] H = some (eI (allW f h), H) := by
 obtain ⟨d, hd1, hd⟩ := wZN R hi
 exact kZg z R f.length h d hi hd (by omega) H
theorem jZa {f : List Nd} (z : Sz f) {h : Int} {d : Nat} (hd : Dep f h d) (hi : is_ f h = true) (hd2 : d < 2 ^ 30) (H : Heap) : callW Φ zZI [eF f, .int .i64 h] H = some (eI (ups f (d - 1) (par f h)), H) := by
 refine qZ8 zZI.Φ rfl (args := [eF f, .int .i64 h]) rfl ?_
 obtain ⟨T, hT⟩ : ∃ T, T = ups f (d - 1) (par f h) := ⟨_, rfl⟩
 rw [← hT]
 obtain ⟨P, hP⟩ : ∃ P : V → Heap → Prop, P = fun r h2 => ∃ h3, fz fzDepth h2 r = some (eI T, h3) := ⟨_, rfl⟩
 suffices hgo : ∃ r h', evBodyW (callW Φ) zZI.c [eF f, .int .i64 h] [] = some (r, h') ∧ P r h' by rw [hP] at hgo; exact hgo
 have hPv : ∀ r h2 o, VL h2 1 r o (T.map cI) → P r h2 := fun r h2 o hv => by
  obtain ⟨h3, hz, _⟩ := hv.fz (d := 62)
  rw [hP]; exact ⟨h3, hz⟩
 clear hP
 have hlf := z.len
 obtain ⟨K0, hK0⟩ : ∃ K0 : Heap, K0 = [cF f] := ⟨_, rfl⟩
 have hb1 : evBox [] [.arr (f.map cN)] = some (.ptr 0 0, K0) := by rw [hK0]; simp [evBox, V.isCell, qZB]
 have k0 : K0[0]? = some (cF f) := by rw [hK0]; rfl
 have hcc : (V.agg [V.arr (f.map cN)]).cells = [.arr (f.map cN)] := rfl
 refine vZv (Nat.le_of_ble_eq_true rfl) (fun env he g => ?_)
 have g0 := g 0 (by simp)
 have g1 := g 1 (by simp)
 change eget env 0 = .agg [.arr (f.map cN)] at g0
 change eget env 1 = .int .i64 h at g1
 clear g
 simp [zZI.c] at he
 simp [zZI.c, zZI.r0, zZI.r1, zZI.r6, g0, g1, he, hcc, hb1, ofCells]
 refine kLoop (fun m s => ∃ (p : List Int) (x : Int) (o : Option Nat), Dep f x (m + 1) ∧ is_ f x = true ∧ p ++ ups f m (par f x) = T ∧ p.length + m < 2 ^ 31 ∧ s.env.length = 20 ∧ eget s.env 1 = .int .i64 x ∧ eget s.env 2 = .ptr 0 0 ∧ s.marks = [] ∧ VL s.heap 1 (eget s.env 5) o (p.map cI) ∧ s.heap[0]? = some (cF f)) (d - 1)
  ⟨[], h, none, by obtain ⟨k, rfl, _⟩ := hd.pos hi; exact hd, hi, hT.symm, by simp; omega, by simp [he], by simp [g1], by simp [he], rfl, by simpa [he] using VL.nil K0 1, k0⟩ ?_
 rintro m ⟨e, mk, hp⟩ ⟨p, x, o, hdx, hix, hpT, hpm, he, k1, k2, hm, hv, h0⟩
 simp only at he k1 k2 hm hv h0
 obtain rfl := hm
 obtain ⟨v, hve⟩ : ∃ v, v = eget e 5 := ⟨_, rfl⟩
 rw [← hve] at hv
 have c0 : cellsAt hp (.ptr 0 0) = some [.arr (f.map cN)] := by simp [cellsAt, h0]
 have hix' := vZt.1 hix
 have hO := vZk f x hlf hix'.1 hix'.2 hp
 simp only [eF, eN] at hO
 have hF8 : ∀ H, evField H 8 none (.agg (cN (at_ f x))) = some (.int .i64 (par f x), H) := fun _ => rfl
 obtain ⟨k, hk, hdp⟩ := hdx.pos hix
 obtain rfl : m = k := by omega
 rcases hdp.split with ⟨hp0, rfl⟩ | ⟨hip, m', rfl, hup⟩
 ·have pb : (par f x != 0) = false := by simp [hp0]
  simp only [ups, List.append_nil] at hpT
  have := hPv _ _ _ (by rw [← hpT]; exact hv)
  simp [zZI.b5, zZI.r2, zZI.r3, zZI.r4, zZI.r6, k1, k2, he, c0, hO, hF8, pb, ← hve, this, ofCells]
 ·have pb : (par f x != 0) = true := by rw [bne_iff_ne]; intro e; rw [e, is0] at hip; cases hip
  obtain ⟨H1, hH1⟩ : ∃ H1, H1 = hp ++ [Ob.row 1 [cI (par f x)] 0 true] := ⟨_, rfl⟩
  have hbs : evBslice hp [V.int IntKind.i64 0] 1 1 [(0, V.int IntKind.i64 (par f x))] = some (.sl hp.length 0 0 1, H1) := by rw [hH1]; simp [evBslice, placeParts, cI, chunks, setRange, V.cells, V.isCell]
  have hv1 : VL H1 1 v o (p.map cI) := by rw [hH1]; exact hv.push _
  have h01 : H1[0]? = some (cF f) := by rw [hH1, List.getElem?_append_left (List.getElem?_eq_some_iff.1 h0).1]; exact h0
  obtain ⟨v', o', H2, happ, hv2, hl2, hrest, hnew⟩ := hv1.app (by_ := 8) (es := [cI (par f x)]) (plainI [_]) (q := .sl hp.length 0 0 1) (by rw [hH1]; simp [elemsOf]) (by simp; unfold roomB; omega)
  have h02 : H2[0]? = some (cF f) := by rw [hrest 0 (List.getElem?_eq_some_iff.1 h01).1 (hv1.ne h01 (fun _ _ _ _ h => by cases h))]; exact h01
  have hv3 : VL H2 1 v' o' ((p ++ [par f x]).map cI) := by simpa using hv2
  have okv : ∀ H, okCells H none (some [v']) = some (v', H) := fun _ => rfl
  simp [zZI.b5, zZI.r2, zZI.r3, zZI.r4, k1, k2, he, c0, hO, hF8, pb, ← hve, hbs, happ, ofCells]
  exact ⟨m', by omega, p ++ [par f x], par f x, hdp, hip, by rw [← hpT]; simp [ups], by simp; omega, rfl, ⟨o', hv3⟩, h02⟩
theorem place_mem : ∀ (l : List Int) (h : Int) (i : Nat), decide (0 ≤ place l h i) = decide (h ∈ l)
 | [], h, i => by simp [place]
 | x :: l, h, i => by
  have := place_mem l h (i + 1)
  simp only [place]
  split
  ·rename_i e; subst e; simp
  ·rename_i e
   rw [this]
   have e' : ¬ h = x := fun q => e q.symm
   simp [e']
theorem ups_cons {f : List Nd} {h : Int} {d : Nat} (hd : Dep f h d) (hi : is_ f h = true) : ups f d h = h :: ups f (d - 1) (par f h) := by
 obtain ⟨k, rfl, _⟩ := hd.pos hi
 rfl
theorem jZp (f : List Nd) (z : Sz f) (a b : Int) (d : Nat) (hd : Dep f b d) (hi : is_ f b = true) (hd2 : d < 2 ^ 30) (H : Heap) : callW Φ zZ9 [eF f, .int .i64 a, .int .i64 b] H = some (.bool (decide (a ∈ ups f d b)), H) := by
 have : ∃ hh, evBodyW (callW Φ) zZ9.c [eF f, .int .i64 a, .int .i64 b] [] = some (.bool (decide (a ∈ ups f d b)), hh) := by
  have hcc : (V.agg [V.arr (f.map cN)]).cells = [.arr (f.map cN)] := rfl
  obtain ⟨K0, hK0⟩ : ∃ K0 : Heap, K0 = [cF f] := ⟨_, rfl⟩
  have hb1 : evBox [] [.arr (f.map cN)] = some (.ptr 0 0, K0) := by rw [hK0]; simp [evBox, V.isCell, qZB]
  have c0 : cellsAt K0 (.ptr 0 0) = some [.arr (f.map cN)] := by rw [hK0]; rfl
  obtain ⟨T, hT⟩ : ∃ T, T = ups f (d - 1) (par f b) := ⟨_, rfl⟩
  have hTl : T.length < 2 ^ 50 := by
   have : ∀ (d : Nat) (h : Int), (ups f d h).length = d := fun d => by induction d with | zero => intro h; rfl | succ d ih => intro h; simp [ups, ih]
   rw [hT, this]; omega
  have hA := jZa z hd hi hd2 K0
  have hPl := vZd T a hTl K0
  have hpm := place_mem T a 0
  rw [ups_cons hd hi]
  rw [← hT] at hA ⊢
  simp only [eF, eI] at hA hPl
  refine qZE (Nat.le_of_ble_eq_true rfl) (fun env he h0 => ?_)
  have g0 := h0 0 (by simp)
  change eget env 0 = .agg [.arr (f.map cN)] at g0
  have g1 := h0 1 (by simp)
  change eget env 1 = .int .i64 a at g1
  have g2 := h0 2 (by simp)
  change eget env 2 = .int .i64 b at g2
  clear h0
  simp [zZ9.c] at he
  by_cases e : a = b
  ·subst e
   simp [zZ9.c, zZ9.r0, zZ9.r1, g0, g1, g2, he, hcc, hb1, evPick]
  ·have eb : (a == b) = false := by simpa using e
   simp [zZ9.c, zZ9.r0, zZ9.r1, g0, g1, g2, he, hcc, hb1, c0, eb, hA, hPl, evPick, ofCells, e]
   by_cases hm : a ∈ T <;> simp [hm] at hpm ⊢ <;> omega
 obtain ⟨h', hb⟩ := this
 exact zZQ (h := H) zZ9.Φ rfl (args := [eF f, .int .i64 a, .int .i64 b]) rfl hb rfl
def indexI (f : List Nd) (h : Int) : Int := if par f h = 0 then 0 else place (kds f (par f h)) h 0
theorem kZv (f : List Nd) (z : Sz f) (h : Int) (hi : is_ f h = true) (hp : par f h = 0 ∨ is_ f (par f h) = true) (H : Heap) : callW Φ zZ7 [eF f, .int .i64 h] H = some (.int .i64 (indexI f h), H) := by
 have : ∃ hh, evBodyW (callW Φ) zZ7.c [eF f, .int .i64 h] [] = some (.int .i64 (indexI f h), hh) := by
  have hcc : (V.agg [V.arr (f.map cN)]).cells = [.arr (f.map cN)] := rfl
  obtain ⟨K0, hK0⟩ : ∃ K0 : Heap, K0 = [cF f] := ⟨_, rfl⟩
  have hb1 : evBox [] [.arr (f.map cN)] = some (.ptr 0 0, K0) := by rw [hK0]; simp [evBox, V.isCell, qZB]
  have c0 : cellsAt K0 (.ptr 0 0) = some [.arr (f.map cN)] := by rw [hK0]; rfl
  have hi' := vZt.1 hi
  have hlf := z.len
  have hO := vZk f h hlf hi'.1 hi'.2 K0
  simp only [eF, eN] at hO
  have hPl := vZd (kds f (par f h)) h (z.atk _) K0
  simp only [eI] at hPl
  have hF8 : ∀ H, evField H 8 none (.agg (cN (at_ f h))) = some (.int .i64 (par f h), H) := fun _ => rfl
  have hF9 : ∀ H, evField H 9 none (.agg (cN (at_ f (par f h)))) = some (.arr ((kds f (par f h)).map cI), H) := fun _ => rfl
  refine qZE (Nat.le_of_ble_eq_true rfl) (fun env he h0 => ?_)
  have g0 := h0 0 (by simp)
  change eget env 0 = .agg [.arr (f.map cN)] at g0
  have g1 := h0 1 (by simp)
  change eget env 1 = .int .i64 h at g1
  clear h0
  simp [zZ7.c] at he
  by_cases e : par f h = 0
  ·have pb : (par f h == 0) = true := by simp [e]
   have hI : indexI f h = 0 := by simp [indexI, e]
   rw [hI]
   simp [zZ7.c, zZ7.r0, zZ7.r1, zZ7.r2, zZ7.r3, zZ7.r4, g0, g1, he, hcc, hb1, c0, hO, hF8, pb, ofCells]
  ·have pb : (par f h == 0) = false := by simpa using e
   have hI : indexI f h = place (kds f (par f h)) h 0 := by simp [indexI, e]
   rw [hI]
   have hip := vZt.1 (hp.resolve_left e)
   have hO2 := vZk f (par f h) hlf hip.1 hip.2 K0
   simp only [eF, eN] at hO2
   simp [zZ7.c, zZ7.r0, zZ7.r1, zZ7.r2, zZ7.r3, zZ7.r4, g0, g1, he, hcc, hb1, c0, hO, hO2, hF8, hF9, pb, hPl, ofCells]
 obtain ⟨h', hb⟩ := this
 exact zZQ (h := H) zZ7.Φ rfl (args := [eF f, .int .i64 h]) rfl hb rfl
end Go.Proofs.It
