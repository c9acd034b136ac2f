/- What Next has told, Prev tells at once behind it, and the other way round. order.All; where an iterator stands, by places. A new iterator tells the accepted nodes of its root in order, and tells them back. No conditions. -/
import Derived.Test.YtohcoghaaifmgaaJtD
set_option maxHeartbeats 16000000
set_option maxRecDepth 100000
set_option linter.unusedVariables false
set_option linter.unusedSimpArgs false
set_option linter.unusedSectionVars false
namespace Go.Proofs.It
open Go Go.Ev
theorem place_at {l : List Int} (hn : l.Nodup) {k : Nat} {x : Int} (hx : l[k]? = some x) : place l x 0 = k := by
 obtain ⟨j, h1, h2, h3⟩ := jZJ (List.mem_of_getElem? hx)
 have hk := (List.getElem?_eq_some_iff.1 hx).1
 have : j = k := by
  have e1 : l[j] = x := (List.getElem?_eq_some_iff.1 h3).2
  have e2 : l[k] = x := (List.getElem?_eq_some_iff.1 hx).2
  exact (List.getElem_inj hn).1 (e1.trans e2.symm)
 rw [h1, this]
theorem zYac {f : List Nd} (R : right f = true) {h : Int} (hi : is_ f h = true) : (allW f h).Nodup := by
 obtain ⟨d, _, hd⟩ := wZN R hi
 exact xZN R f.length h d hi hd
theorem findOn_some {acc : Int → Bool} {l : List Int} {k : Nat} {x : Int} (h : findOn acc l k = some x) : acc x = true ∧ x ∈ l := by
 unfold findOn at h
 exact ⟨List.find?_some h, List.mem_of_mem_drop (List.mem_of_find?_eq_some h)⟩
theorem findBack_some {acc : Int → Bool} {l : List Int} {k : Nat} {x : Int} (h : findBack acc l k = some x) : acc x = true ∧ x ∈ l := by
 unfold findBack at h
 exact ⟨List.find?_some h, List.mem_of_mem_take (List.mem_reverse.1 (List.mem_of_find?_eq_some h))⟩
theorem zYaa {f : List Nd} {i : Itr} (hc : checkI f i = 0) {x : Int} (hx : x ∈ allW f i.root) (b : Bool) : checkI f { i with ref := x, before := b } = 0 := by
 obtain ⟨R, hr, hr2, hh, hl, hw⟩ := checkI0 hc
 have hxi := allW_is R hr x hx
 have hf : faultT f i.flt [i.root] = 0 := by simp [faultT, faultL, R, inF, hr, hw]
 have hm := (kZI R hr hxi).1 hx
 simp [checkI, hf, hxi, hm]
theorem is_ne {f : List Nd} {x : Int} (h : is_ f x = true) : x ≠ 0 := by rintro rfl; rw [is0] at h; cases h
theorem zYaf {f : List Nd} (i : Itr) {k : Nat} {x : Int} (hn : (allW f i.root).Nodup) (hx : (allW f i.root)[k]? = some x) (b : Bool) : cur f { i with ref := x, before := b } = k + if b then 0 else 1 := by
 have := place_at hn hx
 simp only [cur]
 rw [this]
 simp
theorem next_back {f : List Nd} {i : Itr} (hc : checkI f i = 0) {x : Int} (hx : nextO f i = some x) : x ≠ 0 ∧ checkI f { i with ref := x, before := false } = 0 ∧ prevO f { i with ref := x, before := false } = some x := by
 obtain ⟨R, hr, _⟩ := checkI0 hc
 obtain ⟨ha, hm⟩ := findOn_some hx
 obtain ⟨k, h1, h2, h3⟩ := jZJ hm
 refine ⟨is_ne (allW_is R hr x hm), zYaa hc hm false, ?_⟩
 have hcur := zYaf i (zYac R hr) h3 false
 unfold prevO
 rw [hcur]
 show findBack (accF f i.flt) (allW f i.root) (k + 1) = _
 rw [kZ5 h3, ha, if_pos rfl]
theorem back_next {f : List Nd} {i : Itr} (hc : checkI f i = 0) {x : Int} (hx : prevO f i = some x) : x ≠ 0 ∧ checkI f { i with ref := x, before := true } = 0 ∧ nextO f { i with ref := x, before := true } = some x := by
 obtain ⟨R, hr, _⟩ := checkI0 hc
 obtain ⟨ha, hm⟩ := findBack_some hx
 obtain ⟨k, h1, h2, h3⟩ := jZJ hm
 refine ⟨is_ne (allW_is R hr x hm), zYaa hc hm true, ?_⟩
 have hcur := zYaf i (zYac R hr) h3 true
 unfold nextO
 rw [hcur]
 show findOn (accF f i.flt) (allW f i.root) k = _
 rw [findOn_at h3, ha, if_pos rfl]
theorem xZ8 (f : List Nd) (z : Sz f) (i : Itr) (zt : Fz i.flt) (H : Heap) : callW Φ zZw [eF f, eIt i] H = some (.bool true, H) := by
 have : ∃ hh, evBodyW (callW Φ) zZw.c [eF f, eIt i] [] = some (.bool true, hh) := by
  obtain ⟨K0, hK0⟩ : ∃ K0 : Heap, K0 = [cF f] := ⟨_, rfl⟩
  obtain ⟨K1, hK1⟩ : ∃ K1 : Heap, K1 = [cF f, .cells (cIt i)] := ⟨_, rfl⟩
  have hb0 : evBox [] [.arr (f.map cN)] = some (.ptr 0 0, K0) := by rw [hK0]; exact qZd [] rfl
  have hb1 : evBox K0 (cIt i) = some (.ptr 1 0, K1) := by rw [hK0, hK1]; exact qZd _ rfl
  obtain ⟨a, ha⟩ : ∃ a, a = nextI f i := ⟨_, rfl⟩
  obtain ⟨b, hb⟩ : ∃ b, b = prevI f i := ⟨_, rfl⟩
  obtain ⟨K2, hK2⟩ : ∃ K2 : Heap, K2 = K1 ++ [.cells (cIt a)] := ⟨_, rfl⟩
  obtain ⟨K3, hK3⟩ : ∃ K3 : Heap, K3 = K2 ++ [.cells (cIt b)] := ⟨_, rfl⟩
  have l1 : K1.length = 2 := by rw [hK1]; rfl
  have l2 : K2.length = 3 := by rw [hK2, hK1]; rfl
  have l3 : K3.length = 4 := by rw [hK3, hK2, hK1]; rfl
  have p1 := pushIt K1 a l1
  have p2 := pushIt K2 b l2
  rw [← hK2] at p1
  rw [← hK3] at p2
  have a1 : cellsAt K1 (.ptr 0 0) = some [.arr (f.map cN)] := by rw [hK1]; rfl
  have a2 : cellsAt K2 (.ptr 0 0) = some [.arr (f.map cN)] := by rw [hK2, hK1]; rfl
  have a3 : cellsAt K3 (.ptr 0 0) = some [.arr (f.map cN)] := by rw [hK3, hK2, hK1]; rfl
  have b1 : cellsAt K1 (.ptr 1 0) = some (cIt i) := by rw [hK1]; rfl
  have b2 : cellsAt K2 (.ptr 1 0) = some (cIt i) := by rw [hK2, hK1]; rfl
  have d2 := qZv (show K3[2]? = some (.cells (cIt a)) by rw [hK3, hK2, hK1]; rfl)
  have d3 := qZv (show K3[3]? = some (.cells (cIt b)) by rw [hK3, hK2, hK1]; rfl)
  have h1 := wZh f z i zt K1
  have h2 := jZ2 f z i zt K2
  have hC := qZ4 f z i zt K2
  have hB := vZJ K1
  simp only [eF] at h1 h2 hC
  rw [← ha] at h1
  rw [← hb] at h2
  refine qZE (Nat.le_of_ble_eq_true rfl) (fun env he h0 => ?_)
  have g0 := h0 0 (by simp)
  change eget env 0 = .agg [.arr (f.map cN)] at g0
  have g1 := h0 1 (by simp)
  change eget env 1 = eIt i at g1
  clear h0
  simp [zZw.c] at he
  by_cases hc : checkI f i = 0
  case neg =>
   have n0 : nextN f i = 0 := by simp [nextN, hc]
   have w1 : (checkI f i != 0) = true := by simpa using hc
   rw [n0] at h1
   simp [zZw.c, zZw.r0, zZw.r1, zZw.r2, zZw.r3, zZw.r4, zZw.r5, zZw.r6, zZw.r7, zZw.r8, zZw.r9, zZw.r10, zZw.r11, zZw.r12, zZw.r13, zZw.r14, zZw.r15, zZw.r16, zZw.r17, g0, g1, he, ccF, ccIt, hb0, hb1, okIt, a1, b1, hB, h1, evExt, l1, p1, w1, a2, b2, hC, evPick]
  have w1 : (checkI f i != 0) = false := by simpa using hc
  have af : a.flt = i.flt := by rw [ha]; simp only [nextI, hc, if_true]; exact told_flt _ _ _
  have bf : b.flt = i.flt := by rw [hb]; simp only [prevI, hc, if_true]; exact told_flt _ _ _
  rw [hc] at h1 h2
  have two : ∀ (env : List V) (H : Heap), env.length = 99 → eget env 2 = .ptr 0 0 → eget env 8 = .ptr 3 0 → eget env 9 = .int .i64 (prevN f i) → H[0]? = some (cF f) → H[3]? = some (.cells (cIt b)) →
    WK (callW Φ) none (FinV [.tmp 4] (.bool true)) [It.o zZw.r13, It.c (.cond (.t 73) (.seq (.region zZw.r14) (.seq (.region zZw.r15) (.cond (.t 98) (.seq (.region zZw.r16) .ret) .skip))) .skip), It.c (.seq (.region zZw.r17) .ret)] { env := env, marks := [], heap := H } := by
   intro env H he t2 t8 t9 q0 q3
   have c0 : cellsAt H (.ptr 0 0) = some [.arr (f.map cN)] := by simp [cellsAt, q0]
   have c3 := qZv q3
   cases ho : prevO f i with
   | none =>
    have m0 : prevN f i = 0 := by simp [prevN, hc, ho, toldN]
    rw [m0] at t9
    simp [zZw.r13, zZw.r17, t9, he]
   | some y =>
    obtain ⟨y0, yc, yn⟩ := back_next hc ho
    have m0 : prevN f i = y := by simp [prevN, hc, ho, toldN]
    have hby : b = { i with ref := y, before := true } := by rw [hb]; simp [prevI, hc, ho, toldI]
    rw [m0] at t9
    have yb : (y != 0) = true := by simpa using y0
    have hN := wZh f z b (by rw [bf]; exact zt) H
    have c1 : checkI f b = 0 := by rw [hby]; exact yc
    have c2 : nextN f b = y := by rw [hby]; simp [nextN, yc, yn, toldN]
    rw [c1, c2] at hN
    simp only [eF] at hN
    have br : b.ref = y := by rw [hby]
    have bb : b.before = true := by rw [hby]
    obtain ⟨u, hu⟩ : ∃ u, u = nextI f b := ⟨_, rfl⟩
    rw [← hu] at hN
    obtain ⟨H2, hH2⟩ : ∃ H2, H2 = H ++ [.cells (cIt u)] := ⟨_, rfl⟩
    have pu := pushIt H u rfl
    rw [← hH2] at pu
    have e3 := qZv (show H2[3]? = some (.cells (cIt b)) by rw [hH2, List.getElem?_append_left (List.getElem?_eq_some_iff.1 q3).1]; exact q3)
    simp [zZw.r13, zZw.r14, zZw.r15, zZw.r17, t2, t8, t9, he, yb, c0, c3, okIt, hN, evExt, pu, e3, okIt1, okIt2, br, bb, evPick]
  cases ho : nextO f i with
  | none =>
   have n0 : nextN f i = 0 := by simp [nextN, hc, ho, toldN]
   rw [n0] at h1
   simp [zZw.c, zZw.r0, zZw.r1, zZw.r3, zZw.r4, zZw.r6, zZw.r7, zZw.r9, g0, g1, he, ccF, ccIt, hb0, hb1, okIt, a1, b1, hB, h1, evExt, l1, p1, a2, b2, h2, l2, p2, evPick]
   refine two _ _ ?_ ?_ ?_ ?_ (by rw [hK3, hK2, hK1]; rfl) (by rw [hK3, hK2, hK1]; rfl) <;> simp [he]
  | some x =>
   obtain ⟨x0, xc, xn⟩ := next_back hc ho
   have n0 : nextN f i = x := by simp [nextN, hc, ho, toldN]
   rw [n0] at h1
   have hax : a = { i with ref := x, before := false } := by rw [ha]; simp [nextI, hc, ho, toldI]
   have xb : (x != 0) = true := by simpa using x0
   have hN := jZ2 f z a (by rw [af]; exact zt) K3
   have c1 : checkI f a = 0 := by rw [hax]; exact xc
   have c2 : prevN f a = x := by rw [hax]; simp [prevN, xc, xn, toldN]
   rw [c1, c2] at hN
   simp only [eF] at hN
   have ar : a.ref = x := by rw [hax]
   have ab : a.before = false := by rw [hax]
   obtain ⟨u, hu⟩ : ∃ u, u = prevI f a := ⟨_, rfl⟩
   rw [← hu] at hN
   obtain ⟨K4, hK4⟩ : ∃ K4, K4 = K3 ++ [.cells (cIt u)] := ⟨_, rfl⟩
   have pu := pushIt K3 u l3
   rw [← hK4] at pu
   have e2 := qZv (show K4[2]? = some (.cells (cIt a)) by rw [hK4, hK3, hK2, hK1]; rfl)
   simp [zZw.c, zZw.r0, zZw.r1, zZw.r3, zZw.r4, zZw.r6, zZw.r7, zZw.r9, zZw.r10, zZw.r11, g0, g1, he, ccF, ccIt, hb0, hb1, okIt, a1, b1, hB, h1, evExt, l1, p1, a2, b2, h2, l2, p2, xb, a3, d2, hN, l3, pu, e2, okIt1, okIt2, ar, ab, evPick]
   refine two _ _ ?_ ?_ ?_ ?_ (by rw [hK4, hK3, hK2, hK1]; rfl) (by rw [hK4, hK3, hK2, hK1]; rfl) <;> simp [he]
 obtain ⟨h', hb⟩ := this
 exact zZQ (h := H) zZw.Φ rfl (args := [eF f, eIt i]) rfl hb rfl
open Go Go.Ev
theorem row_at2 {fn : FuncId} {cf : Cf} (hf : Φ fn = some cf) (hp : cf.pure = true) {args : List V} (ha : args.all flat2 = true) {l : List Int} {r : V} (hs : ∀ H, callW Φ (.fn (.func fn) [] []) (args ++ [eI l]) H = some (r, H)) {H : Heap} {id : Nat} (hr : H[id]? = some (.row 1 (l.map cI) 0 true)) :
  callW Φ (.fn (.func fn) [] []) (args ++ [.sl id 0 0 l.length]) H = some (r, H.set id (.row 1 (l.map cI) 0 false)) := by
 have hz := fz_sl (d := 62) (off := 0) (len := l.length) hr (by simp) (fun e he => by
  obtain ⟨s, _, rfl⟩ := List.mem_map.1 he
  rfl)
 have e1 : ((l.map cI).drop 0).take l.length = l.map cI := by rw [List.drop_zero]; exact List.take_of_length_le (by simp)
 rw [e1] at hz
 have hz' : fz fzDepth H (.sl id 0 0 l.length) = some (.arr (l.map cI), H.set id (.row 1 (l.map cI) 0 false)) := hz
 have happ : ∀ (l1 : List V) (h : Heap), l1.all flat2 = true → ∀ (x y : V) (h' : Heap), fz fzDepth h x = some (y, h') → mapH (fz fzDepth) h (l1 ++ [x]) = some (l1 ++ [y], h') := by
  intro l1
  induction l1 with
  | nil => intro h _ x y h' hx; simp only [List.nil_append, mapH, hx]
  | cons a l1 ih =>
   intro h hall x y h' hx
   simp only [List.all_cons, Bool.and_eq_true] at hall
   simp only [List.cons_append, mapH, fz_flat2 hall.1, ih h hall.2 x y h' hx]
 refine jZP (Φ := Φ) hf hp ?_ (happ args _ ha _ _ _ hz') (hs [])
 simp only [List.all_append, ha, Bool.true_and]
 rfl
theorem order_of_run {f : List Nd} (z : Sz f) (h : Int) {K : Heap} (hK : K = [cF f, .cells [.int .i64 h], .row 1 ([h].map cI) 0 true]) :
  ∃ K' v, callW Φ qZw [eF f, .fn (.func qZO.k) [] [.ptr 0 0, .ptr 1 0], .sl 2 0 0 1] K = some (.tup [v, .int .i64 (faultL f [h])], K') ∧ flatN v = true ∧ nz1 v = eI (if faultL f [h] = 0 then allW f h else []) := by
 obtain ⟨P, hP⟩ : ∃ P : V → Heap → Prop, P = fun r _ => ∃ v, r = .tup [v, .int .i64 (faultL f [h])] ∧ flatN v = true ∧ nz1 v = eI (if faultL f [h] = 0 then allW f h else []) := ⟨_, rfl⟩
 suffices hgo : ∃ r h', callW Φ qZw [eF f, .fn (.func qZO.k) [] [.ptr 0 0, .ptr 1 0], .sl 2 0 0 1] K = some (r, h') ∧ P r h' by
  obtain ⟨r, h', h1, h2⟩ := hgo
  rw [hP] at h2
  obtain ⟨v, rfl, h3, h4⟩ := h2
  exact ⟨h', v, h1, h3, h4⟩
 obtain ⟨K1, hK1⟩ : ∃ K1 : Heap, K1 = [cF f, .cells [.int .i64 h], .row 1 ([h].map cI) 0 true, cF f] := ⟨_, rfl⟩
 have l0 : K.length = 3 := by rw [hK]; rfl
 have hb1 : evBox K [.arr (f.map cN)] = some (.ptr 3 0, K1) := by rw [hK, hK1]; exact qZd _ rfl
 have c1 : cellsAt K1 (.ptr 3 0) = some [.arr (f.map cN)] := by rw [hK1]; rfl
 have hF := row_at2 zZM.Φ rfl (args := [eF f]) (by simp [flatF]) (wZY f z [h] (by simp)) (H := K1) (id := 2) (by rw [hK1]; rfl)
 obtain ⟨K2, hK2⟩ : ∃ K2, K2 = K1.set 2 (.row 1 ([h].map cI) 0 false) := ⟨_, rfl⟩
 rw [← hK2] at hF
 have c2 : cellsAt K2 (.ptr 0 0) = some [.arr (f.map cN)] := by rw [hK2, hK1]; rfl
 have c3 : cellsAt K2 (.ptr 1 0) = some [.int .i64 h] := by rw [hK2, hK1]; rfl
 simp only [eF, List.length_singleton, List.cons_append, List.nil_append] at hF
 have hcl : is_ f h = true → right f = true → callW Φ (.fn (.func qZO.k) [] [.ptr 0 0, .ptr 1 0]) [] K2 = some (eI (allW f h), K2) := by
  intro hi R
  obtain ⟨P, hP⟩ : ∃ P : V → Heap → Prop, P = fun r h' => r = eI (allW f h) ∧ h' = K2 := ⟨_, rfl⟩
  suffices hgo : ∃ r h', callW Φ (.fn (.func qZO.k) [] [.ptr 0 0, .ptr 1 0]) [] K2 = some (r, h') ∧ P r h' by
   obtain ⟨r, h', h1, h2⟩ := hgo
   rw [hP] at h2
   obtain ⟨rfl, rfl⟩ := h2
   exact h1
  have hL := vZL f z R h hi K2
  simp only [eF] at hL
  refine call_xc qZO.Φ rfl (Nat.le_of_ble_eq_true rfl) (fun env he g => ?_)
  have g0 := g 0 (by simp)
  have g1 := g 1 (by simp)
  change eget env 0 = .ptr 0 0 at g0
  change eget env 1 = .ptr 1 0 at g1
  clear g
  simp [qZO.c] at he
  have okh : ∀ H, okCells H none (some [V.int .i64 h]) = some (.int .i64 h, H) := fun _ => rfl
  simp [qZO.c, qZO.r0, qZO.r1, g0, g1, he, c2, c3, okh, hL, hP]
 refine call_x qZw.Φ rfl (Nat.le_of_ble_eq_true rfl) (fun env he g => ?_)
 have g0 := g 0 (by simp)
 have g1 := g 1 (by simp)
 have g2 := g 2 (by simp)
 change eget env 0 = .agg [.arr (f.map cN)] at g0
 change eget env 1 = .fn (.func qZO.k) [] [.ptr 0 0, .ptr 1 0] at g1
 change eget env 2 = .sl 2 0 0 1 at g2
 clear g
 simp [qZw.c] at he
 by_cases hf : faultL f [h] = 0
 case neg =>
  have hb2 : (faultL f [h] != 0) = true := by simpa using hf
  have hfin : P (.tup [.nils, .int .i64 (faultL f [h])]) K2 := by rw [hP]; exact ⟨_, rfl, rfl, by rw [if_neg hf]; rfl⟩
  simp [qZw.c, qZw.r0, qZw.r1, qZw.r2, qZw.r3, qZw.r4, qZw.r5, g0, g1, g2, he, ccF, hb1, c1, hF, hb2, hfin]
 have hb2 : (faultL f [h] != 0) = false := by simpa using hf
 obtain ⟨R, hq⟩ := faultL0 hf
 have hc := hcl (inF1 hq) R
 have hfin : P (.tup [eI (allW f h), .int .i64 0]) K2 := by rw [hP]; exact ⟨_, by rw [hf], rfl, by rw [if_pos hf]; rfl⟩
 simp [qZw.c, qZw.r0, qZw.r1, qZw.r2, qZw.r3, qZw.r4, qZw.r5, g0, g1, g2, he, ccF, hb1, c1, hF, hb2, hc, hfin]
theorem zYag (f : List Nd) (z : Sz f) (h : Int) (H : Heap) : callW Φ qZW [eF f, .int .i64 h] H = some (.tup [eI (if faultL f [h] = 0 then allW f h else []), .int .i64 (faultL f [h])], H) := by
 refine qZ8 qZW.Φ rfl (args := [eF f, .int .i64 h]) rfl ?_
 obtain ⟨P, hP⟩ : ∃ P : V → Heap → Prop, P = fun r h2 => ∃ h3, fz fzDepth h2 r = some (.tup [eI (if faultL f [h] = 0 then allW f h else []), .int .i64 (faultL f [h])], h3) := ⟨_, rfl⟩
 suffices hgo : ∃ r h', evBodyW (callW Φ) qZW.c [eF f, .int .i64 h] [] = some (r, h') ∧ P r h' by rw [hP] at hgo; exact hgo
 have hPz : ∀ r h2 h3, fz fzDepth h2 r = some (.tup [eI (if faultL f [h] = 0 then allW f h else []), .int .i64 (faultL f [h])], h3) → P r h2 := fun r h2 h3 hz => by rw [hP]; exact ⟨h3, hz⟩
 have hPn : ∀ r h2, flatN2 r = true → nz2 r = .tup [eI (if faultL f [h] = 0 then allW f h else []), .int .i64 (faultL f [h])] → P r h2 := fun r h2 h h1 => hPz r h2 h2 (by rw [← h1]; exact qZ0 h)
 clear hP
 obtain ⟨K0, hK0⟩ : ∃ K0 : Heap, K0 = [cF f] := ⟨_, rfl⟩
 obtain ⟨K1, hK1⟩ : ∃ K1 : Heap, K1 = [cF f, .cells [.int .i64 h]] := ⟨_, rfl⟩
 obtain ⟨K2, hK2⟩ : ∃ K2 : Heap, K2 = [cF f, .cells [.int .i64 h], .row 1 ([h].map cI) 0 true] := ⟨_, rfl⟩
 have hb0 : evBox [] [.arr (f.map cN)] = some (.ptr 0 0, K0) := by rw [hK0]; exact qZd [] rfl
 have hb1 : evBox K0 [.int .i64 h] = some (.ptr 1 0, K1) := by rw [hK0, hK1]; exact qZd _ rfl
 have hci : (V.int .i64 h).cells = [.int .i64 h] := rfl
 have c0 : cellsAt K1 (.ptr 0 0) = some [.arr (f.map cN)] := by rw [hK1]; rfl
 have c1 : cellsAt K1 (.ptr 1 0) = some [.int .i64 h] := by rw [hK1]; rfl
 have okh : ∀ H, okCells H none (some [V.int .i64 h]) = some (.int .i64 h, H) := fun _ => rfl
 have l1 : K1.length = 2 := by rw [hK1]; rfl
 have hbs := row1 K1 h
 rw [l1, show K1 ++ [.row 1 ([h].map cI) 0 true] = K2 by rw [hK1, hK2]; rfl] at hbs
 obtain ⟨K', v, hc, hv1, hv2⟩ := order_of_run z h hK2
 have hfin : ∀ H, P (.tup [v, .int .i64 (faultL f [h])]) H := fun H => hPn _ _ (by simp only [flatN2, List.all_cons, hv1]; rfl) (by simp only [nz2, List.map_cons, hv2]; rfl)
 simp only [eF] at hc
 refine vZv (Nat.le_of_ble_eq_true rfl) (fun env he h0 => ?_)
 have g0 := h0 0 (by simp)
 change eget env 0 = .agg [.arr (f.map cN)] at g0
 have g1 := h0 1 (by simp)
 change eget env 1 = .int .i64 h at g1
 clear h0
 simp [qZW.c] at he
 simp [qZW.c, qZW.r0, qZW.r1, g0, g1, he, ccF, hci, hb0, hb1, c0, c1, okh, hbs, hc, evExt, hfin]
def Stt (f : List Nd) (root : Int) (t : Flt) (i : Itr) (k : Nat) : Prop :=
 i.root = root ∧ i.flt = t ∧ checkI f i = 0 ∧ nextO f i = findOn (accF f t) (allW f root) k ∧ prevO f i = findBack (accF f t) (allW f root) k
theorem Stt.new {f : List Nd} {root : Int} {t : Flt} (hf : faultT f t [root] = 0) : Stt f root t (newIt root t) 0 := by
 have hp : cur f (newIt root t) = 0 := by
  have : ∃ r, allW f root = root :: r := by
   unfold allW
   cases f.length <;> simp [allF]
  obtain ⟨r, hr⟩ := this
  simp only [cur, newIt, if_true, hr, place]
  rfl
 refine ⟨rfl, rfl, by rw [check_new]; exact hf, ?_, ?_⟩
 ·unfold nextO; rw [hp]; rfl
 ·unfold prevO; rw [hp]; rfl
theorem Stt.skip {f : List Nd} {root : Int} {t : Flt} {i : Itr} {k : Nat} (h : Stt f root t i k) {x : Int} (hx : (allW f root)[k]? = some x) (ha : accF f t x = false) : Stt f root t i (k + 1) := by
 obtain ⟨h1, h2, h3, h4, h5⟩ := h
 refine ⟨h1, h2, h3, ?_, ?_⟩
 ·rw [h4, findOn_at hx, ha]; rfl
 ·rw [h5, kZ5 hx, ha]; rfl
theorem Stt.move {f : List Nd} {root : Int} {t : Flt} {i : Itr} {k : Nat} (h : Stt f root t i k) {x : Int} {j : Nat} (hx : (allW f root)[j]? = some x) (b : Bool) : Stt f root t { i with ref := x, before := b } (j + if b then 0 else 1) := by
 obtain ⟨rfl, rfl, h3, h4, h5⟩ := h
 obtain ⟨R, hr, _⟩ := checkI0 h3
 have hcur := zYaf i (zYac R hr) hx b
 refine ⟨rfl, rfl, zYaa h3 (List.mem_of_getElem? hx) b, ?_, ?_⟩
 ·unfold nextO; rw [hcur]
 ·unfold prevO; rw [hcur]
theorem zYae {acc : Int → Bool} {l : List Int} : ∀ (k : Nat) {q : List Int} {x : Int}, (l.take k).filter acc = q ++ [x] → ∃ j : Nat, l[j]? = some x ∧ (l.take j).filter acc = q ∧ findBack acc l k = some x
 | 0, q, x, h => by simp at h
 | k + 1, q, x, h => by
  by_cases hk : k < l.length
  ·obtain ⟨y, hy⟩ : ∃ y, l[k]? = some y := ⟨_, List.getElem?_eq_getElem hk⟩
   have ht : l.take (k + 1) = l.take k ++ [y] := by rw [List.take_add_one, hy]; rfl
   rw [ht, List.filter_append] at h
   cases ha : acc y with
   | true =>
    have : [y].filter acc = [y] := by simp [ha]
    rw [this] at h
    obtain ⟨h1, h2⟩ := List.append_inj' h rfl
    obtain rfl : y = x := by simpa using h2
    exact ⟨k, hy, h1, by rw [kZ5 hy, ha]; rfl⟩
   | false =>
    have : [y].filter acc = [] := by simp [ha]
    rw [this, List.append_nil] at h
    obtain ⟨j, h1, h2, h3⟩ := zYae k h
    exact ⟨j, h1, h2, by rw [kZ5 hy, ha]; exact h3⟩
  ·have ht : l.take (k + 1) = l.take k := by rw [List.take_of_length_le (by omega), List.take_of_length_le (by omega)]
   rw [ht] at h
   obtain ⟨j, h1, h2, h3⟩ := zYae k h
   refine ⟨j, h1, h2, ?_⟩
   unfold findBack at h3 ⊢
   rw [ht]
   exact h3
open Go Go.Ev
theorem prevI_some {f : List Nd} {i : Itr} {x : Int} (hc : checkI f i = 0) (ho : prevO f i = some x) : prevI f i = { i with ref := x, before := true } ∧ prevN f i = x := by
 simp [prevI, prevN, hc, ho, toldI, toldN]
theorem nextI_some {f : List Nd} {i : Itr} {x : Int} (hc : checkI f i = 0) (ho : nextO f i = some x) : nextI f i = { i with ref := x, before := false } ∧ nextN f i = x := by
 simp [nextI, nextN, hc, ho, toldI, toldN]
theorem all_back {f : List Nd} (z : Sz f) {root : Int} {t : Flt} (zt : Fz t) {L : List Int} (hL : L.length ≤ 4096) {v : V} {o : Option Nat} {it : Itr} {H : Heap} (S : Stt f root t it (allW f root).length) (hT : (allW f root).filter (accF f t) = L)
  (h0 : H[0]? = some (cF f)) (h2 : H[2]? = some (.cells (cIt it))) (hv : VL H 1 v o (L.map cI)) {env : List V} (he : env.length = 150) (t3 : eget env 3 = .ptr 0 0) (t7 : eget env 7 = .ptr 2 0) (t11 : eget env 11 = v) (t20 : eget env 20 = .int .i64 ((L.length : Int) - 1)) :
  WK (callW Φ) none (FinV [.tmp 6] (.bool true)) [It.c (.loop zZj.b33), It.b 2, It.c (.seq (.region zZj.r34) (.seq (.region zZj.r35) .ret))] { env := env, marks := [], heap := H } := by
 refine kLoop (fun m s => ∃ (k : Nat) (it : Itr), m ≤ L.length ∧ ((allW f root).take k).filter (accF f t) = L.take m ∧ Stt f root t it k ∧ s.env.length = 150 ∧ eget s.env 3 = .ptr 0 0 ∧ eget s.env 7 = .ptr 2 0 ∧ eget s.env 11 = v ∧ eget s.env 20 = .int .i64 ((m : Int) - 1) ∧ s.marks = [] ∧ s.heap[0]? = some (cF f) ∧ s.heap[2]? = some (.cells (cIt it)) ∧ VL s.heap 1 v o (L.map cI)) L.length
  ⟨(allW f root).length, it, Nat.le_refl _, by rw [List.take_length, List.take_length, hT], S, he, t3, t7, t11, t20, rfl, h0, h2, hv⟩ ?_
 rintro m ⟨e, mk, hp⟩ ⟨k, it, hm, hk, ⟨s1, s2, s3, s4, s5⟩, he, t3, t7, t11, t20, hmk, h0, h2, hv⟩
 simp only at he t3 t7 t11 t20 hmk h0 h2 hv
 obtain rfl := hmk
 have c0 : cellsAt hp (.ptr 0 0) = some [.arr (f.map cN)] := by simp [cellsAt, h0]
 have c2 := qZv h2
 have hP := jZ2 f z it (by rw [s2]; exact zt) hp
 simp only [eF] at hP
 cases m with
 | zero =>
  have hnone : prevO f it = none := by
   rw [s5]
   cases hf : findBack (accF f t) (allW f root) k with
   | none => rfl
   | some x =>
    have : x ∈ ((allW f root).take k).filter (accF f t) := by
     unfold findBack at hf
     have h1 := List.find?_some hf
     have h2 := List.mem_reverse.1 (List.mem_of_find?_eq_some hf)
     exact List.mem_filter.2 ⟨h2, h1⟩
    rw [hk] at this
    simp at this
  have hn : prevN f it = 0 := by simp [prevN, s3, hnone, toldN]
  rw [hn, s3] at hP
  have e0 : ((0 : Nat) : Int) - 1 = -1 := rfl
  rw [e0] at t20
  simp [zZj.b33, zZj.r27, zZj.r34, zZj.r35, t3, t7, t11, t20, he, c0, c2, okIt, hP, evExt, evPick]
 | succ m =>
  have hge : ¬ (m : Int) < 0 := by omega
  have e0 : ((m + 1 : Nat) : Int) - 1 = m := by omega
  rw [e0] at t20
  obtain ⟨x, hx⟩ : ∃ x, L[m]? = some x := ⟨_, List.getElem?_eq_getElem (by omega)⟩
  have ht : L.take (m + 1) = L.take m ++ [x] := by rw [List.take_add_one, hx]; rfl
  rw [ht] at hk
  obtain ⟨j, hj1, hj2, hj3⟩ := zYae k hk
  rw [hj3] at s5
  obtain ⟨hi, hn⟩ := prevI_some s3 s5
  rw [hi, hn, s3] at hP
  have hS := Stt.move ⟨s1, s2, s3, s4, by rw [s5, hj3]⟩ hj1 true
  obtain ⟨jt, hjt⟩ : ∃ jt : Itr, jt = { it with ref := x, before := true } := ⟨_, rfl⟩
  rw [← hjt] at hP hS
  have hS : Stt f root t jt j := hS
  have pu := pushIt hp jt rfl
  obtain ⟨H2, hH2⟩ : ∃ H2, H2 = hp ++ [Ob.cells (cIt jt)] := ⟨_, rfl⟩
  rw [← hH2] at pu
  have v2 : VL H2 1 v o (L.map cI) := by rw [hH2]; exact hv.push _
  have q2 : H2[2]? = some (.cells (cIt it)) := by rw [hH2, List.getElem?_append_left (List.getElem?_eq_some_iff.1 h2).1]; exact h2
  have q0 : H2[0]? = some (cF f) := by rw [hH2, List.getElem?_append_left (List.getElem?_eq_some_iff.1 h0).1]; exact h0
  have qn := qZv (show H2[hp.length]? = some (.cells (cIt jt)) by rw [hH2]; simp)
  have hxm : (L.map cI)[(m : Int).toNat]? = some (cI x) := by rw [List.getElem?_map, Int.toNat_natCast, hx]; rfl
  obtain ⟨id, ep, hid, hia, hce⟩ := v2.at (k := .i64) (by omega) hxm
  have hc0 := hce 0
  simp only [List.drop_zero] at hc0
  simp only [Int.toNat_natCast] at hia hc0
  have st : evStoreV H2 5 (.ptr 2 0) (eIt jt) = some (V.non, H2.set 2 (.cells (cIt jt))) := storeIt jt q2
  have l2 := (List.getElem?_eq_some_iff.1 q2).1
  have r2 : (H2.set 2 (.cells (cIt jt)))[2]? = some (.cells (cIt jt)) := by rw [List.getElem?_set_self l2]
  have r0 : (H2.set 2 (.cells (cIt jt)))[0]? = some (cF f) := by rw [List.getElem?_set_ne (by decide)]; exact q0
  have rv : VL (H2.set 2 (.cells (cIt jt))) 1 v o (L.map cI) := v2.mono fun id hid => by
   have := v2.ne q2 (fun _ _ _ _ h => by cases h)
   rw [List.getElem?_set_ne (fun e => this (by rw [hid, e]))]
  have hw : IntKind.i64.wrap ((m : Int) - 1) = (m : Int) - 1 := by rw [Ev.wrap64] <;> omega
  obtain ⟨H3, hH3⟩ : ∃ H3, H3 = H2.set 2 (.cells (cIt jt)) := ⟨_, rfl⟩
  rw [← hH3] at st r2 r0 rv
  simp [zZj.b33, zZj.r27, zZj.r28, zZj.r29, zZj.r31, zZj.r32, t3, t7, t11, t20, he, hge, c0, c2, okIt, hP, evExt, pu, hia, hc0, cellI, qn, st, evPick]
  exact ⟨m, by omega, by omega, j, hj2, jt, hS, hw, r0, r2, rv⟩
theorem all_mid {f : List Nd} (z : Sz f) {root : Int} {t : Flt} (zt : Fz t) {L : List Int} (hL : L.length ≤ 4096) {v : V} {o : Option Nat} {it : Itr} {H : Heap} (S : Stt f root t it (allW f root).length) (hT : (allW f root).filter (accF f t) = L)
  (h0 : H[0]? = some (cF f)) (h2 : H[2]? = some (.cells (cIt it))) (hv : VL H 1 v o (L.map cI)) {env : List V} (he : env.length = 150) (t3 : eget env 3 = .ptr 0 0) (t7 : eget env 7 = .ptr 2 0) (t11 : eget env 11 = v) :
  WK (callW Φ) none (FinV [.tmp 6] (.bool true)) [It.o zZj.r23, It.c (.seq (.seq (.region zZj.r24) (.cond (.t 111) (.seq (.region zZj.r25) .ret) .skip)) (.seq (.seq (.region zZj.r26) (.block 2 (.loop zZj.b33))) (.seq (.region zZj.r34) (.seq (.region zZj.r35) .ret))))] { env := env, marks := [], heap := H } := by
 have S' := S
 obtain ⟨s1, s2, s3, s4, s5⟩ := S
 rw [xZ0 (Nat.le_refl _)] at s4
 have hi : nextI f it = it := by simp [nextI, s3, s4, toldI]
 have hn : nextN f it = 0 := by simp [nextN, s3, s4, toldN]
 have c0 : cellsAt H (.ptr 0 0) = some [.arr (f.map cN)] := by simp [cellsAt, h0]
 have c2 := qZv h2
 have hN := wZh f z it (by rw [s2]; exact zt) H
 rw [hi, hn, s3] at hN
 simp only [eF] at hN
 have pu := pushIt H it rfl
 obtain ⟨H2, hH2⟩ : ∃ H2, H2 = H ++ [Ob.cells (cIt it)] := ⟨_, rfl⟩
 rw [← hH2] at pu
 have v2 : VL H2 1 v o (L.map cI) := by rw [hH2]; exact hv.push _
 have q2 : H2[2]? = some (.cells (cIt it)) := by rw [hH2, List.getElem?_append_left (List.getElem?_eq_some_iff.1 h2).1]; exact h2
 have q0 : H2[0]? = some (cF f) := by rw [hH2, List.getElem?_append_left (List.getElem?_eq_some_iff.1 h0).1]; exact h0
 have qn := qZv (show H2[H.length]? = some (.cells (cIt it)) by rw [hH2]; simp)
 have d2 := qZv q2
 have hs := same_it it (by rw [s2]; exact zt.len) H2
 have hl := fun H => v2.len H
 have hll : (L.map cI).length = L.length := by simp
 rw [hll] at hl
 have hw : IntKind.i64.wrap ((L.length : Int) - 1) = (L.length : Int) - 1 := by rw [Ev.wrap64] <;> omega
 simp [zZj.r23, zZj.r24, zZj.r26, t3, t7, t11, he, c0, c2, okIt, hN, evExt, pu, qn, d2, hs, hl, hw, evPick]
 refine all_back z zt hL S' hT q0 q2 v2 ?_ ?_ ?_ ?_ ?_ <;> simp [he, t3, t7, t11]
theorem all_on {f : List Nd} (z : Sz f) {root : Int} {t : Flt} (zt : Fz t) (hf : faultT f t [root] = 0) {it : Itr} {H : Heap} (S : Stt f root t it 0)
  (h0 : H[0]? = some (cF f)) (h1 : H[1]? = some (.cells (cFl t))) (h2 : H[2]? = some (.cells (cIt it))) {env : List V} (he : env.length = 150) (t3 : eget env 3 = .ptr 0 0) (t5 : eget env 5 = .ptr 1 0) (t7 : eget env 7 = .ptr 2 0) (t9 : eget env 9 = eI (allW f root)) (t11 : eget env 11 = .nils) (t12 : eget env 12 = .int .i64 0) :
  WK (callW Φ) none (FinV [.tmp 6] (.bool true)) [It.c (.loop zZj.b22), It.b 0, It.c (.seq (.region zZj.r23) (.seq (.seq (.region zZj.r24) (.cond (.t 111) (.seq (.region zZj.r25) .ret) .skip)) (.seq (.seq (.region zZj.r26) (.block 2 (.loop zZj.b33))) (.seq (.region zZj.r34) (.seq (.region zZj.r35) .ret)))))] { env := env, marks := [], heap := H } := by
 obtain ⟨R, hq, _⟩ := faultT0 hf
 have hi := inF1 hq
 have hlen : (allW f root).length ≤ _ := vZz R f.length hi
 have hle := vZp R
 have hmem := allW_is R hi
 have hwr : wrongT t = 0 := by
  unfold faultT at hf
  split at hf
  ·exact hf
  ·rename_i hn; exact absurd hf hn
 obtain ⟨l, hl⟩ : ∃ l, l = allW f root := ⟨_, rfl⟩
 have t9' : eget env 9 = .arr (l.map cI) := by rw [t9, hl]; rfl
 have hl4 : l.length ≤ 4096 := by rw [hl]; omega
 refine kLoop (fun m s => ∃ (i : Nat) (it : Itr) (o : Option Nat), m = l.length - i ∧ i ≤ l.length ∧ Stt f root t it i ∧ s.env.length = 150 ∧ eget s.env 3 = .ptr 0 0 ∧ eget s.env 5 = .ptr 1 0 ∧ eget s.env 7 = .ptr 2 0 ∧ eget s.env 9 = .arr (l.map cI) ∧ eget s.env 12 = .int .i64 i ∧ s.marks = [] ∧ s.heap[0]? = some (cF f) ∧ s.heap[1]? = some (.cells (cFl t)) ∧ s.heap[2]? = some (.cells (cIt it)) ∧ VL s.heap 1 (eget s.env 11) o (((l.take i).filter (accF f t)).map cI)) l.length
  ⟨0, it, none, rfl, Nat.zero_le _, S, he, t3, t5, t7, t9', t12, rfl, h0, h1, h2, by rw [t11]; exact VL.nil _ _⟩ ?_
 rintro m ⟨e, mk, hp⟩ ⟨i, it, o, rfl, hil, S, he, t3, t5, t7, t9, t12, hmk, h0, h1, h2, hv⟩
 simp only at he t3 t5 t7 t9 t12 hmk h0 h1 h2 hv
 obtain rfl := hmk
 obtain ⟨v, hve⟩ : ∃ v, v = eget e 11 := ⟨_, rfl⟩
 rw [← hve] at hv
 have c0 : cellsAt hp (.ptr 0 0) = some [.arr (f.map cN)] := by simp [cellsAt, h0]
 have c1 := qZv h1
 have c2 := qZv h2
 have okFl : ∀ H, okCells H (some 2) (some (cFl t)) = some (eFl t, H) := fun _ => rfl
 by_cases hlt : i < l.length
 ·obtain ⟨x, hx⟩ : ∃ x, l[i]? = some x := ⟨_, List.getElem?_eq_getElem hlt⟩
  have hx' : (allW f root)[i]? = some x := by rw [← hl]; exact hx
  have hxi := hmem x (List.mem_of_getElem? hx')
  have hA := vZU f z t zt x hp
  have hft : faultT f t [x] = 0 := by simp [faultT, faultL, R, inF, hxi, hwr]
  have hav : acceptV f t x = verdictV f t x := by simp [acceptV, hft]
  rw [hft, hav] at hA
  simp only [eF] at hA
  have hacc : accF f t x = (verdictV f t x == 1) := rfl
  have hw : IntKind.i64.wrap ((i : Int) + 1) = ((i + 1 : Nat) : Int) := by rw [Ev.wrap64] <;> omega
  have ha1 := fun H => qZj (h := H) (k := .i64) qZY hx
  have ht : l.take (i + 1) = l.take i ++ [x] := by rw [List.take_add_one, hx]; rfl
  have hfl : ((l.take i).filter (accF f t)).length ≤ 4096 := by
   have h1 := List.length_filter_le (accF f t) (l.take i)
   have h2 : (l.take i).length ≤ l.length := by rw [List.length_take]; omega
   omega
  cases hac : accF f t x with
  | false =>
   have S1 := S.skip hx' hac
   have htf : (l.take (i + 1)).filter (accF f t) = (l.take i).filter (accF f t) := by rw [ht, List.filter_append]; simp [hac]
   rw [hac] at hacc
   have hvb : (verdictV f t x != 1) = true := by simp only [bne, ← hacc]; rfl
   simp [zZj.b22, zZj.r11, t3, t5, t7, t9, t12, he, hlt]
   refine kDraw1 zZj.r12.ord ?_
   simp [zZj.r12, zZj.r13, zZj.r15, zZj.r21, List.filterMap_cons, t3, t5, t7, t9, t12, he, c0, c1, okFl, ha1, cellI, hA, evExt, hvb]
   exact ⟨l.length - (i + 1), by omega, i + 1, rfl, by omega, it, S1, by simpa using hw, h0, h1, h2, o, by rw [← hve, htf]; exact hv⟩
  | true =>
   obtain ⟨s1, s2, s3, s4, s5⟩ := S
   have ho : nextO f it = some x := by rw [s4, findOn_at hx', hac]; rfl
   obtain ⟨hni, hnn⟩ := nextI_some s3 ho
   have hN := wZh f z it (by rw [s2]; exact zt) hp
   rw [hni, hnn, s3] at hN
   simp only [eF] at hN
   have S1 : Stt f root t { it with ref := x, before := false } (i + 1) := Stt.move ⟨s1, s2, s3, s4, s5⟩ hx' false
   obtain ⟨jt, hjt⟩ : ∃ jt : Itr, jt = { it with ref := x, before := false } := ⟨_, rfl⟩
   rw [← hjt] at hN S1
   have htf : (l.take (i + 1)).filter (accF f t) = (l.take i).filter (accF f t) ++ [x] := by rw [ht, List.filter_append]; simp [hac]
   rw [hac] at hacc
   have hvb : (verdictV f t x != 1) = false := by simp only [bne, ← hacc]; rfl
   have pu := pushIt hp jt rfl
   obtain ⟨H2, hH2⟩ : ∃ H2, H2 = hp ++ [Ob.cells (cIt jt)] := ⟨_, rfl⟩
   rw [← hH2] at pu
   have v2 : VL H2 1 v o (((l.take i).filter (accF f t)).map cI) := by rw [hH2]; exact hv.push _
   have q2 : H2[2]? = some (.cells (cIt it)) := by rw [hH2, List.getElem?_append_left (List.getElem?_eq_some_iff.1 h2).1]; exact h2
   have q0 : H2[0]? = some (cF f) := by rw [hH2, List.getElem?_append_left (List.getElem?_eq_some_iff.1 h0).1]; exact h0
   have q1 : H2[1]? = some (.cells (cFl t)) := by rw [hH2, List.getElem?_append_left (List.getElem?_eq_some_iff.1 h1).1]; exact h1
   have qn := qZv (show H2[hp.length]? = some (.cells (cIt jt)) by rw [hH2]; simp)
   have st : evStoreV H2 5 (.ptr 2 0) (eIt jt) = some (V.non, H2.set 2 (.cells (cIt jt))) := storeIt jt q2
   have l2 := (List.getElem?_eq_some_iff.1 q2).1
   have r2 : (H2.set 2 (.cells (cIt jt)))[2]? = some (.cells (cIt jt)) := by rw [List.getElem?_set_self l2]
   have r0 : (H2.set 2 (.cells (cIt jt)))[0]? = some (cF f) := by rw [List.getElem?_set_ne (by decide)]; exact q0
   have r1 : (H2.set 2 (.cells (cIt jt)))[1]? = some (.cells (cFl t)) := by rw [List.getElem?_set_ne (by decide)]; exact q1
   have rv : VL (H2.set 2 (.cells (cIt jt))) 1 v o (((l.take i).filter (accF f t)).map cI) := v2.mono fun id hid => by
    have := v2.ne q2 (fun _ _ _ _ h => by cases h)
    rw [List.getElem?_set_ne (fun e => this (by rw [hid, e]))]
   obtain ⟨H3, hH3⟩ : ∃ H3, H3 = H2.set 2 (.cells (cIt jt)) := ⟨_, rfl⟩
   rw [← hH3] at st r2 r0 r1 rv
   have hbs := row1 H3 x
   obtain ⟨H4, hH4⟩ : ∃ H4, H4 = H3 ++ [Ob.row 1 ([x].map cI) 0 true] := ⟨_, rfl⟩
   rw [← hH4] at hbs
   have v4 : VL H4 1 v o (((l.take i).filter (accF f t)).map cI) := by rw [hH4]; exact rv.push _
   have p0 : H4[0]? = some (cF f) := by rw [hH4, List.getElem?_append_left (List.getElem?_eq_some_iff.1 r0).1]; exact r0
   have p1 : H4[1]? = some (.cells (cFl t)) := by rw [hH4, List.getElem?_append_left (List.getElem?_eq_some_iff.1 r1).1]; exact r1
   have p2 : H4[2]? = some (.cells (cIt jt)) := by rw [hH4, List.getElem?_append_left (List.getElem?_eq_some_iff.1 r2).1]; exact r2
   obtain ⟨v', o', H5, happ, hv5, hl5, hrest, hnew⟩ := v4.app (by_ := 8) (es := [cI x]) (plainI [x]) (q := .sl H3.length 0 0 1) (by rw [hH4]; simp [elemsOf]) (by simp only [List.length_map, List.length_singleton]; unfold roomB; omega)
   have w0 : H5[0]? = some (cF f) := by rw [hrest 0 (List.getElem?_eq_some_iff.1 p0).1 (v4.ne p0 (fun _ _ _ _ h => by cases h))]; exact p0
   have w1 : H5[1]? = some (.cells (cFl t)) := by rw [hrest 1 (List.getElem?_eq_some_iff.1 p1).1 (v4.ne p1 (fun _ _ _ _ h => by cases h))]; exact p1
   have w2 : H5[2]? = some (.cells (cIt jt)) := by rw [hrest 2 (List.getElem?_eq_some_iff.1 p2).1 (v4.ne p2 (fun _ _ _ _ h => by cases h))]; exact p2
   have v5 : VL H5 1 v' o' (((l.take (i + 1)).filter (accF f t)).map cI) := by rw [htf, List.map_append]; exact hv5
   simp [zZj.b22, zZj.r11, t3, t5, t7, t9, t12, he, hlt]
   refine kDraw1 zZj.r12.ord ?_
   simp [zZj.r12, zZj.r13, zZj.r15, zZj.r16, zZj.r17, zZj.r19, zZj.r20, zZj.r21, List.filterMap_cons, t3, t5, t7, t9, t12, he, c0, c1, c2, okFl, okIt, ha1, cellI, hA, hN, evExt, hvb, pu, qn, st, ← hve, hbs, happ, evPick]
   exact ⟨l.length - (i + 1), by omega, i + 1, rfl, by omega, jt, S1, by simpa using hw, w0, w1, w2, o', v5⟩
 ·have : i = l.length := by omega
  subst this
  rw [List.take_length] at hv
  have hfl : (l.filter (accF f t)).length ≤ 4096 := by
   have h1 := List.length_filter_le (accF f t) l
   omega
  have S' : Stt f root t it (allW f root).length := by rw [← hl]; exact S
  have hlt : ¬ ((l.length : Int) < (l.length : Int)) := by omega
  simp [zZj.b22, zZj.r11, t9, t12, he]
  refine all_mid z zt hfl S' (by rw [← hl]) h0 h2 hv ?_ ?_ ?_ ?_ <;> simp [he, t3, t7, ← hve]
theorem xZ9 (f : List Nd) (z : Sz f) (root : Int) (t : Flt) (zt : Fz t) (H : Heap) : callW Φ zZj [eF f, .int .i64 root, eFl t] H = some (.bool true, H) := by
 have : ∃ hh, evBodyW (callW Φ) zZj.c [eF f, .int .i64 root, eFl t] [] = some (.bool true, hh) := by
  obtain ⟨K0, hK0⟩ : ∃ K0 : Heap, K0 = [cF f] := ⟨_, rfl⟩
  obtain ⟨K1, hK1⟩ : ∃ K1 : Heap, K1 = [cF f, .cells (cFl t)] := ⟨_, rfl⟩
  have hb0 : evBox [] [.arr (f.map cN)] = some (.ptr 0 0, K0) := by rw [hK0]; exact qZd [] rfl
  have hb1 : evBox K0 (cFl t) = some (.ptr 1 0, K1) := by rw [hK0, hK1]; exact qZd _ rfl
  have l1 : K1.length = 2 := by rw [hK1]; rfl
  have c0 : cellsAt K1 (.ptr 0 0) = some [.arr (f.map cN)] := by rw [hK1]; rfl
  have c1 : cellsAt K1 (.ptr 1 0) = some (cFl t) := by rw [hK1]; rfl
  have okFl : ∀ H, okCells H (some 2) (some (cFl t)) = some (eFl t, H) := fun _ => rfl
  obtain ⟨a, ha⟩ : ∃ a, a = newI f root t := ⟨_, rfl⟩
  obtain ⟨K2, hK2⟩ : ∃ K2 : Heap, K2 = K1 ++ [.cells (cIt a)] := ⟨_, rfl⟩
  have p1 := pushIt K1 a l1
  rw [← hK2] at p1
  have d0 : cellsAt K2 (.ptr 0 0) = some [.arr (f.map cN)] := by rw [hK2, hK1]; rfl
  have d2 := qZv (show K2[2]? = some (.cells (cIt a)) by rw [hK2, hK1]; rfl)
  have hB := vZJ K1
  have hN := wZF f z root t zt K1
  have hO := zYag f z root K2
  rw [← ha] at hN
  simp only [eF] at hN hO
  refine qZE (Nat.le_of_ble_eq_true rfl) (fun env he h0 => ?_)
  have g0 := h0 0 (by simp)
  change eget env 0 = .agg [.arr (f.map cN)] at g0
  have g1 := h0 1 (by simp)
  change eget env 1 = .int .i64 root at g1
  have g2 := h0 2 (by simp)
  change eget env 2 = eFl t at g2
  clear h0
  simp [zZj.c] at he
  by_cases hf : faultT f t [root] = 0
  case neg =>
   have w1 : (faultT f t [root] != 0) = true := by simpa using hf
   have han : a = noIt := by rw [ha]; simp [newI, hf]
   have ar : a.root = 0 := by rw [han]; rfl
   have ae : a.ref = 0 := by rw [han]; rfl
   simp [zZj.c, zZj.r0, zZj.r1, zZj.r3, zZj.r4, zZj.r5, g0, g1, g2, he, ccF, ccFl, hb0, hb1, hB, c0, c1, okFl, hN, evExt, l1, p1, w1, d2, okIt0, okIt1, ar, ae, evPick]
  have w1 : (faultT f t [root] != 0) = false := by simpa using hf
  have han : a = newIt root t := by rw [ha]; simp [newI, hf]
  have hfl : faultL f [root] = 0 := by
   obtain ⟨R, hq, _⟩ := faultT0 hf
   simp [faultL, R, hq]
  rw [hfl, if_pos rfl] at hO
  rw [hf] at hN w1
  simp [zZj.c, zZj.r0, zZj.r1, zZj.r3, zZj.r4, zZj.r6, zZj.r7, zZj.r9, zZj.r10, g0, g1, g2, he, ccF, ccFl, hb0, hb1, hB, c0, c1, okFl, hN, evExt, l1, p1, w1, d0, hO]
  refine all_on (it := a) z zt hf (by rw [han]; exact Stt.new hf) (by rw [hK2, hK1]; rfl) (by rw [hK2, hK1]; rfl) (by rw [hK2, hK1]; rfl) ?_ ?_ ?_ ?_ ?_ ?_ ?_ <;> simp [he]
 obtain ⟨h', hb⟩ := this
 exact zZQ (h := H) zZj.Φ rfl (args := [eF f, .int .i64 root, eFl t]) rfl hb rfl
end Go.Proofs.It
