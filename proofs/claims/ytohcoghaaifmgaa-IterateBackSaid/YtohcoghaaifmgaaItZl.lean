/- What a node has within it: the program's walk. A node and all within it, collected: the program's List. No conditions. -/
import Derived.Test.YtohcoghaaifmgaaItZj
set_option maxHeartbeats 16000000
set_option maxRecDepth 100000
set_option linter.unusedVariables false
set_option linter.unusedSimpArgs false
set_option linter.unusedSectionVars false
namespace Go.Proofs.It
open Go Go.Ev
def Kc (S : Nat → Prop) (H H' : Heap) : Prop := H.length ≤ H'.length ∧ ∀ j cs, ¬ S j → H[j]? = some (.cells cs) → H'[j]? = some (.cells cs)
theorem Kc.refl (S : Nat → Prop) (H : Heap) : Kc S H H := ⟨Nat.le_refl _, fun _ _ _ h => h⟩
theorem Kc.trans {S : Nat → Prop} {A B C : Heap} (h1 : Kc S A B) (h2 : Kc S B C) : Kc S A C := ⟨Nat.le_trans h1.1 h2.1, fun j cs hs h => h2.2 j cs hs (h1.2 j cs hs h)⟩
theorem Kc.push (S : Nat → Prop) (H : Heap) (e : Heap) : Kc S H (H ++ e) := ⟨by simp, fun j cs _ h => by rw [List.getElem?_append_left (List.getElem?_eq_some_iff.1 h).1]; exact h⟩
theorem flat_take {l : List Int} {sub : Int → List Int} {i : Nat} {x : Int} (hx : l[i]? = some x) : ((l.take (i + 1)).map sub).flatten = ((l.take i).map sub).flatten ++ sub x ∧ ((l.take i).map sub).flatten.length + (sub x).length ≤ ((l.map sub).flatten).length := by
 have ht : l.take (i + 1) = l.take i ++ [x] := by rw [List.take_add_one, hx]; rfl
 have h1 : ((l.take (i + 1)).map sub).flatten = ((l.take i).map sub).flatten ++ sub x := by rw [ht]; simp
 refine ⟨h1, ?_⟩
 have : l = l.take (i + 1) ++ l.drop (i + 1) := (List.take_append_drop _ _).symm
 have h2 : ((l.map sub).flatten).length = (((l.take (i + 1)).map sub).flatten).length + (((l.drop (i + 1)).map sub).flatten).length := by
  conv => lhs; rw [this]
  rw [List.map_append, List.flatten_append, List.length_append]
 rw [h2, h1, List.length_append]
 omega
theorem xZ6 {f : List Nd} (z : Sz f) {y : V} (S : Nat → Prop) (J : List Int → Heap → Prop) (N : Nat)
  (step : ∀ p x H, p.length < N → J p H → ∃ H', callW Φ y [.int .i64 x] H = some (.bool true, H') ∧ J (p ++ [x]) H' ∧ Kc S H H')
  (push : ∀ p H cs, J p H → J p (H ++ [.cells cs])) (slt : ∀ p H s, J p H → S s → s < H.length) (sub : Int → List Int) (h : Int)
  (hk : ∀ k ∈ kds f h, ∀ p H, p.length + (sub k).length ≤ N → J p H → ∃ H', callW Φ zZO [eF f, .int .i64 k, y] H = some (.bool true, H') ∧ J (p ++ sub k) H' ∧ Kc S H H')
  (p : List Int) (H : Heap) (hN : p.length + (h :: ((kds f h).map sub).flatten).length ≤ N) (hJ : J p H) :
  ∃ H', callW Φ zZO [eF f, .int .i64 h, y] H = some (.bool true, H') ∧ J (p ++ h :: ((kds f h).map sub).flatten) H' ∧ Kc S H H' := by
 obtain ⟨P, hP⟩ : ∃ P : V → Heap → Prop, P = fun r H' => r = .bool true ∧ J (p ++ h :: ((kds f h).map sub).flatten) H' ∧ Kc S H H' := ⟨_, rfl⟩
 suffices hgo : ∃ r h', callW Φ zZO [eF f, .int .i64 h, y] H = some (r, h') ∧ P r h' by
  obtain ⟨r, h', h1, h2⟩ := hgo
  rw [hP] at h2
  obtain ⟨rfl, h3⟩ := h2
  exact ⟨h', h1, h3⟩
 have hPJ : ∀ H', J (p ++ h :: ((kds f h).map sub).flatten) H' → Kc S H H' → P (.bool true) H' := fun H' q k => by rw [hP]; exact ⟨rfl, q, k⟩
 clear hP
 have hlf := z.len
 have hkl : (kds f h).length < 2 ^ 50 := z.atk h
 refine call_x zZO.Φ rfl (Nat.le_of_ble_eq_true rfl) (fun env he g => ?_)
 have g0 := g 0 (by simp)
 have g1 := g 1 (by simp)
 have g2 := g 2 (by simp)
 change eget env 0 = .agg [.arr (f.map cN)] at g0
 change eget env 1 = .int .i64 h at g1
 change eget env 2 = y at g2
 clear g
 simp [zZO.c] at he
 have hcc : (V.agg [V.arr (f.map cN)]).cells = [.arr (f.map cN)] := rfl
 obtain ⟨K0, hK0⟩ : ∃ K0, K0 = H ++ [cF f] := ⟨_, rfl⟩
 have hb1 : evBox H [.arr (f.map cN)] = some (.ptr H.length 0, K0) := by rw [hK0]; simp [evBox, V.isCell, qZB]
 have nS : ∀ {p'}, J p' H → ¬ S H.length := fun hj hs => Nat.lt_irrefl _ (slt _ _ _ hj hs)
 have hnS := nS hJ
 have hJ0 : J p K0 := by rw [hK0]; exact push _ _ _ hJ
 have hKc0 : Kc S H K0 := by rw [hK0]; exact Kc.push _ _ _
 have f0 : K0[H.length]? = some (cF f) := by rw [hK0]; simp
 simp only [List.length_cons] at hN
 obtain ⟨K1, hc1, hJ1, hKc1⟩ := step p h K0 (by omega) hJ0
 have f1 : K1[H.length]? = some (cF f) := hKc1.2 _ _ hnS f0
 have c1 : cellsAt K1 (.ptr H.length 0) = some [.arr (f.map cN)] := by simp [cellsAt, f1]
 have hA := vZx f h hlf K1
 simp only [eF, eN] at hA
 have hF9 : ∀ H, evField H 9 none (.agg (cN (at_ f h))) = some (.arr ((kds f h).map cI), H) := fun _ => rfl
 obtain ⟨l, hl⟩ : ∃ l, l = kds f h := ⟨_, rfl⟩
 rw [← hl] at hF9 hkl hk hN hPJ
 simp [zZO.c, zZO.r0, zZO.r1, zZO.r2, zZO.r3, zZO.r10, g0, g1, g2, he, hcc, hb1, hc1, c1, hA, hF9, ofCells]
 refine kLoop (fun m s => ∃ i : Nat, m = l.length - i ∧ i ≤ l.length ∧ s.env.length = 28 ∧ eget s.env 2 = y ∧ eget s.env 3 = .ptr H.length 0 ∧ eget s.env 16 = .arr (l.map cI) ∧ eget s.env 17 = .int .i64 l.length ∧ eget s.env 18 = .int .i64 i ∧ s.marks = [] ∧ J (p ++ h :: ((l.take i).map sub).flatten) s.heap ∧ Kc S H s.heap ∧ s.heap[H.length]? = some (cF f)) l.length
  ⟨0, by simp, by simp, by simp [he], by simp [g2], by simp [he], by simp [he], by simp [he], by simp [he], rfl, by simpa using hJ1, hKc0.trans hKc1, f1⟩ ?_
 rintro m ⟨e, mk, hp⟩ ⟨i, rfl, hi, he, k2, k3, k16, k17, k18, hm, hJi, hKi, fi⟩
 simp only at he k2 k3 k16 k17 k18 hm hJi hKi fi
 obtain rfl := hm
 by_cases hlt : i < l.length
 ·obtain ⟨x, hx⟩ : ∃ x, l[i]? = some x := ⟨_, List.getElem?_eq_getElem hlt⟩
  have hw : IntKind.i64.wrap ((i : Int) + 1) = ((i + 1 : Nat) : Int) := by rw [Ev.wrap64] <;> omega
  have ha1 := qZj (h := hp) (k := .i64) qZY hx
  obtain ⟨t1, t2⟩ := flat_take (sub := sub) hx
  obtain ⟨H2, hc2, hJ2, hK2⟩ := hk x (List.mem_of_getElem? hx) _ hp (by simp only [List.length_append, List.length_cons]; omega) hJi
  have f2 := hK2.2 _ _ hnS fi
  have ci : cellsAt hp (.ptr H.length 0) = some [.arr (f.map cN)] := by simp [cellsAt, fi]
  simp only [eF] at hc2
  simp [zZO.b9, zZO.r4, zZO.r5, zZO.r6, zZO.r7, zZO.r8, k2, k3, k16, k17, k18, he, hlt, ha1, cellI, ci, hc2, ofCells]
  refine ⟨l.length - (i + 1), by omega, i + 1, rfl, by omega, by simpa using hw, ?_, hKi.trans hK2, f2⟩
  have e : p ++ h :: (List.map sub (List.take (i + 1) l)).flatten = p ++ h :: (List.map sub (List.take i l)).flatten ++ sub x := by rw [t1]; simp
  rw [← List.map_take, e]
  exact hJ2
 ·have : i = l.length := by omega
  subst this
  rw [List.take_length] at hJi
  have := hPJ _ hJi hKi
  simp [zZO.b9, zZO.r4, zZO.r5, zZO.r6, zZO.r7, zZO.r8, zZO.r10, k17, k18, he, this]
theorem xZ7 {f : List Nd} (z : Sz f) (R : right f = true) {y : V} (S : Nat → Prop) (J : List Int → Heap → Prop) (N : Nat)
  (step : ∀ p x H, p.length < N → J p H → ∃ H', callW Φ y [.int .i64 x] H = some (.bool true, H') ∧ J (p ++ [x]) H' ∧ Kc S H H')
  (push : ∀ p H cs, J p H → J p (H ++ [.cells cs])) (slt : ∀ p H s, J p H → S s → s < H.length) : ∀ (r : Nat) (h : Int) (d : Nat), is_ f h = true → Dep f h d → f.length ≤ d + r → ∀ (p : List Int) (H : Heap), p.length + (allF f r h).length ≤ N → J p H →
  ∃ H', callW Φ zZO [eF f, .int .i64 h, y] H = some (.bool true, H') ∧ J (p ++ allF f r h) H' ∧ Kc S H H'
 | 0, h, d, hi, hd, hr, p, H, hN, hJ => by
  have hn := kds_nil R hi hd (by omega)
  have := xZ6 z S J N step push slt (fun _ => []) h (by rw [hn]; intro k hk; cases hk) p H (by rw [hn]; simpa [allF] using hN) hJ
  rw [hn] at this
  simpa [allF] using this
 | r + 1, h, d, hi, hd, hr, p, H, hN, hJ => by
  have := xZ6 z S J N step push slt (allF f r) h (fun k hk p H hN hJ => xZ7 z R S J N step push slt r k (d + 1) (vZh R hi hk).1 (vZQ R hi hd hk) (by omega) p H hN hJ) p H hN hJ
  exact this
open Go Go.Ev
def Runs (fn : V) (T : List Int) (H : Heap) : Prop := ∀ (y : V) (J : List Int → Heap → Prop) (H1 : Heap),
 (∀ p x H', p.length < T.length → J p H' → ∃ H'', callW Φ y [.int .i64 x] H' = some (.bool true, H'') ∧ J (p ++ [x]) H'' ∧ Kc (· = H.length) H' H'') →
 (∀ p H' cs, J p H' → J p (H' ++ [.cells cs])) → (∀ p H' j ob, j < H.length → J p H' → J p (H'.set j ob)) → (∀ p H', J p H' → H.length < H'.length) → Kc (fun _ => False) H H1 → J [] H1 →
 ∃ H2, callW Φ fn [y] H1 = some (.tup [], H2) ∧ J T H2
abbrev aLp (env : List V) (n : Nat) : Ob := .loop .ready none env [7] (.region zZl.r2) zZl.b4 (n + 1)
def Coll (env : List V) (n : Nat) (p : List Int) (H : Heap) : Prop := H[n + 1]? = some (.defr false) ∧ H[n + 2]? = some (aLp env n) ∧ ∃ v o, H[n]? = some (.cells [v]) ∧ VL H 1 v o (p.map cI) ∧ ∀ id, o = some id → n < id
theorem coll_round {n : Nat} {env : List V} (he : env.length = 13) (k2 : eget env 2 = .ptr n 0) {p : List Int} {x : Int} {H : Heap} (hp : p.length < 2 ^ 40) (hJ : Coll env n p H) :
  ∃ H', callW Φ (.fn (.yield (n + 2)) [] []) [.int .i64 x] H = some (.bool true, H') ∧ Coll env n (p ++ [x]) H' ∧ Kc (· = n) H H' := by
 obtain ⟨h4, h5, v, o, h3, hv, ho⟩ := hJ
 have l5 := (List.getElem?_eq_some_iff.1 h5).1
 have l3 := (List.getElem?_eq_some_iff.1 h3).1
 obtain ⟨env1, henv1⟩ : ∃ env1, env1 = (env.set 7 (.int .i64 x)).set 5 (.int .i64 x) := ⟨_, rfl⟩
 obtain ⟨Hb, hHb⟩ : ∃ Hb, Hb = H.set (n + 2) (.loop .busy none env [7] (.region zZl.r2) zZl.b4 (n + 1)) := ⟨_, rfl⟩
 have o5 : Hb[n + 2]? = some (.loop .busy none env [7] (.region zZl.r2) zZl.b4 (n + 1)) := by rw [hHb, List.getElem?_set_self l5]
 have bj : ∀ j, j ≠ n + 2 → Hb[j]? = H[j]? := fun j hj => by rw [hHb, List.getElem?_set_ne (Ne.symm hj)]
 have b3 : Hb[n]? = some (.cells [v]) := by rw [bj n (by omega)]; exact h3
 have hvb : VL Hb 1 v o (p.map cI) := hv.mono fun id hid => bj id fun e => by
  subst e
  exact (hv.ne h5 (fun _ _ _ _ h => by cases h)) hid
 have lHb : Hb.length = H.length := by rw [hHb]; simp
 obtain ⟨H1, hH1⟩ : ∃ H1, H1 = Hb ++ [Ob.row 1 [cI x] 0 true] := ⟨_, rfl⟩
 have hv1 : VL H1 1 v o (p.map cI) := by rw [hH1]; exact hvb.push _
 have lH1 : H1.length = H.length + 1 := by rw [hH1]; simp [lHb]
 obtain ⟨v', o', H2, happ, hv2, hl2, hrest, hnew⟩ := hv1.app (by_ := 8) (es := [cI x]) (plainI [x]) (q := .sl Hb.length 0 0 1) (by rw [hH1]; simp [elemsOf]) (by simp; unfold roomB; omega)
 have e1 : ∀ j ob, H[j]? = some ob → (∀ z xs ep w, ob ≠ .row z xs ep w) → j ≠ n + 2 → H2[j]? = some ob := fun j ob hj hn hne => by
  have hlj := (List.getElem?_eq_some_iff.1 hj).1
  rw [hrest j (by omega) (hv.ne hj hn), hH1, List.getElem?_append_left (by omega), bj j hne]
  exact hj
 have e5 : H2[n + 2]? = some (.loop .busy none env [7] (.region zZl.r2) zZl.b4 (n + 1)) := by
  rw [hrest (n + 2) (by omega) (hv.ne h5 (fun _ _ _ _ h => by cases h)), hH1, List.getElem?_append_left (by omega)]
  exact o5
 have e3 := e1 n _ h3 (fun _ _ _ _ h => by cases h) (by omega)
 have st := store1 e3 hv2.cell.2 hv2.cell.1
 obtain ⟨H3, hH3⟩ : ∃ H3, H3 = H2.set n (.cells [v']) := ⟨_, rfl⟩
 have lt3 := (List.getElem?_eq_some_iff.1 e3).1
 have ev5 : eget env1 5 = .int .i64 x := by rw [henv1]; simp [he]
 have ev2 : eget env1 2 = .ptr n 0 := by rw [henv1]; simpa using k2
 have el : env1.length = 13 := by rw [henv1]; simpa using he
 have m5 : H3[n + 2]? = some (.loop .busy none env [7] (.region zZl.r2) zZl.b4 (n + 1)) := by rw [hH3, List.getElem?_set_ne (by omega)]; exact e5
 have hA : WK (callW Φ) (some (n + 2)) (fun e s => e = .normal ∧ s = { env := env1, marks := [], heap := H }) [.c (.region zZl.r2)] { env := setMany env [7] [.int .i64 x], marks := [], heap := H } := by
  simp [zZl.r2, setMany, he, henv1]
 have hB : WK (callW Φ) (some (n + 2)) (fun e s => e = .normal ∧ s.heap = H3) [.c zZl.b4] { env := env1, marks := [], heap := Hb } := by
  have c3 := cells1 b3
  have hbs : evBslice Hb [V.int IntKind.i64 0] 1 1 [(0, V.int IntKind.i64 x)] = some (.sl Hb.length 0 0 1, H1) := by rw [hH1]; simp [evBslice, placeParts, cI, chunks, setRange, V.cells, V.isCell]
  have okv : okCells Hb none (some [v]) = some (v, Hb) := rfl
  simp [zZl.b4, zZl.r3, ev5, ev2, el, c3, hbs, happ, st, hH3]
 obtain ⟨e, s2, env2, ps2, asg2, body2, df2, hq, ⟨st2, pend2, ho2⟩, hc⟩ := yield_k (first := []) (caps := []) h5 rfl hA (s1 := { env := env1, marks := [], heap := H }) h5 (by rw [← hHb]; exact hB) (fun e s2 hq => ⟨_, _, _, _, _, _, _, by rw [hq.2]; exact m5⟩)
 obtain ⟨rfl, hs⟩ := hq
 rw [hs, m5] at ho2
 cases ho2
 rw [hs] at hc
 have hl3 : H3.length = H2.length := by rw [hH3]; simp
 have f1 : ∀ j ob, H[j]? = some ob → (∀ z xs ep w, ob ≠ .row z xs ep w) → j ≠ n + 2 → j ≠ n → (H3.set (n + 2) (aLp env n))[j]? = some ob := fun j ob hj hn h1 h2 => by
  rw [List.getElem?_set_ne (Ne.symm h1), hH3, List.getElem?_set_ne (Ne.symm h2)]
  exact e1 j ob hj hn h1
 refine ⟨_, hc, ⟨f1 _ _ h4 (fun _ _ _ _ h => by cases h) (by omega) (by omega), by rw [List.getElem?_set_self (by omega)], v', o', ?_, ?_, ?_⟩, ?_, ?_⟩
 ·rw [List.getElem?_set_ne (by omega), hH3, List.getElem?_set_self lt3]
 ·have : (p ++ [x]).map cI = p.map cI ++ [cI x] := by simp
  rw [this]
  refine hv2.mono fun id hid => ?_
  have n1 := hv2.ne e5 (fun _ _ _ _ h => by cases h)
  have n2 := hv2.ne e3 (fun _ _ _ _ h => by cases h)
  rw [List.getElem?_set_ne (fun e => n1 (by rw [hid, e])), hH3, List.getElem?_set_ne (fun e => n2 (by rw [hid, e]))]
 ·intro id hid
  rcases hnew id hid with h | h
  ·exact ho id h
  ·omega
 ·simp; omega
 ·intro j cs hj hc
  by_cases h : j = n + 2
  ·subst h; rw [h5] at hc; cases hc
  ·exact f1 j _ hc (fun _ _ _ _ h => by cases h) h hj
end Go.Proofs.It
