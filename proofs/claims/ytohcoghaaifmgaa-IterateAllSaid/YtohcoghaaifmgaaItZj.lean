/- Going up; which node is above which. Which node is above which: the program's answer. No conditions. -/
import Derived.Test.YtohcoghaaifmgaaItZg
import Derived.Test.YtohcoghaaifmgaaItZa
import Derived.Test.YtohcoghaaifmgaaItZh
set_option maxHeartbeats 16000000
set_option maxRecDepth 100000
set_option linter.unusedVariables false
set_option linter.unusedSimpArgs false
set_option linter.unusedSectionVars false
namespace Go.Proofs.It
open Go Go.Ev
theorem call_xc {f : FuncId} {cf : Cf} (hf : Φ f = some cf) (hp : cf.pure = false) {caps args : List V} {h : Heap} {P : V → Heap → Prop} (hn : (args ++ caps).length ≤ cf.ntmps)
  (hw : ∀ env : List V, env.length = cf.ntmps → (∀ i, i < (args ++ caps).length → eget env i = eget (args ++ caps) i) → WK (callW Φ) none (FinX cf.results P) [.c cf.body] { env := env, marks := [], heap := h }) :
  ∃ r h', callW Φ (.fn (.func f) [] caps) args h = some (r, h') ∧ P r h' := by
 obtain ⟨r, h', h1, h2⟩ := vZv (call := callW Φ) (cf := cf) (P := P) hn hw
 refine ⟨r, h', kZU hf hp ?_, h2⟩
 simpa using h1
theorem cells1 {H : Heap} {o : Nat} {c : V} (h : H[o]? = some (.cells [c])) : cellsAt H (.ptr o 0) = some [c] := by simp [cellsAt, h]
theorem store1 {H : Heap} {o : Nat} {c x : V} (h : H[o]? = some (.cells [c])) (hc : x.cells = [x]) (hi : x.isCell = true) : evStoreV H 1 (.ptr o 0) x = some (V.non, H.set o (.cells [x])) := by
 simp [evStoreV, hc, hi, evStore, h, setRange]
abbrev cF (f : List Nd) : Ob := .cells [.arr (f.map cN)]
theorem up_run {f : List Nd} (hl : f.length < 2 ^ 50) {y : V} {oh of_ : Nat} (hne : oh ≠ of_) (J : List Int → Heap → Prop) (E : Heap → Prop) {d : Nat} {h : Int} (hd : Dep f h d)
  (step : ∀ p x H, x ∈ ups f d h → J p H → H[of_]? = some (cF f) → H[oh]? = some (.cells [.int .i64 x]) →
   ∃ b H', callW Φ y [.int .i64 x] H = some (.bool b, H') ∧ (b = true → J (p ++ [x]) H' ∧ H'[of_]? = H[of_]? ∧ H'[oh]? = H[oh]?) ∧ (b = false → E H'))
  (hset : ∀ p H z, J p H → J p (H.set oh (.cells [.int .i64 z]))) {H0 : Heap} (h0 : J [] H0) (hf0 : H0[of_]? = some (cF f)) (hh0 : H0[oh]? = some (.cells [.int .i64 h])) :
  ∃ H', callW Φ (.fn (.func zZW.k) [] [.ptr oh 0, .ptr of_ 0]) [y] H0 = some (.tup [], H') ∧ (J (ups f d h) H' ∨ E H') := by
 obtain ⟨P, hP⟩ : ∃ P : V → Heap → Prop, P = fun r H' => r = .tup [] ∧ (J (ups f d h) H' ∨ E H') := ⟨_, rfl⟩
 suffices hgo : ∃ r h', callW Φ (.fn (.func zZW.k) [] [.ptr oh 0, .ptr of_ 0]) [y] H0 = some (r, h') ∧ P r h' by
  obtain ⟨r, h', h1, h2⟩ := hgo
  rw [hP] at h2
  obtain ⟨rfl, h3⟩ := h2
  exact ⟨h', h1, h3⟩
 have hPJ : ∀ H', J (ups f d h) H' → P (.tup []) H' := fun H' q => by rw [hP]; exact ⟨rfl, .inl q⟩
 have hPE : ∀ H', E H' → P (.tup []) H' := fun H' q => by rw [hP]; exact ⟨rfl, .inr q⟩
 clear hP
 refine call_xc zZW.Φ rfl (Nat.le_of_ble_eq_true rfl) (fun env he g => ?_)
 have g0 := g 0 (by simp)
 have g1 := g 1 (by simp)
 have g2 := g 2 (by simp)
 change eget env 0 = y at g0
 change eget env 1 = .ptr oh 0 at g1
 change eget env 2 = .ptr of_ 0 at g2
 clear g
 simp [zZW.c] at he
 simp [zZW.c]
 refine kLoop (fun m s => ∃ (p : List Int) (x : Int), Dep f x m ∧ p ++ ups f m x = ups f d h ∧ J p s.heap ∧ s.heap[of_]? = some (cF f) ∧ s.heap[oh]? = some (.cells [.int .i64 x]) ∧ s.env.length = 14 ∧ eget s.env 0 = y ∧ eget s.env 1 = .ptr oh 0 ∧ eget s.env 2 = .ptr of_ 0 ∧ s.marks = []) d
  ⟨[], h, hd, rfl, h0, hf0, hh0, he, g0, g1, g2, rfl⟩ ?_
 rintro m ⟨e, mk, hp⟩ ⟨p, x, hdx, hpx, hJ, hf, hh, he, k0, k1, k2, hm⟩
 simp only at hJ hf hh he k0 k1 k2 hm
 obtain rfl := hm
 have c1 := cells1 hh
 cases hdx with
 | nil =>
  simp only [ups, List.append_nil] at hpx
  rw [hpx] at hJ
  simp [zZW.b3, zZW.r0, k1, he, c1, hPJ _ hJ]
 | @up _ m hi hup =>
  have hx0 : (x != 0) = true := by rw [bne_iff_ne]; rintro rfl; rw [is0] at hi; cases hi
  have hxm : x ∈ ups f d h := by rw [← hpx]; simp [ups]
  obtain ⟨b, H1, hc, h1, h2⟩ := step p x hp hxm hJ hf hh
  cases b with
  | false =>
   have := hPE _ (h2 rfl)
   simp [zZW.b3, zZW.r0, zZW.r1, k0, k1, k2, he, c1, hx0, hc, this]
  | true =>
   obtain ⟨hJ1, hf1, hh1⟩ := h1 rfl
   rw [hf] at hf1
   rw [hh] at hh1
   have cf1 : cellsAt H1 (.ptr of_ 0) = some [.arr (f.map cN)] := by simp [cellsAt, hf1]
   have ch1 := cells1 hh1
   have hA := vZx f x hl H1
   have hS := fun z => store1 (x := .int .i64 z) hh1 rfl rfl
   have hF8 : ∀ H, evField H 8 none (.agg (cN (at_ f x))) = some (.int .i64 (par f x), H) := fun _ => rfl
   simp only [eF, eN] at hA
   have hl1 := (List.getElem?_eq_some_iff.1 hh1).1
   simp [zZW.b3, zZW.r0, zZW.r1, zZW.r2, k0, k1, k2, he, c1, hx0, hc, cf1, ch1, hA, hF8, hS, ofCells]
   refine ⟨m, by omega, p ++ [x], par f x, hup, by rw [← hpx]; simp [ups], hset _ _ _ hJ1, ?_, ?_⟩
   ·rw [List.getElem?_set_ne hne]; exact hf1
   ·rw [List.getElem?_set_self hl1]
open Go Go.Ev
theorem kZA (f : List Nd) (h : Int) (H : Heap) : callW Φ qZC [eF f, .int .i64 h] H = some (.fn (.func zZW.k) [] [.ptr (H.length + 1) 0, .ptr H.length 0], H ++ [cF f, .cells [.int .i64 h]]) := by
 obtain ⟨P, hP⟩ : ∃ P : V → Heap → Prop, P = fun r h' => r = .fn (.func zZW.k) [] [.ptr (H.length + 1) 0, .ptr H.length 0] ∧ h' = H ++ [cF f, .cells [.int .i64 h]] := ⟨_, rfl⟩
 suffices hgo : ∃ r h', callW Φ qZC [eF f, .int .i64 h] H = some (r, h') ∧ P r h' by
  obtain ⟨r, h', h1, h2⟩ := hgo
  rw [hP] at h2
  obtain ⟨rfl, rfl⟩ := h2
  exact h1
 refine call_x qZC.Φ rfl (Nat.le_of_ble_eq_true rfl) (fun env he g => ?_)
 have g0 := g 0 (by simp)
 have g1 := g 1 (by simp)
 change eget env 0 = .agg [.arr (f.map cN)] at g0
 change eget env 1 = .int .i64 h at g1
 clear g
 simp [qZC.c] at he
 have hcc : (V.agg [V.arr (f.map cN)]).cells = [.arr (f.map cN)] := rfl
 have hci : (V.int .i64 h).cells = [.int .i64 h] := rfl
 have hb1 : evBox H [.arr (f.map cN)] = some (.ptr H.length 0, H ++ [cF f]) := by simp [evBox, V.isCell, qZB]
 have hb2 : evBox (H ++ [cF f]) [.int .i64 h] = some (.ptr (H.length + 1) 0, H ++ [cF f, .cells [.int .i64 h]]) := by simp [evBox, V.isCell, qZB]
 simp [qZC.c, qZC.r0, qZC.r1, g0, g1, he, hcc, hci, hb1, hb2, hP, zZW.k]
abbrev hLp (env : List V) : Ob := .loop .ready none env [11] (.region zZR.r2) zZR.b5 5
theorem holds_round {a x : Int} {H : Heap} {env : List V} (ho : H[6]? = some (hLp env)) (he : env.length = 15) (k4 : eget env 4 = .ptr 1 0) (k6 : eget env 6 = .ptr 2 0) (c1 : H[1]? = some (.cells [.int .i64 a])) (c2 : H[2]? = some (.cells [.bool false])) :
  ∃ H', callW Φ (.fn (.yield 6) [] []) [.int .i64 x] H = some (.bool (!(x == a)), H') ∧ H'[6]? = some (.loop (if x == a then .done else .ready) (if x == a then some .ret else none) env [11] (.region zZR.r2) zZR.b5 5) ∧
   H'[2]? = some (.cells [.bool (x == a)]) ∧ ∀ j, j ≠ 6 → j ≠ 2 → H'[j]? = H[j]? := by
 have l6 := (List.getElem?_eq_some_iff.1 ho).1
 obtain ⟨env1, henv1⟩ : ∃ env1, env1 = (env.set 11 (.int .i64 x)).set 7 (.int .i64 x) := ⟨_, rfl⟩
 obtain ⟨Hb, hHb⟩ : ∃ Hb, Hb = H.set 6 (.loop .busy none env [11] (.region zZR.r2) zZR.b5 5) := ⟨_, rfl⟩
 have o6 : Hb[6]? = some (.loop .busy none env [11] (.region zZR.r2) zZR.b5 5) := by rw [hHb, List.getElem?_set_self l6]
 have b1 : Hb[1]? = some (.cells [.int .i64 a]) := by rw [hHb, List.getElem?_set_ne (by decide)]; exact c1
 have b2 : Hb[2]? = some (.cells [.bool false]) := by rw [hHb, List.getElem?_set_ne (by decide)]; exact c2
 have bj : ∀ j, j ≠ 6 → Hb[j]? = H[j]? := fun j hj => by rw [hHb, List.getElem?_set_ne (Ne.symm hj)]
 have lb2 := (List.getElem?_eq_some_iff.1 b2).1
 have lb6 := (List.getElem?_eq_some_iff.1 o6).1
 have e7 : eget env1 7 = .int .i64 x := by rw [henv1]; simp [he]
 have e4 : eget env1 4 = .ptr 1 0 := by rw [henv1]; simpa using k4
 have e6 : eget env1 6 = .ptr 2 0 := by rw [henv1]; simpa using k6
 have el : env1.length = 15 := by rw [henv1]; simpa using he
 have hA : WK (callW Φ) (some 6) (fun e s => e = .normal ∧ s = { env := env1, marks := [], heap := H }) [.c (.region zZR.r2)] { env := setMany env [11] [.int .i64 x], marks := [], heap := H } := by
  simp [zZR.r2, setMany, he, henv1]
 have hB : WK (callW Φ) (some 6) (fun e s => e = (if x == a then .ret else .normal) ∧ s.heap = (if x == a then Hb.set 2 (.cells [.bool true]) else Hb)) [.c zZR.b5] { env := env1, marks := [], heap := Hb } := by
  have cc1 := cells1 b1
  have st := store1 (x := .bool true) b2 rfl rfl
  by_cases e : x = a
  ·simp [zZR.b5, zZR.r3, zZR.r4, e7, e4, e6, el, cc1, e, st]
  ·have eb : (x == a) = false := by simpa using e
   simp [zZR.b5, zZR.r3, zZR.r4, e7, e4, e6, el, cc1, e, eb, st]
 obtain ⟨e, s2, env2, ps2, asg2, body2, df2, hq, ⟨st2, pend2, ho2⟩, hc⟩ := yield_k (first := []) (caps := []) ho rfl hA (s1 := { env := env1, marks := [], heap := H }) ho (by rw [← hHb]; exact hB) (fun e s2 hq => by
  obtain ⟨_, hs⟩ := hq
  refine ⟨.busy, none, env, [11], .region zZR.r2, zZR.b5, 5, ?_⟩
  rw [hs]
  split
  ·rw [List.getElem?_set_ne (by decide)]; exact o6
  ·exact o6)
 obtain ⟨rfl, hs⟩ := hq
 have l6' : 6 < s2.heap.length := (List.getElem?_eq_some_iff.1 ho2).1
 have ho2' : s2.heap[6]? = some (.loop .busy none env [11] (.region zZR.r2) zZR.b5 5) := by
  rw [hs]
  split
  ·rw [List.getElem?_set_ne (by decide)]; exact o6
  ·exact o6
 rw [ho2] at ho2'
 cases ho2'
 cases hx : x == a with
 | true =>
  rw [hx] at hc hs
  simp only [if_true] at hc hs
  refine ⟨_, hc, ?_, ?_, ?_⟩
  ·rw [List.getElem?_set_self l6']; rfl
  ·rw [List.getElem?_set_ne (by decide), hs, List.getElem?_set_self lb2]
  ·intro j h6 h2
   rw [List.getElem?_set_ne (Ne.symm h6), hs, List.getElem?_set_ne (Ne.symm h2), bj j h6]
 | false =>
  rw [hx] at hc hs
  simp only [Bool.false_eq_true, if_false] at hc hs
  refine ⟨_, hc, ?_, ?_, ?_⟩
  ·rw [List.getElem?_set_self l6']; rfl
  ·rw [List.getElem?_set_ne (by decide), hs, b2]
  ·intro j h6 h2
   rw [List.getElem?_set_ne (Ne.symm h6), hs, bj j h6]
theorem xZw (f : List Nd) (hl : f.length < 2 ^ 50) (a b : Int) (d : Nat) (hd : Dep f b d) (H : Heap) : callW Φ zZR [eF f, .int .i64 a, .int .i64 b] H = some (.bool ((ups f d b).contains a), H) := by
 have : ∃ hh, evBodyW (callW Φ) zZR.c [eF f, .int .i64 a, .int .i64 b] [] = some (.bool ((ups f d b).contains a), hh) := by
  have hcc : (V.agg [V.arr (f.map cN)]).cells = [.arr (f.map cN)] := rfl
  have hci : (V.int .i64 a).cells = [.int .i64 a] := rfl
  obtain ⟨K0, hK0⟩ : ∃ K0 : Heap, K0 = [cF f] := ⟨_, rfl⟩
  obtain ⟨K1, hK1⟩ : ∃ K1 : Heap, K1 = [cF f, .cells [.int .i64 a]] := ⟨_, rfl⟩
  obtain ⟨K2, hK2⟩ : ∃ K2 : Heap, K2 = [cF f, .cells [.int .i64 a], .cells [.bool false]] := ⟨_, rfl⟩
  obtain ⟨K3, hK3⟩ : ∃ K3 : Heap, K3 = [cF f, .cells [.int .i64 a], .cells [.bool false], cF f, .cells [.int .i64 b]] := ⟨_, rfl⟩
  have hb1 : evBox [] [.arr (f.map cN)] = some (.ptr 0 0, K0) := by rw [hK0]; simp [evBox, V.isCell, qZB]
  have hb2 : evBox K0 [.int .i64 a] = some (.ptr 1 0, K1) := by rw [hK0, hK1]; simp [evBox, V.isCell, qZB]
  have hb3 : K1 ++ [.cells [.bool false]] = K2 := by rw [hK1, hK2]; rfl
  have l1 : K1.length = 2 := by rw [hK1]; rfl
  have l3 : K3.length = 5 := by rw [hK3]; rfl
  have hU : callW Φ qZC [.agg [.arr (f.map cN)], .int .i64 b] K2 = some (.fn (.func zZW.k) [] [.ptr 4 0, .ptr 3 0], K3) := by
   have := kZA f b K2
   simp only [eF] at this
   rw [this, hK2, hK3]
   rfl
  have c2 : cellsAt K2 (.ptr 0 0) = some [.arr (f.map cN)] := by rw [hK2]; rfl
  refine qZE (Nat.le_of_ble_eq_true rfl) (fun env he h0 => ?_)
  have g0 := h0 0 (by simp)
  change eget env 0 = .agg [.arr (f.map cN)] at g0
  have g1 := h0 1 (by simp)
  change eget env 1 = .int .i64 a at g1
  have g2 := h0 2 (by simp)
  change eget env 2 = .int .i64 b at g2
  clear h0
  simp [zZR.c] at he
  simp [zZR.c, zZR.r0, zZR.r1, g0, g1, g2, he, hcc, hci, hb1, hb2, hb3, l1, hU, c2, ofCells]
  obtain ⟨env1, henv1⟩ : ∃ env1, env1 = (((((((env.set 3 (V.ptr 0 0)).set 4 (V.ptr 1 0)).set 6 (V.ptr 2 0)).set 8 (V.agg [V.arr (f.map cN)])).set 9 (V.int .i64 b)).set 10 (V.fn (.func zZW.k) [] [V.ptr 4 0, V.ptr 3 0]))) := ⟨_, rfl⟩
  simp only [zZW.k] at henv1
  rw [← henv1]
  have el : env1.length = 15 := by rw [henv1]; simpa using he
  have k4 : eget env1 4 = .ptr 1 0 := by rw [henv1]; simp [he]
  have k6 : eget env1 6 = .ptr 2 0 := by rw [henv1]; simp [he]
  have k10 : eget env1 10 = .fn (.func zZW.k) [] [.ptr 4 0, .ptr 3 0] := by rw [henv1]; simp [he]
  obtain ⟨K, hK⟩ : ∃ K : Heap, K = K3 ++ [Ob.defr false, hLp env1] := ⟨_, rfl⟩
  have q1 : K[1]? = some (.cells [.int .i64 a]) := by rw [hK, hK3]; rfl
  have q2 : K[2]? = some (.cells [.bool false]) := by rw [hK, hK3]; rfl
  have q3 : K[3]? = some (cF f) := by rw [hK, hK3]; rfl
  have q4 : K[4]? = some (.cells [.int .i64 b]) := by rw [hK, hK3]; rfl
  have q5 : K[5]? = some (.defr false) := by rw [hK, hK3]; rfl
  have q6 : K[6]? = some (hLp env1) := by rw [hK, hK3]; rfl
  obtain ⟨H', hc, hJ⟩ := up_run hl (y := .fn (.yield 6) [] []) (oh := 4) (of_ := 3) (by decide)
   (fun p H => H[1]? = some (.cells [.int .i64 a]) ∧ H[2]? = some (.cells [.bool false]) ∧ H[5]? = some (.defr false) ∧ H[6]? = some (hLp env1) ∧ ∀ x ∈ p, x ≠ a)
   (fun H => H[2]? = some (.cells [.bool true]) ∧ H[5]? = some (.defr false) ∧ H[6]? = some (.loop .done (some .ret) env1 [11] (.region zZR.r2) zZR.b5 5) ∧ a ∈ ups f d b) hd
   (fun p x H hx ⟨j1, j2, j5, j6, jp⟩ hf hh => by
    obtain ⟨H', h1, h2, h3, h4⟩ := holds_round (x := x) j6 el k4 k6 j1 j2
    refine ⟨_, H', h1, fun hb => ?_, fun hb => ?_⟩
    ·have e : (x == a) = false := by simpa using hb
     rw [e] at h2 h3
     refine ⟨⟨by rw [h4 1 (by decide) (by decide)]; exact j1, h3, by rw [h4 5 (by decide) (by decide)]; exact j5, h2, ?_⟩, h4 3 (by decide) (by decide), h4 4 (by decide) (by decide)⟩
     intro y hy
     rcases List.mem_append.1 hy with hy | hy
     ·exact jp y hy
     ·rw [List.mem_singleton] at hy
      subst hy
      simpa using e
    ·have e : (x == a) = true := by simpa using hb
     rw [e] at h2 h3
     have : x = a := by simpa using e
     exact ⟨h3, by rw [h4 5 (by decide) (by decide)]; exact j5, h2, this ▸ hx⟩)
   (fun p H z ⟨j1, j2, j5, j6, jp⟩ => ⟨by rw [List.getElem?_set_ne (by decide)]; exact j1, by rw [List.getElem?_set_ne (by decide)]; exact j2, by rw [List.getElem?_set_ne (by decide)]; exact j5, by rw [List.getElem?_set_ne (by decide)]; exact j6, jp⟩)
   (H0 := K) ⟨q1, q2, q5, q6, fun x hx => by cases hx⟩ q3 q4
  have hK' : K = K3 ++ [Ob.defr false, Ob.loop .ready none env1 [11] (Cc.region zZR.r2) zZR.b5 K3.length] := by rw [hK, l3]
  rw [hK', show (6 : Nat) = K3.length + 1 by rw [l3]] at hc
  rcases hJ with ⟨j1, j2, j5, j6, jp⟩ | ⟨j2, j5, j6, jp⟩
  ·have hni : ¬ a ∈ ups f d b := fun h => jp a h rfl
   have l6 := (List.getElem?_eq_some_iff.1 j6).1
   refine kRfunc (by simp only [Od.ev]; exact k10) hc (st := .ready) (pend := none) (e' := env1) (p' := [11]) (a' := .region zZR.r2) (b' := zZR.b5) (d' := 5) (by rw [l3]; exact j6) (by decide) ?_
   obtain ⟨H2, hH2⟩ : ∃ H2, H2 = H'.set (K3.length + 1) .dead := ⟨_, rfl⟩
   have m2 : H2[2]? = some (.cells [.bool false]) := by rw [hH2, l3, List.getElem?_set_ne (by decide)]; exact j2
   have m5 : H2[5]? = some (.defr false) := by rw [hH2, l3, List.getElem?_set_ne (by decide)]; exact j5
   rw [← hH2, l3]
   have st := store1 (x := .bool false) m2 rfl rfl
   have m5' : (H2.set 2 (.cells [.bool false]))[5]? = some (.defr false) := by rw [List.getElem?_set_ne (by decide)]; exact m5
   have lm := (List.getElem?_eq_some_iff.1 m2).1
   simp [zZR.r6, k6, st, takeMarks, m5', cellsAt, lm, ofCells, hni, List.getElem?_set]
  ·refine kRfunc (by simp only [Od.ev]; exact k10) hc (st := .done) (pend := some .ret) (e' := env1) (p' := [11]) (a' := .region zZR.r2) (b' := zZR.b5) (d' := 5) (by rw [l3]; exact j6) (by decide) ?_
   obtain ⟨H2, hH2⟩ : ∃ H2, H2 = H'.set (K3.length + 1) .dead := ⟨_, rfl⟩
   have m2 : H2[2]? = some (.cells [.bool true]) := by rw [hH2, l3, List.getElem?_set_ne (by decide)]; exact j2
   have m5 : H2[5]? = some (.defr false) := by rw [hH2, l3, List.getElem?_set_ne (by decide)]; exact j5
   rw [← hH2, l3]
   have lm := (List.getElem?_eq_some_iff.1 m2).1
   simp [k6, takeMarks, m5, m2, cellsAt, ofCells, jp, List.getElem?_set]
 obtain ⟨h', hb⟩ := this
 exact zZQ (h := H) zZR.Φ rfl (args := [eF f, .int .i64 a, .int .i64 b]) rfl hb rfl
end Go.Proofs.It
