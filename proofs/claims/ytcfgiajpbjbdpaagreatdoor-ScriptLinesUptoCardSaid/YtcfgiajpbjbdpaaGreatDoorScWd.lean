/- The book's texts: a command's lists. The book's texts: a field, a command's line. No conditions. -/
import Derived.Test.YtcfgiajpbjbdpaaGreatDoorScWa
set_option maxHeartbeats 16000000
set_option maxRecDepth 100000
set_option linter.unusedVariables false
set_option linter.unusedSimpArgs false
set_option linter.unusedSectionVars false
namespace Go.Proofs.Sc
open Go Go.Ev
theorem eqn8 {f : Nat} {n : Nat} (x : Bool) (h : x = (f == n)) : ((f : Int) == (n : Int)) = x := by
 subst h
 by_cases h : f = n
 ·subst h; simp
 ·have : (f == n) = false := by simpa using h
  rw [this]; simp; omega
theorem xZ3 (H : Heap) (v : V) (o : Option Nat) (l : Bs) (c : Cmd) (f : UInt8) (hf : f = 68 ∨ f = 76 ∨ f = 75 ∨ f = 89) (z : SzL c) (hv : VL H 1 v o (l.map cB)) (hlen : l.length ≤ 2 ^ 40) : ∃ r h', callW Φ (.fn (.func zZr.k) [] []) [v, .agg (cC c), .int .u8 f.toNat] H = some (r, h') ∧ (fun r h' => AP H o (l ++ wf f c) r h') r h' := by
 obtain ⟨P, hP⟩ : ∃ P : V → Heap → Prop, P = fun r h' => AP H o (l ++ wf f c) r h' := ⟨_, rfl⟩
 suffices hgo : ∃ r h', callW Φ (.fn (.func zZr.k) [] []) [v, .agg (cC c), .int .u8 f.toNat] H = some (r, h') ∧ P r h' by rw [hP] at hgo; exact hgo
 have hPi : ∀ r h', (fun r h' => AP H o (l ++ wf f c) r h') r h' → P r h' := fun r h' q => by rw [hP]; exact q
 clear hP
 refine kZY zZr.Φ rfl (Nat.le_of_ble_eq_true rfl) (fun env he h0 => ?_)
 have g0 := h0 0 (by simp)
 change eget env 0 = v at g0
 have g1 := h0 1 (by simp)
 change eget env 1 = .agg (cC c) at g1
 have g2 := h0 2 (by simp)
 change eget env 2 = .int .u8 f.toNat at g2
 clear h0
 simp [zZr.c] at he
 have hcc : (V.agg (cC c)).cells = cC c := rfl
 have b0 : evBox H (cC c) = some (.ptr H.length 0, H ++ [.cells (cC c)]) := jZU H _ (by simp [V.isCell])
 obtain ⟨z1, z2, z3⟩ := id z
 unfold bulk at z3
 obtain ⟨G, hG⟩ : ∃ G, G = H ++ [.cells (cC c)] := ⟨_, rfl⟩
 rw [← hG] at b0
 have hGc : G[H.length]? = some (.cells (cC c)) := by rw [hG]; simp
 have hvG : VL G 1 v o (l.map cB) := by rw [hG]; exact hv.push _
 have hA := AP.refl hvG
 have back : ∀ {l2 : Bs} {r : V} {h2 : Heap}, AP G o l2 r h2 → AP H o l2 r h2 := fun h => AP.trans (H := H) (H1 := G) (o1 := o) (by rw [hG]; simp) (fun j hj _ => by rw [hG, List.getElem?_append_left hj]) (fun id h => .inl h) h
 have cAt : ∀ {l2 : Bs} {r : V} {h2 : Heap}, AP G o l2 r h2 → ∀ off, cellsAt h2 (.ptr H.length off) = some ((cC c).drop off) := fun h off => vZ5 (AP.cell hvG h hGc) off
 have b34 := fun H : Heap => bs1 H (.int .u8 0) (.int .u8 34) ⟨rfl, rfl⟩
 have b32 := fun H : Heap => bs1 H (.int .u8 0) (.int .u8 32) ⟨rfl, rfl⟩
 have b91 := fun H : Heap => bs1 H (.int .u8 0) (.int .u8 91) ⟨rfl, rfl⟩
 have b93 := fun H : Heap => bs1 H (.int .u8 0) (.int .u8 93) ⟨rfl, rfl⟩
 have add1 : ∀ {l2 : Bs} {w : V} {h2 : Heap} (b : UInt8), AP G o l2 w h2 → l2.length ≤ 2 ^ 45 → ∃ w' H3, evApp (h2 ++ [.row 1 [[.int .u8 b.toNat]] 0 true]) 1 1 w (.sl h2.length 0 0 1) = some (w', H3) ∧ AP G o (l2 ++ [b]) w' H3 := fun b h hl => by
  obtain ⟨w', H3, h1, h2⟩ := h.add [b] (by simp; omega)
  exact ⟨w', H3, h1, h2⟩
 have q34 : (((34 : UInt8).toNat : Nat) : Int) = 34 := rfl
 have q32 : (((32 : UInt8).toNat : Nat) : Int) = 32 := rfl
 have q91 : (((91 : UInt8).toNat : Nat) : Int) = 91 := rfl
 have q93 : (((93 : UInt8).toNat : Nat) : Int) = 93 := rfl
 rcases hf with rfl | rfl | rfl | rfl
 ·have f68 : (((68 : UInt8).toNat : Nat) : Int) = 68 := rfl
  rw [f68] at g2
  obtain ⟨v1, H1, ha, hA1⟩ := add1 34 hA (by omega)
  rw [q34] at ha
  simp [zZr.c, zZr.r0, zZr.r1, zZr.r2, zZr.r3, zZr.r4, g0, g1, g2, he, hcc, b0, b34, ha]
  obtain ⟨I, hI⟩ : ∃ I : Nat → St → Prop, I = fun m st => ∃ (i : Nat) (w : V), m = c.data.length - i ∧ i ≤ c.data.length ∧ (eget st.env 0 = w ∧ eget st.env 4 = .ptr H.length 0 ∧ eget st.env 7 = .int .i64 i ∧ st.env.length = 94) ∧ st.marks = [] ∧ AP G o (l ++ [34] ++ (c.data.take i).flatMap (q1 4 117)) w st.heap := ⟨_, rfl⟩
  refine kLoop I c.data.length (by rw [hI]; exact ⟨0, v1, rfl, by omega, ⟨by simp [he], by simp [he], by simp [he], by simpa using he⟩, rfl, by simpa using hA1⟩) ?_
  rintro m ⟨env, mk, Hh⟩ hst
  rw [hI] at hst
  obtain ⟨i, w, rfl, hi, ⟨k0, k4, k7, hl⟩, hm, hAP⟩ := hst
  simp only at k0 k4 k7 hl hm hAP
  obtain rfl := hm
  have hql : ((c.data.take i).flatMap (q1 4 117)).length ≤ 6 * c.data.length := by
   have h1 := xZp (k := 4) (by omega) 117 (c.data.take i)
   rw [List.length_take] at h1
   omega
  have hc0 := cAt hAP
  by_cases cd : i < c.data.length
  ·obtain ⟨u, hu⟩ : ∃ u, c.data[i]? = some u := ⟨_, List.getElem?_eq_getElem cd⟩
   have hu2 := z2.2.2.2.2.2.1 u (List.mem_of_getElem? hu)
   have ia := zYal (h := Hh) (k := .i64) hu
   have wr := wrap64 (n := (i : Int) + 1) (by omega) (by omega)
   obtain ⟨o1, a1, a2, a3, a4⟩ := hAP
   obtain ⟨r, H3, hc, hA3⟩ := zYan Hh w o1 _ u 4 117 hu2 (by omega) a1 (by simp only [List.length_append, List.length_cons, List.length_nil]; omega)
   have hA4 := AP.trans a2 a3 a4 hA3
   have e4 : (((4 : Nat)) : Int) = 4 := rfl
   simp only [q117, e4] at hc
   simp only [zZr.b8]
   simp [zZr.r5, zZr.r6, zZr.r7, k0, k4, k7, hl, hc0, vZi, cd, ia, cU, hc, wr]
   refine ⟨c.data.length - (i + 1), by omega, ?_⟩
   rw [hI]
   refine ⟨i + 1, r, rfl, by omega, ⟨by simp [hl], by simp [k4], by simp [hl], by simp [hl]⟩, rfl, ?_⟩
   rw [flat_take _ _ hu, ← List.append_assoc]
   exact hA4
  ·have hie : i = c.data.length := by omega
   rw [hie, List.take_length] at hAP hql
   obtain ⟨r, H3, ha3, hA3⟩ := add1 34 hAP (by simp only [List.length_append, List.length_cons, List.length_nil]; omega)
   rw [q34] at ha3
   have hf := hPi r H3 (back (by
    show AP G o (l ++ quoteU 4 117 c.data) r H3
    simpa [quoteU] using hA3))
   have cI : ¬ (i : Int) < c.data.length := by omega
   simp only [zZr.b8]
   simp [zZr.r5, zZr.r9, k0, k4, k7, hl, hc0, vZi, cd, cI, b34, ha3, hf]
 ·have f76 : (((76 : UInt8).toNat : Nat) : Int) = 76 := rfl
  rw [f76] at g2
  obtain ⟨v1, H1, ha, hA1⟩ := add1 91 hA (by omega)
  rw [q91] at ha
  simp [zZr.c, zZr.r0, zZr.r1, zZr.r2, zZr.r10, zZr.r11, zZr.r12, g0, g1, g2, he, hcc, b0, b91, ha]
  obtain ⟨I, hI⟩ : ∃ I : Nat → St → Prop, I = fun m st => ∃ (i : Nat) (w : V), m = c.list.length - i ∧ i ≤ c.list.length ∧ (eget st.env 0 = w ∧ eget st.env 4 = .ptr H.length 0 ∧ eget st.env 8 = .int .i64 i ∧ st.env.length = 94) ∧ st.marks = [] ∧ AP G o (l ++ [91] ++ jn ((c.list.take i).map itoa)) w st.heap := ⟨_, rfl⟩
  refine kLoop I c.list.length (by rw [hI]; exact ⟨0, v1, rfl, by omega, ⟨by simp [he], by simp [he], by simp [he], by simpa using he⟩, rfl, by simpa [jn] using hA1⟩) ?_
  rintro m ⟨env, mk, Hh⟩ hst
  rw [hI] at hst
  obtain ⟨i, w, rfl, hi, ⟨k0, k4, k8, hl⟩, hm, hAP⟩ := hst
  simp only at k0 k4 k8 hl hm hAP
  obtain rfl := hm
  have hql : (jn ((c.list.take i).map itoa)).length ≤ c.list.length * 21 := by
   have h1 := jn_len (l := (c.list.take i).map itoa) (B := 20) fun x hx => by
    obtain ⟨n, hn, rfl⟩ := List.mem_map.1 hx
    exact kZ4 (z2.2.2.2.2.2.2 n (List.mem_of_mem_take hn))
   rw [List.length_map, List.length_take] at h1
   exact Nat.le_trans h1 (Nat.mul_le_mul_right _ (Nat.min_le_right _ _))
  have hc0 := cAt hAP
  by_cases cd : i < c.list.length
  ·obtain ⟨n, hn⟩ : ∃ n, c.list[i]? = some n := ⟨_, List.getElem?_eq_getElem cd⟩
   have hn2 := z2.2.2.2.2.2.2 n (List.mem_of_getElem? hn)
   have ia := fun h : Heap => zYaB (h := h) (k := .i64) hn
   have wr := wrap64 (n := (i : Int) + 1) (by omega) (by omega)
   by_cases i0 : i = 0
   ·have c0 : ¬ (0 : Int) < (i : Int) := by omega
    have c0' : ¬ 0 < i := by omega
    obtain ⟨w', H3, h1, h2, hA3⟩ := xZ8 hAP hn2 (by simp only [List.length_append, List.length_cons, List.length_nil]; omega)
    simp only [zZr.b18]
    simp [zZr.r13, zZr.r14, zZr.r16, zZr.r17, k0, k4, k8, hl, hc0, vZi, cd, c0, c0', ia, cI, h1, h2, wr]
    refine ⟨c.list.length - (i + 1), by omega, ?_⟩
    rw [hI]
    refine ⟨i + 1, w', rfl, by omega, ⟨by simp [hl], by simp [k4], by simp [hl], by simp [hl]⟩, rfl, ?_⟩
    rw [jn_take hn, if_pos i0]
    subst i0
    simpa [jn] using hA3
   ·have c0 : (0 : Int) < (i : Int) := by omega
    have c0' : 0 < i := by omega
    obtain ⟨w1, H2, ha2, hA2⟩ := add1 32 hAP (by simp only [List.length_append, List.length_cons, List.length_nil]; omega)
    rw [q32] at ha2
    have hc2 := cAt hA2
    obtain ⟨w', H3, h1, h2, hA3⟩ := xZ8 hA2 hn2 (by simp only [List.length_append, List.length_cons, List.length_nil]; omega)
    simp only [zZr.b18]
    simp [zZr.r13, zZr.r14, zZr.r15, zZr.r16, zZr.r17, k0, k4, k8, hl, hc0, hc2, b32, ha2, vZi, cd, c0, c0', ia, cI, h1, h2, wr]
    refine ⟨c.list.length - (i + 1), by omega, ?_⟩
    rw [hI]
    refine ⟨i + 1, w', rfl, by omega, ⟨by simp [hl], by simp [k4], by simp [hl], by simp [hl]⟩, rfl, ?_⟩
    rw [jn_take hn, if_neg i0]
    simpa using hA3
  ·have hie : i = c.list.length := by omega
   rw [hie, List.take_length] at hAP hql
   obtain ⟨r, H3, ha3, hA3⟩ := add1 93 hAP (by simp only [List.length_append, List.length_cons, List.length_nil]; omega)
   rw [q93] at ha3
   have hf := hPi r H3 (back (by
    show AP G o (l ++ 91 :: (jn (c.list.map itoa) ++ [93])) r H3
    simpa using hA3))
   have cI : ¬ (i : Int) < c.list.length := by omega
   simp only [zZr.b18]
   simp [zZr.r13, zZr.r19, k0, k4, k8, hl, hc0, vZi, cd, cI, b93, ha3, hf]
 ·have f75 : (((75 : UInt8).toNat : Nat) : Int) = 75 := rfl
  rw [f75] at g2
  obtain ⟨v1, H1, ha, hA1⟩ := add1 91 hA (by omega)
  rw [q91] at ha
  simp [zZr.c, zZr.r0, zZr.r1, zZr.r2, zZr.r10, zZr.r20, zZr.r21, zZr.r22, g0, g1, g2, he, hcc, b0, b91, ha]
  obtain ⟨I, hI⟩ : ∃ I : Nat → St → Prop, I = fun m st => ∃ (i : Nat) (w : V), m = c.names.length - i ∧ i ≤ c.names.length ∧ (eget st.env 0 = w ∧ eget st.env 4 = .ptr H.length 0 ∧ eget st.env 9 = .int .i64 i ∧ st.env.length = 94) ∧ st.marks = [] ∧ AP G o (l ++ [91] ++ jn ((c.names.take i).map quoteB)) w st.heap := ⟨_, rfl⟩
  refine kLoop I c.names.length (by rw [hI]; exact ⟨0, v1, rfl, by omega, ⟨by simp [he], by simp [he], by simp [he], by simpa using he⟩, rfl, by simpa [jn] using hA1⟩) ?_
  rintro m ⟨env, mk, Hh⟩ hst
  rw [hI] at hst
  obtain ⟨i, w, rfl, hi, ⟨k0, k4, k9, hl⟩, hm, hAP⟩ := hst
  simp only at k0 k4 k9 hl hm hAP
  obtain rfl := hm
  have hql : (jn ((c.names.take i).map quoteB)).length ≤ 6 * 1048576 := by
   have h1 := jnq_len (c.names.take i)
   have h2 := zYaM c.names (fun x => x.length + 1) i
   omega
  have hc0 := cAt hAP
  by_cases cd : i < c.names.length
  ·obtain ⟨n, hn⟩ : ∃ n, c.names[i]? = some n := ⟨_, List.getElem?_eq_getElem cd⟩
   have hlx := mem_sum (List.mem_of_getElem? hn)
   have hln := xZr c.names
   have ia := fun h : Heap => zYat (h := h) (k := .i64) hn
   have wr := wrap64 (n := (i : Int) + 1) (by omega) (by omega)
   by_cases i0 : i = 0
   ·have c0 : ¬ (0 : Int) < (i : Int) := by omega
    have c0' : ¬ 0 < i := by omega
    obtain ⟨o1, a1, a2, a3, a4⟩ := hAP
    obtain ⟨r, H3, hc, hA3⟩ := xZ1 Hh w o1 _ n a1 (by simp only [List.length_append, List.length_cons, List.length_nil]; omega) (by omega)
    have hA4 := AP.trans a2 a3 a4 hA3
    simp only [zZr.b28]
    simp [zZr.r23, zZr.r24, zZr.r26, zZr.r27, k0, k4, k9, hl, hc0, vZi, cd, c0, c0', ia, cT, hc, wr]
    refine ⟨c.names.length - (i + 1), by omega, ?_⟩
    rw [hI]
    refine ⟨i + 1, r, rfl, by omega, ⟨by simp [hl], by simp [k4], by simp [hl], by simp [hl]⟩, rfl, ?_⟩
    rw [jn_take hn, if_pos i0]
    subst i0
    simpa [jn] using hA4
   ·have c0 : (0 : Int) < (i : Int) := by omega
    have c0' : 0 < i := by omega
    obtain ⟨w1, H2, ha2, hA2⟩ := add1 32 hAP (by simp only [List.length_append, List.length_cons, List.length_nil]; omega)
    rw [q32] at ha2
    have hc2 := cAt hA2
    obtain ⟨o1, a1, a2, a3, a4⟩ := hA2
    obtain ⟨r, H3, hc, hA3⟩ := xZ1 H2 w1 o1 _ n a1 (by simp only [List.length_append, List.length_cons, List.length_nil]; omega) (by omega)
    have hA4 := AP.trans a2 a3 a4 hA3
    simp only [zZr.b28]
    simp [zZr.r23, zZr.r24, zZr.r25, zZr.r26, zZr.r27, k0, k4, k9, hl, hc0, hc2, b32, ha2, vZi, cd, c0, c0', ia, cT, hc, wr]
    refine ⟨c.names.length - (i + 1), by omega, ?_⟩
    rw [hI]
    refine ⟨i + 1, r, rfl, by omega, ⟨by simp [hl], by simp [k4], by simp [hl], by simp [hl]⟩, rfl, ?_⟩
    rw [jn_take hn, if_neg i0]
    simpa using hA4
  ·have hie : i = c.names.length := by omega
   rw [hie, List.take_length] at hAP hql
   obtain ⟨r, H3, ha3, hA3⟩ := add1 93 hAP (by simp only [List.length_append, List.length_cons, List.length_nil]; omega)
   rw [q93] at ha3
   have hf := hPi r H3 (back (by
    show AP G o (l ++ 91 :: (jn (c.names.map quoteB) ++ [93])) r H3
    simpa using hA3))
   have cI : ¬ (i : Int) < c.names.length := by
    have := xZr c.names
    omega
   simp only [zZr.b28]
   simp [zZr.r23, zZr.r29, k0, k4, k9, hl, hc0, vZi, cd, cI, b93, ha3, hf]
 ·have f89 : (((89 : UInt8).toNat : Nat) : Int) = 89 := rfl
  rw [f89] at g2
  have hc0 := cAt hA
  cases hy : c.yes
  ·obtain ⟨v1, H1, ha, hA1⟩ := hA.app [110, 111] (q := .str ⟨#[110, 111]⟩) rfl (by simp; omega)
   have hf := hPi v1 H1 (back (by
    show AP G o (l ++ yesB c.yes) v1 H1
    rw [hy]; exact hA1))
   simp [zZr.c, zZr.r0, zZr.r1, zZr.r2, zZr.r10, zZr.r20, zZr.r30, zZr.r32, g0, g1, g2, he, hcc, b0, hc0, hy, ha, hf]
  ·obtain ⟨v1, H1, ha, hA1⟩ := hA.app [121, 101, 115] (q := .str ⟨#[121, 101, 115]⟩) rfl (by simp; omega)
   have hf := hPi v1 H1 (back (by
    show AP G o (l ++ yesB c.yes) v1 H1
    rw [hy]; exact hA1))
   simp [zZr.c, zZr.r0, zZr.r1, zZr.r2, zZr.r10, zZr.r20, zZr.r30, zZr.r31, g0, g1, g2, he, hcc, b0, hc0, hy, ha, hf]
open Go Go.Ev
theorem zYaA (H : Heap) (v : V) (o : Option Nat) (l : Bs) (c : Cmd) (f : UInt8) (hfl : f ∈ letters) (z : SzL c) (hv : VL H 1 v o (l.map cB)) (hlen : l.length ≤ 2 ^ 40) : ∃ r h', callW Φ (.fn (.func zZP.k) [] []) [v, .agg (cC c), .int .u8 f.toNat] H = some (r, h') ∧ (fun r h' => AP H o (l ++ wf f c) r h') r h' := by
 obtain ⟨P, hP⟩ : ∃ P : V → Heap → Prop, P = fun r h' => AP H o (l ++ wf f c) r h' := ⟨_, rfl⟩
 suffices hgo : ∃ r h', callW Φ (.fn (.func zZP.k) [] []) [v, .agg (cC c), .int .u8 f.toNat] H = some (r, h') ∧ P r h' by rw [hP] at hgo; exact hgo
 have hPi : ∀ r h', (fun r h' => AP H o (l ++ wf f c) r h') r h' → P r h' := fun r h' q => by rw [hP]; exact q
 clear hP
 refine kZY zZP.Φ rfl (Nat.le_of_ble_eq_true rfl) (fun env he h0 => ?_)
 have g0 := h0 0 (by simp)
 change eget env 0 = v at g0
 have g1 := h0 1 (by simp)
 change eget env 1 = .agg (cC c) at g1
 have g2 := h0 2 (by simp)
 change eget env 2 = .int .u8 f.toNat at g2
 clear h0
 simp [zZP.c] at he
 have hcc : (V.agg (cC c)).cells = cC c := rfl
 have b0 : evBox H (cC c) = some (.ptr H.length 0, H ++ [.cells (cC c)]) := jZU H _ (by simp [V.isCell])
 have ok : ∀ H, okCells H (some 12) (some (cC c)) = some (.agg (cC c), H) := fun H => rfl
 obtain ⟨z1, z2, z3⟩ := id z
 unfold bulk at z3
 obtain ⟨G, hG⟩ : ∃ G, G = H ++ [.cells (cC c)] := ⟨_, rfl⟩
 rw [← hG] at b0
 have hGc : G[H.length]? = some (.cells (cC c)) := by rw [hG]; simp
 have hvG : VL G 1 v o (l.map cB) := by rw [hG]; exact hv.push _
 have hA := AP.refl hvG
 have back : ∀ {l2 : Bs} {r : V} {h2 : Heap}, AP G o l2 r h2 → AP H o l2 r h2 := fun h => AP.trans (H := H) (H1 := G) (o1 := o) (by rw [hG]; simp) (fun j hj _ => by rw [hG, List.getElem?_append_left hj]) (fun id h => .inl h) h
 have hc0 := vZ5 hGc
 simp only [letters, List.mem_cons, List.not_mem_nil, or_false] at hfl
 rcases hfl with rfl | rfl | rfl | rfl | rfl | rfl | rfl | rfl | rfl | rfl | rfl
 ·have hf : ((((65 : UInt8).toNat : Nat)) : Int) = 65 := rfl
  rw [hf] at g2
  obtain ⟨w', H3, h1, h2, hA3⟩ := xZ8 hA z2.1 (by omega)
  have hf := hPi w' H3 (back hA3)
  simp [zZP.c, zZP.r0, zZP.r1, zZP.r2, zZP.r3, g0, g1, g2, he, hcc, b0, hc0, h1, h2, hf]
 ·have hf : ((((66 : UInt8).toNat : Nat)) : Int) = 66 := rfl
  rw [hf] at g2
  obtain ⟨w', H3, h1, h2, hA3⟩ := xZ8 hA z2.2.1 (by omega)
  have hf := hPi w' H3 (back hA3)
  simp [zZP.c, zZP.r0, zZP.r1, zZP.r2, zZP.r4, zZP.r5, g0, g1, g2, he, hcc, b0, hc0, h1, h2, hf]
 ·have hf : ((((67 : UInt8).toNat : Nat)) : Int) = 67 := rfl
  rw [hf] at g2
  obtain ⟨w', H3, h1, h2, hA3⟩ := xZ8 hA z2.2.2.1 (by omega)
  have hf := hPi w' H3 (back hA3)
  simp [zZP.c, zZP.r0, zZP.r1, zZP.r2, zZP.r4, zZP.r6, zZP.r7, g0, g1, g2, he, hcc, b0, hc0, h1, h2, hf]
 ·have hf : ((((78 : UInt8).toNat : Nat)) : Int) = 78 := rfl
  rw [hf] at g2
  obtain ⟨w', H3, h1, h2, hA3⟩ := xZ8 hA z2.2.2.2.1 (by omega)
  have hf := hPi w' H3 (back hA3)
  simp [zZP.c, zZP.r0, zZP.r1, zZP.r2, zZP.r4, zZP.r6, zZP.r8, zZP.r9, g0, g1, g2, he, hcc, b0, hc0, h1, h2, hf]
 ·have hf : ((((77 : UInt8).toNat : Nat)) : Int) = 77 := rfl
  rw [hf] at g2
  obtain ⟨w', H3, h1, h2, hA3⟩ := xZ8 hA z2.2.2.2.2.1 (by omega)
  have hf := hPi w' H3 (back hA3)
  simp [zZP.c, zZP.r0, zZP.r1, zZP.r2, zZP.r4, zZP.r6, zZP.r8, zZP.r10, zZP.r11, g0, g1, g2, he, hcc, b0, hc0, h1, h2, hf]
 ·have hf : ((((83 : UInt8).toNat : Nat)) : Int) = 83 := rfl
  rw [hf] at g2
  obtain ⟨r, H3, hc, hA3⟩ := xZ1 G v o l c.s hvG (by omega) (by omega)
  have hf := hPi r H3 (back hA3)
  simp [zZP.c, zZP.r0, zZP.r1, zZP.r2, zZP.r4, zZP.r6, zZP.r8, zZP.r10, zZP.r12, zZP.r13, g0, g1, g2, he, hcc, b0, hc0, hc, hf]
 ·have hf : ((((84 : UInt8).toNat : Nat)) : Int) = 84 := rfl
  rw [hf] at g2
  obtain ⟨r, H3, hc, hA3⟩ := xZ1 G v o l c.t hvG (by omega) (by omega)
  have hf := hPi r H3 (back hA3)
  simp [zZP.c, zZP.r0, zZP.r1, zZP.r2, zZP.r4, zZP.r6, zZP.r8, zZP.r10, zZP.r12, zZP.r14, zZP.r15, g0, g1, g2, he, hcc, b0, hc0, hc, hf]
 ·have hf : ((((68 : UInt8).toNat : Nat)) : Int) = 68 := rfl
  rw [hf] at g2
  obtain ⟨r, H3, hc, hA3⟩ := xZ3 G v o l c 68 (.inl rfl) z hvG hlen
  rw [hf] at hc
  have hf := hPi r H3 (back hA3)
  simp [zZP.c, zZP.r0, zZP.r1, zZP.r2, zZP.r4, zZP.r6, zZP.r8, zZP.r10, zZP.r12, zZP.r14, zZP.r16, g0, g1, g2, he, hcc, b0, hc0, ok, hc, hf]
 ·have hf : ((((76 : UInt8).toNat : Nat)) : Int) = 76 := rfl
  rw [hf] at g2
  obtain ⟨r, H3, hc, hA3⟩ := xZ3 G v o l c 76 (.inr (.inl rfl)) z hvG hlen
  rw [hf] at hc
  have hf := hPi r H3 (back hA3)
  simp [zZP.c, zZP.r0, zZP.r1, zZP.r2, zZP.r4, zZP.r6, zZP.r8, zZP.r10, zZP.r12, zZP.r14, zZP.r16, g0, g1, g2, he, hcc, b0, hc0, ok, hc, hf]
 ·have hf : ((((75 : UInt8).toNat : Nat)) : Int) = 75 := rfl
  rw [hf] at g2
  obtain ⟨r, H3, hc, hA3⟩ := xZ3 G v o l c 75 (.inr (.inr (.inl rfl))) z hvG hlen
  rw [hf] at hc
  have hf := hPi r H3 (back hA3)
  simp [zZP.c, zZP.r0, zZP.r1, zZP.r2, zZP.r4, zZP.r6, zZP.r8, zZP.r10, zZP.r12, zZP.r14, zZP.r16, g0, g1, g2, he, hcc, b0, hc0, ok, hc, hf]
 ·have hf : ((((89 : UInt8).toNat : Nat)) : Int) = 89 := rfl
  rw [hf] at g2
  obtain ⟨r, H3, hc, hA3⟩ := xZ3 G v o l c 89 (.inr (.inr (.inr rfl))) z hvG hlen
  rw [hf] at hc
  have hf := hPi r H3 (back hA3)
  simp [zZP.c, zZP.r0, zZP.r1, zZP.r2, zZP.r4, zZP.r6, zZP.r8, zZP.r10, zZP.r12, zZP.r14, zZP.r16, g0, g1, g2, he, hcc, b0, hc0, ok, hc, hf]
/-! ### A command's size is no more than its line -/
theorem jn_ge3 (l : List Bs) : (l.map fun x => x.length + 3).sum ≤ (jn (l.map quoteB)).length + 1 := by
 have h := jn_ge (l.map quoteB)
 have h2 := sum_le (f := fun x : Bs => x.length + 3) (g := fun x : Bs => (quoteB x).length + 1) l fun x => by have := xZV x; omega
 rw [List.map_map] at h
 have e : ((fun x : Bs => x.length + 1) ∘ quoteB) = fun x : Bs => (quoteB x).length + 1 := rfl
 rw [e] at h
 omega
theorem itoa_pos (n : Int) : 1 ≤ (itoa n).length := by
 have := (xZ9 n).2
 cases h : itoa n with
 | nil => exact absurd h this
 | cons _ _ => simp
def wS (c : Cmd) (r : UInt8) : Nat := if r = 83 then c.s.length else if r = 84 then c.t.length else if r = 68 then c.data.length else if r = 76 then 2 * c.list.length else if r = 75 then (c.names.map fun x => x.length + 3).sum else 0
theorem wS_le (c : Cmd) (r : UInt8) : wS c r ≤ (wf r c).length := by
 unfold wS
 split
 ·rename_i h; subst h
  have := xZV c.s
  show _ ≤ (quoteB c.s).length
  omega
 split
 ·rename_i h; subst h
  have := xZV c.t
  show _ ≤ (quoteB c.t).length
  omega
 split
 ·rename_i h; subst h
  have := zYaI 4 117 c.data
  show _ ≤ (quoteU 4 117 c.data).length
  omega
 split
 ·rename_i h; subst h
  show _ ≤ (91 :: (jn (c.list.map itoa) ++ [93])).length
  have := jn_ge (c.list.map itoa)
  have h2 := sum_le (f := fun _ : Int => 2) (g := fun n : Int => (itoa n).length + 1) c.list fun n => by have := itoa_pos n; omega
  rw [List.map_map] at this
  have e : ((fun x : Bs => x.length + 1) ∘ itoa) = fun n : Int => (itoa n).length + 1 := rfl
  have e2 : (c.list.map fun _ : Int => 2).sum = 2 * c.list.length := by
   generalize c.list = l
   induction l with
   | nil => rfl
   | cons x l ih => simp only [List.map_cons, List.sum_cons, List.length_cons, ih]; omega
  rw [e] at this
  simp only [List.length_cons, List.length_append, List.length_nil]
  omega
 split
 ·rename_i h; subst h
  show _ ≤ (91 :: (jn (c.names.map quoteB) ++ [93])).length
  have := jn_ge3 c.names
  simp only [List.length_cons, List.length_append, List.length_nil]
  omega
 ·omega
theorem tail_lenS (c : Cmd) : ∀ l : Bs, (l.map (wS c)).sum ≤ (tail l c).length
 | [] => by simp
 | r :: l => by
  have := tail_lenS c l
  have := wS_le c r
  simp only [tail, List.flatMap_cons, List.map_cons, List.sum_cons, List.length_append, List.length_cons] at *
  omega
theorem size_line {c : Cmd} (h : plain c = c) : sizeN c ≤ (lineB c).length := by
 have hk := vZ0 c
 rw [h] at hk
 have hs : 83 ∉ flds c.op → c.s = [] := fun hn => by have := congrArg Cmd.s hk; simpa [keep, hn] using this
 have ht : 84 ∉ flds c.op → c.t = [] := fun hn => by have := congrArg Cmd.t hk; simpa [keep, hn] using this
 have hd : 68 ∉ flds c.op → c.data = [] := fun hn => by have := congrArg Cmd.data hk; simpa [keep, hn] using this
 have hl : 76 ∉ flds c.op → c.list = [] := fun hn => by have := congrArg Cmd.list hk; simpa [keep, hn] using this
 have hn : 75 ∉ flds c.op → c.names = [] := fun hn => by have := congrArg Cmd.names hk; simpa [keep, hn] using this
 have e : sizeN c = ([83, 84, 68, 76, 75].map (wS c)).sum := by simp [sizeN, wS]; omega
 have := sum_sub (f := wS c) (k := [83, 84, 68, 76, 75]) (l := flds c.op) (by decide) (fun r hr => by
  simp only [List.mem_cons, List.not_mem_nil, or_false] at hr
  by_cases hm : r ∈ flds c.op
  ·exact .inr hm
  ·left
   rcases hr with rfl | rfl | rfl | rfl | rfl
   ·simp [wS, hs hm]
   ·simp [wS, ht hm]
   ·simp [wS, hd hm]
   ·simp [wS, hl hm]
   ·simp [wS, hn hm])
 have h2 := tail_lenS c (flds c.op)
 unfold lineB
 rw [List.length_append, e]
 omega
theorem tail_take_len {c : Cmd} (z : SzL c) (l : Bs) : (tail l c).length ≤ l.length * 2 ^ 26 := by
 induction l with
 | nil => simp [tail]
 | cons r l ih =>
  have := wf_len z r
  simp only [tail, List.flatMap_cons, List.length_append, List.length_cons] at *
  omega
end Go.Proofs.Sc
