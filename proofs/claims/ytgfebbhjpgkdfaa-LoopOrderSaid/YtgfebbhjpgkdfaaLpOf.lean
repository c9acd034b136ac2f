/- The walk of LoopOrder: a round. No conditions. -/
import Derived.Test.YtgfebbhjpgkdfaaLpOd
import Derived.Test.YtgfebbhjpgkdfaaLpOe
namespace Go.Proofs.Lp
open Go Go.Ev
set_option linter.unusedVariables false
set_option linter.unusedSimpArgs false

theorem Calm.upq {L : LS} (h : Calm L) (i : Nat) (l : List Int) : Calm (upq L i l) := ⟨h.tm, h.open'⟩
theorem Calm.new : Calm LS.new := ⟨rfl, rfl⟩

set_option maxHeartbeats 16000000 in
set_option maxRecDepth 8000 in
theorem ord_round {Q : Ex → St → Prop} {A : V} {n i : Nat} (hin : i < n) (hn : n < 2 ^ 62) {x : Step} (ha : ∀ h, iaddrV h 6 A (.int .i64 i) = some (.iptr (cS x))) {hq : Heap} {l : Nat} {L : LS} {f : Nat → Option Nat} (hr : Rep hq l L f) (hok : Ok i L) (hc : Calm L)
    {oT : Nat} {vs : Nat → V} {os : Nat → Option Nat} {vM : V} {oM : Option Nat} (w : Own hq l f oT vs os vM oM L.q)
    {env : List V} (he : env.length = 172) (k3 : eget env 3 = .ptr l 0) (k4 : eget env 4 = vM) (k5 : eget env 5 = .sl oT 0 0 8) (k21 : eget env 21 = A) (k22 : eget env 22 = .int .i64 n) (k23 : eget env 23 = .int .i64 i)
    (hfin : ∀ (e : List V) (H : Heap) (L' : LS) f' vs' os' oM', e.length = 172 → eget e 3 = .ptr l 0 → eget e 5 = .sl oT 0 0 8 → eget e 21 = A → eget e 22 = .int .i64 n → eget e 23 = .int .i64 (i + 1 : Nat) →
      Rep H l L' f' → Ok (i + 1 : Nat) L' → Calm L' → Own H l f' oT vs' os' (eget e 4) oM' L'.q → Q .normal { env := e, marks := [], heap := H }) :
    WK (callW Φ) none Q [.c law27_LoopOrder.b36] { env := env, marks := [], heap := hq } := by
  have hi1 : (i : Int) < (n : Int) := by omega
  have hw1 : IntKind.i64.wrap ((i : Int) + 1) = ((i + 1 : Nat) : Int) := by rw [Ev.wrap64] <;> omega
  have hin2 : ∀ (e : List V) (H : Heap) (L' : LS) f' vs' os' vM' oM', e.length = 172 → eget e 3 = .ptr l 0 → eget e 4 = vM' → eget e 5 = .sl oT 0 0 8 → eget e 21 = A → eget e 22 = .int .i64 n → eget e 23 = .int .i64 i →
      Rep H l L' f' → Ok (i + 1 : Nat) L' → Calm L' → Own H l f' oT vs' os' vM' oM' L'.q → WK (callW Φ) none Q [.o law27_LoopOrder.r35] { env := e, marks := [], heap := H } := by
    intro e H L' f' vs' os' vM' oM' he k3 k4 k5 k21 k22 k23 a1 a2 a3 a4
    simp [law27_LoopOrder.r35, k23, he, okV, fV_eq, hw1]
    refine hfin _ H L' f' vs' os' oM' ?_ ?_ ?_ ?_ ?_ ?_ a1 a2 a3 ?_
    all_goals simp [he, k3, k4, k5, k21, k22, a4]
  obtain ⟨H1, hH1⟩ : ∃ H1, H1 = hq ++ [Ob.cells (cS x)] := ⟨_, rfl⟩
  have hst : evStoreV (hq ++ [Ob.cells [.int .u8 0, .int .i64 0, .int .i64 0, .int .i64 0, .int .i64 0, .int .i64 0]]) 6 (.ptr hq.length 0) (.agg (cS x)) = some (V.non, H1) := by
    rw [hH1]; simp [evStoreV, evStore, V.cells, V.isCell, setRange, cS]
  have hx1 : H1[hq.length]? = some (.cells (cS x)) := by rw [hH1]; simp
  have hld := ptr_at hx1 0
  have hr1 : Rep H1 l L f := by
    obtain ⟨v, hv⟩ := hr
    rw [hH1]
    exact ⟨v, hv.ext _⟩
  have hf1 : Fr hq H1 l f f := by rw [hH1]; exact Fr.ext _ _ _ _
  have w1 := w.frame hf1
  have h1 := hok.tot
  have h2 := hok.gn
  have hgn : L.given < 2 ^ 62 := by omega
  have hax := ha hq
  have more : Ok (i + 1 : Nat) L := by have := hok.more; simpa using this
  have hno : ¬ own l f hq.length := fun ho => by have := hr.lt ho; omega
  simp only [cS, List.drop_zero] at hax hst hld
  by_cases c3 : x.kind = 3
  · have b3 : (x.kind == 3) = true := by simp [c3]
    simp [law27_LoopOrder.b36, law27_LoopOrder.r7, law27_LoopOrder.r8, law27_LoopOrder.r9, k21, k22, k23, he, okV, fV_eq, hi1, hin, hax, hst, hld, faddrV, evPick, b3, ofCells]
    refine hin2 _ H1 L f vs os vM oM ?_ ?_ ?_ ?_ ?_ ?_ ?_ hr1 more hc w1
    all_goals simp [he, k3, k4, k5, k21, k22, k23]
  have b3 : (x.kind == 3) = false := by simpa using c3
  by_cases c5 : x.kind = 5
  · have b5 : (x.kind == 5) = true := by simp [c5]
    simp [law27_LoopOrder.b36, law27_LoopOrder.r7, law27_LoopOrder.r8, law27_LoopOrder.r9, k21, k22, k23, he, okV, fV_eq, hi1, hin, hax, hst, hld, faddrV, evPick, b5, b3, ofCells]
    refine hin2 _ H1 L f vs os vM oM ?_ ?_ ?_ ?_ ?_ ?_ ?_ hr1 more hc w1
    all_goals simp [he, k3, k4, k5, k21, k22, k23]
  have b5 : (x.kind == 5) = false := by simpa using c5
  by_cases c7 : x.kind = 7
  · have b7 : (x.kind == 7) = true := by simp [c7]
    simp [law27_LoopOrder.b36, law27_LoopOrder.r7, law27_LoopOrder.r8, law27_LoopOrder.r9, k21, k22, k23, he, okV, fV_eq, hi1, hin, hax, hst, hld, faddrV, evPick, b7, b3, b5, ofCells]
    refine hin2 _ H1 L f vs os vM oM ?_ ?_ ?_ ?_ ?_ ?_ ?_ hr1 more hc w1
    all_goals simp [he, k3, k4, k5, k21, k22, k23]
  have b7 : (x.kind == 7) = false := by simpa using c7
  obtain ⟨H2, f2, hdo, hr2, hf2⟩ := do_all hr1 (by omega) hok.g0 hgn hok.c0 hok.cm x
  have ok2 := hok.step x
  have w2 := w1.frame hf2
  have hal := (List.getElem?_eq_some_iff.1 hx1).1
  have hno1 : ¬ own l f hq.length := hno
  have hx2 : H2[hq.length]? = some (.cells (cS x)) := by rw [hf2.rest _ hal hno1]; exact hx1
  have hb2 : ∀ id, own l f2 id → id < H2.length := fun id hid => hr2.lt hid
  have next : ∀ (t : Int × Int × Int) (L2 : LS) (q : Nat → List Int), Rep H2 l L2 f2 → ∃ H3, evStoreV (H2 ++ [Ob.cells [.int .u8 0, .int .i64 0, .int .i64 0]]) 3 (.ptr H2.length 0) (.agg [.int .u8 t.1, .int .i64 t.2.1, .int .i64 t.2.2]) = some (V.non, H3) ∧
      H3[hq.length]? = some (Ob.cells (cS x)) ∧ (∀ off, cellsAt H3 (.ptr hq.length off) = some ((cS x).drop off)) ∧ H3[H2.length]? = some (Ob.cells (cN t)) ∧ (∀ off, cellsAt H3 (.ptr H2.length off) = some ((cN t).drop off)) ∧ Rep H3 l L2 f2 ∧ Own H3 l f2 oT vs os vM oM L.q ∧ ∀ id, own l f2 id → id < H3.length := by
    intro t L2 q hr
    have e1 : (H2 ++ [Ob.cells (cN t)])[hq.length]? = some (Ob.cells (cS x)) := by rw [List.getElem?_append_left (List.getElem?_eq_some_iff.1 hx2).1]; exact hx2
    have e2 : (H2 ++ [Ob.cells (cN t)])[H2.length]? = some (Ob.cells (cN t)) := by simp
    refine ⟨H2 ++ [Ob.cells (cN t)], by simp [evStoreV, evStore, V.cells, V.isCell, setRange, cN], e1, ptr_at e1, e2, ptr_at e2, ?_, w2.frame (Fr.ext _ _ _ _), fun id hid => by have := hr.lt hid; simp; omega⟩
    obtain ⟨v, hv⟩ := hr
    exact ⟨v, hv.ext _⟩
  rcases ord_step hc x c3 c5 c7 with ⟨k1, s0, s8, e⟩ | ⟨k1, e⟩ | ⟨k1, y, ys, q0, e⟩ | ⟨k1, k, y, ys, hk8, q0, qk, e⟩ | ⟨nn, ww, e, hww⟩
  · rw [e] at hdo hr2 ok2
    have hc4 := hc.upq (x.source.toNat + 1) (L.q (x.source.toNat + 1) ++ [x.id])
    have ht4 : tot (upq L (x.source.toNat + 1) (L.q (x.source.toNat + 1) ++ [x.id])) ≤ 4096 := ok2.tot
    obtain ⟨H3, s3, x3, x3', t3, t3', r3, w3, hb3⟩ := next (0, 0, 0) _ L.q hr2
    have b1 : (x.kind == 1) = true := by simp [k1]
    simp only [cN, cS] at hdo s3 x3' t3'
    simp [law27_LoopOrder.b36, law27_LoopOrder.r7, law27_LoopOrder.r8, law27_LoopOrder.r9, law27_LoopOrder.r10, law27_LoopOrder.r11, law27_LoopOrder.r12, k3, k21, k22, k23, he, okV, fV_eq, hi1, hin, hax, hst, hld, faddrV, evPick, b3, b5, b7, ofCells, hdo, evExt, s3, x3', b1]
    have hql : (L.q (x.source.toNat + 1)).length < 2 ^ 40 := by
      have := q_le L (i := x.source.toNat) (by omega)
      unfold tot at h1
      omega
    refine kNormal (ord_push w3 hb3 s0 s8 hql x3 ?_ ?_ ?_) ?_
    · simp [he]
    · simp [he, k5]
    · simp [he]
    · rintro ⟨e', mk, H4⟩ ⟨⟨vs', os', w4⟩, hlen4, hcs4, hown4, hm4, hk4⟩
      simp only at w4 hlen4 hcs4 hown4 hm4
      obtain rfl := hm4
      simp [Kept, k3, k4, k5, k21, k22, k23, he] at hk4
      obtain ⟨he', e3, e4, e5, e7, e9, e21, e22, e23⟩ := hk4
      have t4 := ptr_at (hcs4 _ _ t3) 0
      simp only [cN, List.drop_zero] at t4
      have r4 := r3.mono hown4
      simp [law27_LoopOrder.r16, law27_LoopOrder.r17, law27_LoopOrder.r21, e9, he', okV, fV_eq, faddrV, t4, ofCells]
      refine ord_tail (L := upq L (x.source.toNat + 1) (L.q (x.source.toNat + 1) ++ [x.id])) r4 (by omega) hc4 w4 ?_ ?_ ?_ ?_ ?_
      · simp [he']
      · simp [he', e3]
      · simp [he', e4]
      · simp [he', e5]
      · intro e0 a1 a2 a3 a4 a5 a6 a7
        simp [he', e21, e22, e23] at a5 a6 a7
        simp only [kMark, kRegion]
        exact hin2 e0 H4 _ f2 vs' os' vM oM a1 a2 a3 a4 a5 a6 a7 r4 (by simpa using ok2) hc4 w4
  · rw [e] at hdo hr2 ok2
    have hc4 := hc.upq 0 (L.q 0 ++ [x.id])
    have ht4 : tot (upq L 0 (L.q 0 ++ [x.id])) ≤ 4096 := ok2.tot
    obtain ⟨H3, s3, x3, x3', t3, t3', r3, w3, hb3⟩ := next (0, 0, 0) _ L.q hr2
    have b1 : (x.kind == 1) = false := by simp [k1]
    have b2 : (x.kind == 2) = true := by simp [k1]
    obtain ⟨v', o', H4, happ, w4, hlen4, hcs4, hown4⟩ := w3.pushM hb3 (by unfold tot at h1; omega) x.id
    have hbs := Own.bs H3 x.id
    have t4 := ptr_at (hcs4 _ _ t3) 0
    have r4 := r3.mono hown4
    simp only [cN, cS, List.drop_zero] at hdo s3 x3' t3' t4
    simp [law27_LoopOrder.b36, law27_LoopOrder.r7, law27_LoopOrder.r8, law27_LoopOrder.r9, law27_LoopOrder.r10, law27_LoopOrder.r11, law27_LoopOrder.r12, law27_LoopOrder.r14, k3, k21, k22, k23, he, okV, fV_eq, hi1, hin, hax, hst, hld, faddrV, evPick, b3, b5, b7, ofCells, hdo, evExt, s3, x3', b1, b2]
    simp [law27_LoopOrder.r15, law27_LoopOrder.r16, law27_LoopOrder.r17, law27_LoopOrder.r21, k4, he, okV, fV_eq, faddrV, ofCells, x3', hbs, happ, t4]
    refine ord_tail (L := upq L 0 (L.q 0 ++ [x.id])) r4 (by omega) hc4 w4 ?_ ?_ ?_ ?_ ?_
    · simp [he]
    · simp [he, k3]
    · simp [he]
    · simp [he, k5]
    · intro e0 a1 a2 a3 a4 a5 a6 a7
      simp [he, k21, k22, k23] at a5 a6 a7
      simp only [kMark, kRegion]
      exact hin2 e0 H4 _ f2 vs os v' o' a1 a2 a3 a4 a5 a6 a7 r4 (by simpa using ok2) hc4 w4
  · rw [e] at hdo hr2 ok2
    have hc4 := hc.upq 0 ys
    have ht4 : tot (upq L 0 ys) ≤ 4096 := ok2.tot
    obtain ⟨H3, s3, x3, x3', t3, t3', r3, w3, hb3⟩ := next (1, 0, y) _ L.q hr2
    have b1 : (x.kind == 1) = false := by simp [k1]
    have b2 : (x.kind == 2) = false := by simp [k1]
    obtain ⟨v', p, m1, m2, m3, m4, w4⟩ := w3.popM q0
    have t4 := t3' 0
    have t5 := t3' 2
    have z1 : (((ys.length : Int) + 1) == 0) = false := by simp; omega
    have z2 : ¬ ((ys.length : Int) + 1 = 0) := by omega
    simp only [cN, cS, cI, List.drop_zero, List.drop_succ_cons] at hdo s3 x3' t3' t4 t5 m3
    simp [law27_LoopOrder.b36, law27_LoopOrder.r7, law27_LoopOrder.r8, law27_LoopOrder.r9, law27_LoopOrder.r10, law27_LoopOrder.r11, law27_LoopOrder.r12, law27_LoopOrder.r14, k3, k21, k22, k23, he, okV, fV_eq, hi1, hin, hax, hst, hld, faddrV, evPick, b3, b5, b7, ofCells, hdo, evExt, s3, x3', b1, b2]
    simp [law27_LoopOrder.r16, law27_LoopOrder.r17, k4, he, okV, fV_eq, faddrV, ofCells, x3', t4]
    refine kDraw1 law27_LoopOrder.r18.ord ?_
    simp [law27_LoopOrder.r18, law27_LoopOrder.r20, List.filterMap_cons, k4, he, okV, fV_eq, faddrV, ofCells, evPick, m1, m2, m3, m4, t5, z1, z2, sliceV]
    refine ord_tail (L := upq L 0 ys) r3 (by omega) hc4 w4 ?_ ?_ ?_ ?_ ?_
    · simp [he]
    · simp [he, k3]
    · simp [he]
    · simp [he, k5]
    · intro e0 a1 a2 a3 a4 a5 a6 a7
      simp [he, k21, k22, k23] at a5 a6 a7
      simp only [kMark, kRegion]
      exact hin2 e0 H3 _ f2 vs os v' oM a1 a2 a3 a4 a5 a6 a7 r3 (by simpa using ok2) hc4 w4
  · rw [e] at hdo hr2 ok2
    have hc4 := hc.upq (k + 1) ys
    have ht4 : tot (upq L (k + 1) ys) ≤ 4096 := ok2.tot
    obtain ⟨H3, s3, x3, x3', t3, t3', r3, w3, hb3⟩ := next (2, k, y) _ L.q hr2
    have b1 : (x.kind == 1) = false := by simp [k1]
    have b2 : (x.kind == 2) = false := by simp [k1]
    have hk0 : (0 : Int) ≤ (k : Int) := by omega
    have hk8' : (k : Int) < 8 := by omega
    have hkn : ((k : Int)).toNat = k := by omega
    have hp := w3.popQ hb3 hk0 hk8' (x := y) (xs := ys) (by rw [hkn]; exact qk)
    rw [hkn] at hp
    obtain ⟨v', p, m1, m2, m3, m4, m5, m6, m7, w4, hcs4, hown4⟩ := hp
    obtain ⟨H4, hH4⟩ : ∃ H4, H4 = H3.set oT (.row 1 (rowV (upv vs k v')) 0 true) := ⟨_, rfl⟩
    rw [← hH4] at m7 w4 hcs4 hown4
    have r4 := r3.mono hown4
    have t4 := t3' 0
    have t5 := t3' 1
    have t6 := t3' 2
    have hl0 := w3.ms.len H3
    rw [q0] at hl0
    simp only [List.map_nil, List.length_nil, Int.ofNat_zero] at hl0
    have hl8 : evLen H3 .l (.sl oT 0 0 8) = some (.int .i64 8, H3) := by simp [evLen, lenV, fNat_eq]
    have z1 : (((ys.length : Int) + 1) == 0) = false := by simp; omega
    have z2 : ¬ ((ys.length : Int) + 1 = 0) := by omega
    have z3 : ¬ ((k : Int) < 0) := by omega
    have z4 : ¬ ((8 : Int) ≤ (k : Int)) := by omega
    have z5 : ¬ ((k : Int) ≥ 8) := by omega
    have z6 : ¬ (8 ≤ k) := by omega
    simp only [cN, cS, cI, List.drop_zero, List.drop_succ_cons] at hdo s3 x3' t3' t4 t5 t6 m5
    simp [law27_LoopOrder.b36, law27_LoopOrder.r7, law27_LoopOrder.r8, law27_LoopOrder.r9, law27_LoopOrder.r10, law27_LoopOrder.r11, law27_LoopOrder.r12, law27_LoopOrder.r14, k3, k21, k22, k23, he, okV, fV_eq, hi1, hin, hax, hst, hld, faddrV, evPick, b3, b5, b7, ofCells, hdo, evExt, s3, x3', b1, b2]
    simp [law27_LoopOrder.r16, law27_LoopOrder.r17, law27_LoopOrder.r21, k4, he, okV, fV_eq, faddrV, ofCells, x3', t4]
    refine kDraw1 law27_LoopOrder.r22.ord ?_
    simp (config := { maxSteps := 5000000 }) [law27_LoopOrder.r22, List.filterMap_cons, k4, k5, he, okV, fV_eq, faddrV, ofCells, evPick, hl0, hl8, m1, m2, m3, m4, m5, t5, t6, z1, z2, z3, z4, z5, z6]
    refine kDraw1 law27_LoopOrder.r24.ord ?_
    simp (config := { maxSteps := 5000000 }) [law27_LoopOrder.r24, List.filterMap_cons, k4, k5, he, okV, fV_eq, faddrV, ofCells, m1, m2, m6, m7, t5, sliceV]
    refine ord_tail (L := upq L (k + 1) ys) r4 (by omega) hc4 w4 ?_ ?_ ?_ ?_ ?_
    · simp [he]
    · simp [he, k3]
    · simp [he, k4]
    · simp [he, k5]
    · intro e0 a1 a2 a3 a4 a5 a6 a7
      simp [he, k21, k22, k23] at a5 a6 a7
      simp only [kMark, kRegion]
      exact hin2 e0 H4 _ f2 _ _ vM oM a1 a2 a3 a4 a5 a6 a7 r4 (by simpa using ok2) hc4 w4
  · rw [e] at hdo hr2 ok2
    obtain ⟨H3, s3, x3, x3', t3, t3', r3, w3, hb3⟩ := next (0, 0, 0) _ L.q hr2
    have t4 := t3' 0
    simp only [cN, cS, cI, List.drop_zero, List.drop_succ_cons] at hdo s3 x3' t3' t4
    have go : ∀ e' : List V, e'.length = 172 → eget e' 3 = .ptr l 0 → eget e' 4 = vM → eget e' 5 = .sl oT 0 0 8 → eget e' 21 = A → eget e' 22 = .int .i64 n → eget e' 23 = .int .i64 i →
        WK (callW Φ) none Q [.o law27_LoopOrder.r25, .c (snd ordT), .b 1, .c (.region law27_LoopOrder.r35)] { env := e', marks := [], heap := H3 } := by
      intro e' he' e3 e4 e5 e21 e22 e23
      refine ord_tail (L := L) r3 (by omega) hc w3 he' e3 e4 e5 ?_
      intro e0 a1 a2 a3 a4 a5 a6 a7
      simp only [kMark, kRegion]
      exact hin2 e0 H3 L f2 vs os vM oM a1 a2 a3 a4 (a5.trans e21) (a6.trans e22) (a7.trans e23) r3 (by simpa using ok2) hc w3
    by_cases hw0 : ww = 0
    · obtain ⟨n1, n2⟩ := hww hw0
      have b1 : (x.kind == 1) = false := by simp [n1]
      have b2 : (x.kind == 2) = false := by simp [n2]
      subst hw0
      simp [law27_LoopOrder.b36, law27_LoopOrder.r7, law27_LoopOrder.r8, law27_LoopOrder.r9, law27_LoopOrder.r10, law27_LoopOrder.r11, law27_LoopOrder.r12, law27_LoopOrder.r14, k3, k21, k22, k23, he, okV, fV_eq, hi1, hin, hax, hst, hld, faddrV, evPick, b3, b5, b7, ofCells, hdo, evExt, s3, x3', b1, b2]
      simp [law27_LoopOrder.r16, law27_LoopOrder.r17, law27_LoopOrder.r21, k4, he, okV, fV_eq, faddrV, ofCells, x3', t4]
      refine go _ ?_ ?_ ?_ ?_ ?_ ?_ ?_ <;> simp [he, k3, k4, k5, k21, k22, k23]
    · have bw : (ww != 0) = true := by simp [hw0]
      simp [law27_LoopOrder.b36, law27_LoopOrder.r7, law27_LoopOrder.r8, law27_LoopOrder.r9, law27_LoopOrder.r10, law27_LoopOrder.r11, law27_LoopOrder.r12, law27_LoopOrder.r14, k3, k21, k22, k23, he, okV, fV_eq, hi1, hin, hax, hst, hld, faddrV, evPick, b3, b5, b7, ofCells, hdo, evExt, s3, x3', hw0, bw]
      simp [law27_LoopOrder.r16, law27_LoopOrder.r17, law27_LoopOrder.r21, k4, he, okV, fV_eq, faddrV, ofCells, x3', t4]
      refine go _ ?_ ?_ ?_ ?_ ?_ ?_ ?_ <;> simp [he, k3, k4, k5, k21, k22, k23]
end Go.Proofs.Lp
