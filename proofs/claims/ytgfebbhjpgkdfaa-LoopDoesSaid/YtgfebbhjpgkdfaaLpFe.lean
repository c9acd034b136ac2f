/- LoopCalls: a step by the call of its kind. LoopCalls: two loops, one step. No conditions. -/
import Derived.Test.YtgfebbhjpgkdfaaLpW
import Derived.Test.YtgfebbhjpgkdfaaLpFa
namespace Go.Proofs.Lp
open Go Go.Ev
set_option linter.unusedVariables false
set_option linter.unusedSimpArgs false

set_option maxHeartbeats 8000000 in
set_option maxRecDepth 8000 in
theorem by_call {h : Heap} {l : Nat} {L : LS} {f : Nat → Option Nat} (hr : Rep h l L f) (ht : tot L < 2 ^ 40) (hg0 : 0 ≤ L.given) (hg : L.given < 2 ^ 62) (hc0 : 0 ≤ L.clock) (hcm : L.clock ≤ 1125899906842624) (x : Step) :
    ∃ h' f', callW Φ law27_call [.ptr l 0, .agg (cS x)] h = some (.tup [.int .i64 (doA L x).1.1, .agg (cN (doA L x).1.2.1), .int .i64 (doA L x).1.2.2], h') ∧ Rep h' l (doA L x).2 f' ∧ Fr h h' l f f' := by
  obtain ⟨v, hr⟩ := hr
  obtain ⟨P, hP⟩ : ∃ P : V → Heap → Prop, P = fun r h' => r = .tup [.int .i64 (doA L x).1.1, .agg (cN (doA L x).1.2.1), .int .i64 (doA L x).1.2.2] ∧ ∃ f', Rep h' l (doA L x).2 f' ∧ Fr h h' l f f' := ⟨_, rfl⟩
  suffices hgo : ∃ r h', callW Φ law27_call [.ptr l 0, .agg (cS x)] h = some (r, h') ∧ P r h' by
    obtain ⟨r, h', h1, h2⟩ := hgo
    rw [hP] at h2
    obtain ⟨rfl, f', h3, h4⟩ := h2
    exact ⟨h', f', h1, h3, h4⟩
  have hll := (List.getElem?_eq_some_iff.1 hr.1).1
  obtain ⟨h0, hh0⟩ : ∃ h0, h0 = h ++ [Ob.cells (cS x), Ob.cells [.int .u8 0, .int .i64 0, .int .i64 0]] := ⟨_, rfl⟩
  have hr0v := hr.ext [Ob.cells (cS x), Ob.cells [.int .u8 0, .int .i64 0, .int .i64 0]]
  have hf0 := Fr.ext h l f [Ob.cells (cS x), Ob.cells [.int .u8 0, .int .i64 0, .int .i64 0]]
  rw [← hh0] at hr0v hf0
  have hr0 : Rep h0 l L f := ⟨v, hr0v⟩
  have hl0 : h0.length = h.length + 2 := by rw [hh0]; simp
  have hz0 : h0[h.length + 1]? = some (.cells [.int .u8 0, .int .i64 0, .int .i64 0]) := by rw [hh0]; simp
  have hx0 : ∀ off, cellsAt h0 (.ptr h.length off) = some ((cS x).drop off) := fun off => by rw [hh0]; simp [cellsAt]
  have hno : ∀ j, h.length ≤ j → ¬ own l f j := fun j hj ho => by
    have := Rep.lt ⟨v, hr⟩ ho
    omega
  have fin : ∀ (hp : Heap) (a b c : Int), hp[h.length + 1]? = some (.cells [.int .u8 0, .int .i64 0, .int .i64 0]) →
      evStoreV hp 3 (.ptr (h.length + 1) 0) (.agg [.int .u8 a, .int .i64 b, .int .i64 c]) = some (V.non, hp.set (h.length + 1) (.cells (cN (a, b, c)))) ∧
      cellsAt (hp.set (h.length + 1) (.cells (cN (a, b, c)))) (.ptr (h.length + 1) 0) = some [.int .u8 a, .int .i64 b, .int .i64 c] := by
    intro hp a b c hc
    have hlt : h.length + 1 < hp.length := (List.getElem?_eq_some_iff.1 hc).1
    exact ⟨by simp [evStoreV, evStore, hc, V.cells, V.isCell, setRange, cN], by simp [cellsAt, hlt, cN]⟩
  have fin2 : ∀ (hp : Heap) (L' : LS) (f' : Nat → Option Nat) (n : Int) (t : Int × Int × Int) (w : Int), Rep hp l L' f' → Fr h0 hp l f f' → doA L x = ((n, t, w), L') →
      hp[h.length + 1]? = some (.cells [.int .u8 0, .int .i64 0, .int .i64 0]) ∧ P (.tup [.int .i64 n, .agg [.int .u8 t.1, .int .i64 t.2.1, .int .i64 t.2.2], .int .i64 w]) (hp.set (h.length + 1) (.cells (cN t))) := by
    intro hp L' f' n t w hr' hfr hn
    have hno' : ¬ own l f' (h.length + 1) := fun ho => by
      rcases hfr.new _ ho with q | q
      · exact hno _ (by omega) q
      · omega
    refine ⟨by rw [hfr.rest _ (by omega) (hno _ (by omega))]; exact hz0, ?_⟩
    rw [hP]
    refine ⟨by rw [hn]; rfl, f', ?_, ?_⟩
    · rw [hn]
      exact hr'.mono (fun j hj => by rw [List.getElem?_set_ne (fun e => hno' (by rw [e]; exact hj))])
    · have hfr' := hf0.trans hfr
      exact ⟨by simpa using hfr'.len, fun j hj hnj => by rw [List.getElem?_set_ne (by omega)]; exact hfr'.rest j hj hnj, hfr'.new⟩
  have hbx : evBox h (cS x) = some (.ptr h.length 0, h ++ [Ob.cells (cS x)]) := by simp [evBox, cS, V.isCell]
  have hb0 : ∀ H, evBuild H [.int .u8 0, .int .i64 0, .int .i64 0] [] = some (.agg [.int .u8 0, .int .i64 0, .int .i64 0], H) := fun _ => rfl
  refine call_x law27_call.Φ rfl (Nat.le_of_ble_eq_true rfl) (fun env he g => ?_)
  have g0 := g 0 (by simp)
  have g1 := g 1 (by simp)
  change eget env 0 = .ptr l 0 at g0
  change eget env 1 = .agg (cS x) at g1
  clear g
  simp [law27_call.c] at he
  simp only [cS] at hbx hx0 g1 hh0
  simp [law27_call.c, law27_call.r0, law27_call.r1, law27_call.r2, g0, g1, he, okV, fV_eq, V.cells, hbx, ← hh0, hx0, faddrV]
  by_cases k1 : x.kind = 1
  · have h7 : ¬ x.kind = 7 := by omega
    obtain ⟨h1, f1, hc, hr1, hfr1⟩ := task_spec hr0 ht x.source x.id
    have hn : doA L x = ((0, (0, 0, 0), faultV L (decide (0 ≤ x.source ∧ x.source < 8))), taskL L x.source x.id) := by simp only [doA, doR, if_neg h7, if_pos k1]
    obtain ⟨hz, hp⟩ := fin2 h1 _ f1 _ _ _ hr1 hfr1 hn
    obtain ⟨s1, s2⟩ := fin h1 0 0 0 hz
    have hd : (decide (0 ≤ x.source) && decide (x.source < 8)) = decide (0 ≤ x.source ∧ x.source < 8) := by simp
    simp [law27_call.r3, law27_call.r4, g0, he, okV, fV_eq, hx0, faddrV, evExt, k1, hc, hb0, s1, s2, ofCells]
    simpa using hp
  have b1 : (x.kind == 1) = false := by simpa using k1
  by_cases k2 : x.kind = 2
  · have h7 : ¬ x.kind = 7 := by omega
    obtain ⟨h1, f1, hc, hr1, hfr1⟩ := micro_spec hr0 ht x.id
    have hn : doA L x = ((0, (0, 0, 0), faultV L true), microL L x.id) := by simp only [doA, doR, if_neg h7, if_neg k1, if_pos k2]
    obtain ⟨hz, hp⟩ := fin2 h1 _ f1 _ _ _ hr1 hfr1 hn
    obtain ⟨s1, s2⟩ := fin h1 0 0 0 hz
    simp [law27_call.r3, law27_call.r5, law27_call.r6, g0, he, okV, fV_eq, hx0, faddrV, evExt, k1, b1, k2, hc, hb0, s1, s2, ofCells]
    simpa using hp
  have b2 : (x.kind == 2) = false := by simpa using k2
  by_cases k3 : x.kind = 3
  · have h7 : ¬ x.kind = 7 := by omega
    obtain ⟨h1, f1, hc, hr1, hfr1⟩ := after_spec hr0 ht hg0 hg hc0 hcm x.ms x.level x.id
    have hn : doA L x = (((afterV L x.ms x.level).1, (0, 0, 0), (afterV L x.ms x.level).2), afterL L x.ms x.level x.id) := by simp only [doA, doR, if_neg h7, if_neg k1, if_neg k2, if_pos k3]
    obtain ⟨hz, hp⟩ := fin2 h1 _ f1 _ _ _ hr1 hfr1 hn
    obtain ⟨s1, s2⟩ := fin h1 0 0 0 hz
    simp [law27_call.r3, law27_call.r5, law27_call.r7, law27_call.r8, law27_call.r9, g0, he, okV, fV_eq, hx0, faddrV, evExt, k1, b1, k2, b2, k3, hc, hb0, s1, s2, ofCells]
    simpa using hp
  have b3 : (x.kind == 3) = false := by simpa using k3
  by_cases k4 : x.kind = 4
  · have h7 : ¬ x.kind = 7 := by omega
    obtain ⟨h1, f1, hc, hr1, hfr1⟩ := clear_spec hr0 ht x.timer
    have hn : doA L x = ((if (place x.timer L.tm).isSome then 1 else 0, (0, 0, 0), 0), clearL L x.timer) := by simp only [doA, doR, if_neg h7, if_neg k1, if_neg k2, if_neg k3, if_pos k4]
    obtain ⟨hz, hp⟩ := fin2 h1 _ f1 _ _ _ hr1 hfr1 hn
    obtain ⟨s1, s2⟩ := fin h1 0 0 0 hz
    cases hpl : (place x.timer L.tm).isSome with
    | true =>
      rw [hpl] at hc hp
      simp [law27_call.r3, law27_call.r5, law27_call.r7, law27_call.r10, law27_call.r11, law27_call.r12, law27_call.r13, g0, he, okV, fV_eq, hx0, faddrV, evExt, k1, b1, k2, b2, k3, b3, k4, hc, hb0, s1, s2, ofCells]
      simpa using hp
    | false =>
      rw [hpl] at hc hp
      simp [law27_call.r3, law27_call.r5, law27_call.r7, law27_call.r10, law27_call.r11, law27_call.r13, g0, he, okV, fV_eq, hx0, faddrV, evExt, k1, b1, k2, b2, k3, b3, k4, hc, hb0, s1, s2, ofCells]
      simpa using hp
  have b4 : (x.kind == 4) = false := by simpa using k4
  by_cases k5 : x.kind = 5
  · have h7 : ¬ x.kind = 7 := by omega
    obtain ⟨h1, f1, hc, hr1, hfr1⟩ := advance_spec hr0 ht hc0 hcm x.ms
    have hn : doA L x = ((advN L x.ms, (0, 0, 0), advV L x.ms), advL L x.ms) := by simp only [doA, doR, if_neg h7, if_neg k1, if_neg k2, if_neg k3, if_neg k4, if_pos k5]
    obtain ⟨hz, hp⟩ := fin2 h1 _ f1 _ _ _ hr1 hfr1 hn
    obtain ⟨s1, s2⟩ := fin h1 0 0 0 hz
    simp [law27_call.r3, law27_call.r5, law27_call.r7, law27_call.r10, law27_call.r14, law27_call.r15, law27_call.r16, g0, he, okV, fV_eq, hx0, faddrV, evExt, k1, b1, k2, b2, k3, b3, k4, b4, k5, hc, hb0, s1, s2, ofCells]
    simpa using hp
  have b5 : (x.kind == 5) = false := by simpa using k5
  by_cases k6 : x.kind = 6
  · have h7 : ¬ x.kind = 7 := by omega
    obtain ⟨h1, f1, hc, hr1, hfr1⟩ := next_spec hr0 ht x.source
    have hn : doA L x = ((0, (nextR L x.source).1, 0), (nextR L x.source).2) := by simp only [doA, doR, if_neg h7, if_neg k1, if_neg k2, if_neg k3, if_neg k4, if_neg k5, if_pos k6]
    obtain ⟨hz, hp⟩ := fin2 h1 _ f1 _ _ _ hr1 hfr1 hn
    obtain ⟨s1, s2⟩ := fin h1 (nextR L x.source).1.1 (nextR L x.source).1.2.1 (nextR L x.source).1.2.2 hz
    simp only [cN] at hc
    simp [law27_call.r3, law27_call.r5, law27_call.r7, law27_call.r10, law27_call.r14, law27_call.r17, law27_call.r18, g0, he, okV, fV_eq, hx0, faddrV, evExt, k1, b1, k2, b2, k3, b3, k4, b4, k5, b5, k6, hc, hb0, s1, s2, ofCells]
    simpa using hp
  have b6 : (x.kind == 6) = false := by simpa using k6
  by_cases k7 : x.kind = 7
  · obtain ⟨h1, f1, hc, hr1, hfr1⟩ := close_spec hr0
    have hn : doA L x = ((if L.closed then 0 else 1, (0, 0, 0), 0), closeL L) := by simp only [doA, if_pos k7]
    obtain ⟨hz, hp⟩ := fin2 h1 _ f1 _ _ _ hr1 hfr1 hn
    obtain ⟨s1, s2⟩ := fin h1 0 0 0 hz
    cases hcl : L.closed with
    | true =>
      rw [hcl] at hc hp
      simp only [Bool.not_true] at hc
      simp [law27_call.r3, law27_call.r5, law27_call.r7, law27_call.r10, law27_call.r14, law27_call.r17, law27_call.r19, law27_call.r20, law27_call.r22, g0, he, okV, fV_eq, hx0, faddrV, evExt, k1, b1, k2, b2, k3, b3, k4, b4, k5, b5, k6, b6, k7, hc, hb0, s1, s2, ofCells]
      simpa using hp
    | false =>
      rw [hcl] at hc hp
      simp only [Bool.not_false] at hc
      simp [law27_call.r3, law27_call.r5, law27_call.r7, law27_call.r10, law27_call.r14, law27_call.r17, law27_call.r19, law27_call.r20, law27_call.r21, law27_call.r22, g0, he, okV, fV_eq, hx0, faddrV, evExt, k1, b1, k2, b2, k3, b3, k4, b4, k5, b5, k6, b6, k7, hc, hb0, s1, s2, ofCells]
      simpa using hp
  have b7 : (x.kind == 7) = false := by simpa using k7
  have hn : doA L x = ((0, (0, 0, 0), 23), L) := by simp only [doA, doR, if_neg k1, if_neg k2, if_neg k3, if_neg k4, if_neg k5, if_neg k6, if_neg k7]
  obtain ⟨hz, hp⟩ := fin2 h0 _ f _ _ _ hr0 (.refl _ _ _) hn
  obtain ⟨s1, s2⟩ := fin h0 0 0 0 hz
  simp [law27_call.r3, law27_call.r5, law27_call.r7, law27_call.r10, law27_call.r14, law27_call.r17, law27_call.r19, law27_call.r23, g0, he, okV, fV_eq, hx0, faddrV, k1, b1, k2, b2, k3, b3, k4, b4, k5, b5, k6, b6, k7, b7, hb0, s1, s2, ofCells]
  simpa using hp
end Go.Proofs.Lp

namespace Go.Proofs.Lp
open Go Go.Ev
set_option linter.unusedVariables false
set_option linter.unusedSimpArgs false

theorem Rep.ext {h : Heap} {l : Nat} {L : LS} {f : Nat → Option Nat} (hr : Rep h l L f) (e : Heap) : Rep (h ++ e) l L f := by
  obtain ⟨v, hv⟩ := hr
  exact ⟨v, hv.ext e⟩
theorem cells_at {h : Heap} {a : Nat} {cs : List V} (ha : h[a]? = some (.cells cs)) : cellsAt h (.ptr a 0) = some cs := by simp [cellsAt, ha]

/-- Two loops' things are not the same. -/
def Dis (a : Nat) (fa : Nat → Option Nat) (b : Nat) (fb : Nat → Option Nat) : Prop := ∀ j, own a fa j → ¬ own b fb j
theorem Dis.symm {a b : Nat} {fa fb : Nat → Option Nat} (h : Dis a fa b fb) : Dis b fb a fa := fun j h1 h2 => h j h2 h1
theorem Dis.left {h h' : Heap} {a b : Nat} {fa fa' fb : Nat → Option Nat} (hd : Dis a fa b fb) (hf : Fr h h' a fa fa') (hb : ∀ j, own b fb j → j < h.length) : Dis a fa' b fb := fun j h1 h2 => by
  rcases hf.new j h1 with q | q
  · exact hd j q h2
  · have := hb j h2; omega
theorem Rep.apart {h h' : Heap} {a b : Nat} {fa fa' fb : Nat → Option Nat} {L : LS} (hr : Rep h b L fb) (hd : Dis a fa b fb) (hf : Fr h h' a fa fa') : Rep h' b L fb :=
  hr.mono fun j hj => hf.rest j (hr.lt hj) (fun ho => hd j ho hj)

theorem eq_turn (H : Heap) (t : Int × Int × Int) : evEqc H true (.cons 0 none (.leaf .i) (.cons 1 none (.leaf .i) (.cons 2 none (.leaf .i) .nil))) (.agg [.int .u8 t.1, .int .i64 t.2.1, .int .i64 t.2.2]) (.agg [.int .u8 t.1, .int .i64 t.2.1, .int .i64 t.2.2]) = some (.bool false, H) := by
  simp [evEqc, eqdV, ofCells, cellEq, okV, fV_eq]

set_option maxHeartbeats 4000000 in
/-- The same step of two loops. -/
theorem pair {hq : Heap} {a b : Nat} {L : LS} {fa fb : Nat → Option Nat} (ha : Rep hq a L fa) (hb : Rep hq b L fb) (hd : Dis a fa b fb) (ht : tot L < 2 ^ 40) (hg0 : 0 ≤ L.given) (hg : L.given < 2 ^ 62) (hc0 : 0 ≤ L.clock) (hcm : L.clock ≤ 1125899906842624)
    (x : Step) {F : V} (hF : ∀ h f, Rep h a L f → ∃ h' f', callW Φ F [.ptr a 0, .agg (cS x)] h = some (.tup [.int .i64 (doA L x).1.1, .agg (cN (doA L x).1.2.1), .int .i64 (doA L x).1.2.2], h') ∧ Rep h' a (doA L x).2 f' ∧ Fr h h' a f f') :
    ∃ (H1 H2 H3 H4 H5 : Heap) (fa' fb' : Nat → Option Nat),
      evStoreV (hq ++ [Ob.cells [.int .u8 0, .int .i64 0, .int .i64 0, .int .i64 0, .int .i64 0, .int .i64 0]]) 6 (.ptr hq.length 0) (.agg (cS x)) = some (V.non, H1) ∧
      cellsAt H1 (.ptr hq.length 0) = some (cS x) ∧
      callW Φ F [.ptr a 0, .agg (cS x)] H1 = some (.tup [.int .i64 (doA L x).1.1, .agg (cN (doA L x).1.2.1), .int .i64 (doA L x).1.2.2], H2) ∧
      evStoreV (H2 ++ [Ob.cells [.int .u8 0, .int .i64 0, .int .i64 0]]) 3 (.ptr H2.length 0) (.agg (cN (doA L x).1.2.1)) = some (V.non, H3) ∧
      cellsAt H3 (.ptr hq.length 0) = some (cS x) ∧
      callW Φ loop_Loop_Do [.ptr b 0, .agg (cS x)] H3 = some (.tup [.int .i64 (doA L x).1.1, .agg (cN (doA L x).1.2.1), .int .i64 (doA L x).1.2.2], H4) ∧
      evStoreV (H4 ++ [Ob.cells [.int .u8 0, .int .i64 0, .int .i64 0]]) 3 (.ptr H4.length 0) (.agg (cN (doA L x).1.2.1)) = some (V.non, H5) ∧
      cellsAt H5 (.ptr H2.length 0) = some (cN (doA L x).1.2.1) ∧ cellsAt H5 (.ptr H4.length 0) = some (cN (doA L x).1.2.1) ∧
      Rep H5 a (doA L x).2 fa' ∧ Rep H5 b (doA L x).2 fb' ∧ Dis a fa' b fb' ∧ hq.length ≤ H5.length ∧ (∀ j, j < hq.length → ¬ own a fa j → ¬ own b fb j → H5[j]? = hq[j]?) ∧
      (∀ j, own a fa' j → own a fa j ∨ hq.length ≤ j) ∧ ∀ j, own b fb' j → own b fb j ∨ hq.length ≤ j := by
  obtain ⟨t, hT⟩ : ∃ t, t = (doA L x).1.2.1 := ⟨_, rfl⟩
  obtain ⟨L', hL'⟩ : ∃ L', L' = (doA L x).2 := ⟨_, rfl⟩
  have hD := fun (h : Heap) f (hr : Rep h b L f) => do_all hr ht hg0 hg hc0 hcm x
  rw [← hT, ← hL'] at hF hD ⊢
  obtain ⟨H1, e1⟩ : ∃ H1, H1 = hq ++ [Ob.cells (cS x)] := ⟨_, rfl⟩
  have f1a : Fr hq H1 a fa fa := by rw [e1]; exact Fr.ext _ _ _ _
  have l1 : H1.length = hq.length + 1 := by rw [e1]; simp
  have ra1 : Rep H1 a L fa := by rw [e1]; exact ha.ext _
  have rb1 : Rep H1 b L fb := by rw [e1]; exact hb.ext _
  have x1 : H1[hq.length]? = some (.cells (cS x)) := by rw [e1]; simp
  obtain ⟨H2, fa', c2, ra2, f2⟩ := hF H1 fa ra1
  have d2 : Dis a fa' b fb := hd.left f2 (fun j hj => rb1.lt hj)
  have rb2 := rb1.apart hd f2
  have x2 : H2[hq.length]? = some (.cells (cS x)) := by rw [f2.rest _ (by omega) (fun ho => by have := ha.lt ho; omega)]; exact x1
  obtain ⟨H3, e3⟩ : ∃ H3, H3 = H2 ++ [Ob.cells (cN t)] := ⟨_, rfl⟩
  have l3 : H3.length = H2.length + 1 := by rw [e3]; simp
  have l2 := f2.len
  have ra3 : Rep H3 a L' fa' := by rw [e3]; exact ra2.ext _
  have rb3 : Rep H3 b L fb := by rw [e3]; exact rb2.ext _
  have x3 : H3[hq.length]? = some (.cells (cS x)) := by rw [e3, List.getElem?_append_left (by omega)]; exact x2
  have y3 : H3[H2.length]? = some (.cells (cN t)) := by rw [e3]; simp
  obtain ⟨H4, fb', c4, rb4, f4⟩ := hD H3 fb rb3
  have d4 : Dis a fa' b fb' := (d2.symm.left f4 (fun j hj => ra3.lt hj)).symm
  have ra4 := ra3.apart d2.symm f4
  have y4 : H4[H2.length]? = some (.cells (cN t)) := by rw [f4.rest _ (by omega) (fun ho => by have := rb2.lt ho; omega)]; exact y3
  obtain ⟨H5, e5⟩ : ∃ H5, H5 = H4 ++ [Ob.cells (cN t)] := ⟨_, rfl⟩
  have l4 := f4.len
  refine ⟨H1, H2, H3, H4, H5, fa', fb', ?_, cells_at x1, c2, ?_, cells_at x3, c4, ?_, cells_at ?_, cells_at ?_, ?_, ?_, d4, ?_, ?_, ?_, ?_⟩
  · rw [e1]; simp [evStoreV, evStore, V.cells, V.isCell, setRange, cS]
  · rw [e3]; simp [evStoreV, evStore, V.cells, V.isCell, setRange, cN]
  · rw [e5]; simp [evStoreV, evStore, V.cells, V.isCell, setRange, cN]
  · rw [e5, List.getElem?_append_left (by omega)]; exact y4
  · rw [e5]; simp
  · rw [e5]; exact ra4.ext _
  · rw [e5]; exact rb4.ext _
  · rw [e5]; simp; omega
  · intro j hj n1 n2
    rw [e5, List.getElem?_append_left (by omega), f4.rest j (by omega) n2, e3, List.getElem?_append_left (by omega), f2.rest j (by omega) n1, e1, List.getElem?_append_left hj]
  · intro j hj
    rcases f2.new j hj with q | q
    · exact .inl q
    · exact .inr (by omega)
  · intro j hj
    rcases f4.new j hj with q | q
    · exact .inl q
    · exact .inr (by omega)
end Go.Proofs.Lp
