/- LoopCalls: two loops, one step. No conditions. -/
import Derived.Test.YtgfebbhjpgkdfaaLpFd
import Derived.Test.YtgfebbhjpgkdfaaLpFe
namespace Go.Proofs.Lp
open Go Go.Ev
set_option linter.unusedVariables false
set_option linter.unusedSimpArgs false

theorem Rep.ext {h : Heap} {l : Nat} {L : LS} {f : Nat → Option Nat} (hr : Rep h l L f) (e : Heap) : Rep (h ++ e) l L f := by
  obtain ⟨v, hv⟩ := hr
  exact ⟨v, hv.ext e⟩
theorem cells_at {h : Heap} {a : Nat} {cs : List V} (ha : h[a]? = some (.cells cs)) : cellsAt h (.ptr a 0) = some cs := by simp [cellsAt, ha]

/-- Two loops' things are not the same. -/
def Dis (a : Nat) (fa : Nat → Option Nat) (b : Nat) (fb : Nat → Option Nat) : Prop := ∀ j, own a fa j → ¬ own b fb j
theorem Dis.symm {a b : Nat} {fa fb : Nat → Option Nat} (h : Dis a fa b fb) : Dis b fb a fa := fun j h1 h2 => h j h2 h1
theorem Dis.left {h h' : Heap} {a b : Nat} {fa fa' fb : Nat → Option Nat} (hd : Dis a fa b fb) (hf : Fr h h' a fa fa') (hb : ∀ j, own b fb j → j < h.length) : Dis a fa' b fb := fun j h1 h2 => by
  rcases hf.new j h1 with q | q
  · exact hd j q h2
  · have := hb j h2; omega
theorem Rep.apart {h h' : Heap} {a b : Nat} {fa fa' fb : Nat → Option Nat} {L : LS} (hr : Rep h b L fb) (hd : Dis a fa b fb) (hf : Fr h h' a fa fa') : Rep h' b L fb :=
  hr.mono fun j hj => hf.rest j (hr.lt hj) (fun ho => hd j ho hj)

theorem eq_turn (H : Heap) (t : Int × Int × Int) : evEqc H true (.cons 0 none (.leaf .i) (.cons 1 none (.leaf .i) (.cons 2 none (.leaf .i) .nil))) (.agg [.int .u8 t.1, .int .i64 t.2.1, .int .i64 t.2.2]) (.agg [.int .u8 t.1, .int .i64 t.2.1, .int .i64 t.2.2]) = some (.bool false, H) := by
  simp [evEqc, eqdV, ofCells, cellEq, okV, fV_eq]

set_option maxHeartbeats 4000000 in
/-- The same step of two loops. -/
theorem pair {hq : Heap} {a b : Nat} {L : LS} {fa fb : Nat → Option Nat} (ha : Rep hq a L fa) (hb : Rep hq b L fb) (hd : Dis a fa b fb) (ht : tot L < 2 ^ 40) (hg0 : 0 ≤ L.given) (hg : L.given < 2 ^ 62) (hc0 : 0 ≤ L.clock) (hcm : L.clock ≤ 1125899906842624)
    (x : Step) {F : V} (hF : ∀ h f, Rep h a L f → ∃ h' f', callW Φ F [.ptr a 0, .agg (cS x)] h = some (.tup [.int .i64 (doA L x).1.1, .agg (cN (doA L x).1.2.1), .int .i64 (doA L x).1.2.2], h') ∧ Rep h' a (doA L x).2 f' ∧ Fr h h' a f f') :
    ∃ (H1 H2 H3 H4 H5 : Heap) (fa' fb' : Nat → Option Nat),
      evStoreV (hq ++ [Ob.cells [.int .u8 0, .int .i64 0, .int .i64 0, .int .i64 0, .int .i64 0, .int .i64 0]]) 6 (.ptr hq.length 0) (.agg (cS x)) = some (V.non, H1) ∧
      cellsAt H1 (.ptr hq.length 0) = some (cS x) ∧
      callW Φ F [.ptr a 0, .agg (cS x)] H1 = some (.tup [.int .i64 (doA L x).1.1, .agg (cN (doA L x).1.2.1), .int .i64 (doA L x).1.2.2], H2) ∧
      evStoreV (H2 ++ [Ob.cells [.int .u8 0, .int .i64 0, .int .i64 0]]) 3 (.ptr H2.length 0) (.agg (cN (doA L x).1.2.1)) = some (V.non, H3) ∧
      cellsAt H3 (.ptr hq.length 0) = some (cS x) ∧
      callW Φ loop_Loop_Do [.ptr b 0, .agg (cS x)] H3 = some (.tup [.int .i64 (doA L x).1.1, .agg (cN (doA L x).1.2.1), .int .i64 (doA L x).1.2.2], H4) ∧
      evStoreV (H4 ++ [Ob.cells [.int .u8 0, .int .i64 0, .int .i64 0]]) 3 (.ptr H4.length 0) (.agg (cN (doA L x).1.2.1)) = some (V.non, H5) ∧
      cellsAt H5 (.ptr H2.length 0) = some (cN (doA L x).1.2.1) ∧ cellsAt H5 (.ptr H4.length 0) = some (cN (doA L x).1.2.1) ∧
      Rep H5 a (doA L x).2 fa' ∧ Rep H5 b (doA L x).2 fb' ∧ Dis a fa' b fb' ∧ hq.length ≤ H5.length ∧ (∀ j, j < hq.length → ¬ own a fa j → ¬ own b fb j → H5[j]? = hq[j]?) ∧
      (∀ j, own a fa' j → own a fa j ∨ hq.length ≤ j) ∧ ∀ j, own b fb' j → own b fb j ∨ hq.length ≤ j := by
  obtain ⟨t, hT⟩ : ∃ t, t = (doA L x).1.2.1 := ⟨_, rfl⟩
  obtain ⟨L', hL'⟩ : ∃ L', L' = (doA L x).2 := ⟨_, rfl⟩
  have hD := fun (h : Heap) f (hr : Rep h b L f) => do_all hr ht hg0 hg hc0 hcm x
  rw [← hT, ← hL'] at hF hD ⊢
  obtain ⟨H1, e1⟩ : ∃ H1, H1 = hq ++ [Ob.cells (cS x)] := ⟨_, rfl⟩
  have f1a : Fr hq H1 a fa fa := by rw [e1]; exact Fr.ext _ _ _ _
  have l1 : H1.length = hq.length + 1 := by rw [e1]; simp
  have ra1 : Rep H1 a L fa := by rw [e1]; exact ha.ext _
  have rb1 : Rep H1 b L fb := by rw [e1]; exact hb.ext _
  have x1 : H1[hq.length]? = some (.cells (cS x)) := by rw [e1]; simp
  obtain ⟨H2, fa', c2, ra2, f2⟩ := hF H1 fa ra1
  have d2 : Dis a fa' b fb := hd.left f2 (fun j hj => rb1.lt hj)
  have rb2 := rb1.apart hd f2
  have x2 : H2[hq.length]? = some (.cells (cS x)) := by rw [f2.rest _ (by omega) (fun ho => by have := ha.lt ho; omega)]; exact x1
  obtain ⟨H3, e3⟩ : ∃ H3, H3 = H2 ++ [Ob.cells (cN t)] := ⟨_, rfl⟩
  have l3 : H3.length = H2.length + 1 := by rw [e3]; simp
  have l2 := f2.len
  have ra3 : Rep H3 a L' fa' := by rw [e3]; exact ra2.ext _
  have rb3 : Rep H3 b L fb := by rw [e3]; exact rb2.ext _
  have x3 : H3[hq.length]? = some (.cells (cS x)) := by rw [e3, List.getElem?_append_left (by omega)]; exact x2
  have y3 : H3[H2.length]? = some (.cells (cN t)) := by rw [e3]; simp
  obtain ⟨H4, fb', c4, rb4, f4⟩ := hD H3 fb rb3
  have d4 : Dis a fa' b fb' := (d2.symm.left f4 (fun j hj => ra3.lt hj)).symm
  have ra4 := ra3.apart d2.symm f4
  have y4 : H4[H2.length]? = some (.cells (cN t)) := by rw [f4.rest _ (by omega) (fun ho => by have := rb2.lt ho; omega)]; exact y3
  obtain ⟨H5, e5⟩ : ∃ H5, H5 = H4 ++ [Ob.cells (cN t)] := ⟨_, rfl⟩
  have l4 := f4.len
  refine ⟨H1, H2, H3, H4, H5, fa', fb', ?_, cells_at x1, c2, ?_, cells_at x3, c4, ?_, cells_at ?_, cells_at ?_, ?_, ?_, d4, ?_, ?_, ?_, ?_⟩
  · rw [e1]; simp [evStoreV, evStore, V.cells, V.isCell, setRange, cS]
  · rw [e3]; simp [evStoreV, evStore, V.cells, V.isCell, setRange, cN]
  · rw [e5]; simp [evStoreV, evStore, V.cells, V.isCell, setRange, cN]
  · rw [e5, List.getElem?_append_left (by omega)]; exact y4
  · rw [e5]; simp
  · rw [e5]; exact ra4.ext _
  · rw [e5]; exact rb4.ext _
  · rw [e5]; simp; omega
  · intro j hj n1 n2
    rw [e5, List.getElem?_append_left (by omega), f4.rest j (by omega) n2, e3, List.getElem?_append_left (by omega), f2.rest j (by omega) n1, e1, List.getElem?_append_left hj]
  · intro j hj
    rcases f2.new j hj with q | q
    · exact .inl q
    · exact .inr (by omega)
  · intro j hj
    rcases f4.new j hj with q | q
    · exact .inl q
    · exact .inr (by omega)
end Go.Proofs.Lp
