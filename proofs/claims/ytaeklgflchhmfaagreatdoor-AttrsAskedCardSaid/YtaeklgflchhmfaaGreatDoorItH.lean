/- Attributes of a node: the document's answer. Nodes by themselves: the document's answer. No conditions. -/
import Derived.Test.YtaeklgflchhmfaaGreatDoorItD
import Derived.Test.YtaeklgflchhmfaaGreatDoorItO
set_option maxHeartbeats 16000000
set_option maxRecDepth 100000
set_option linter.unusedVariables false
set_option linter.unusedSimpArgs false
set_option linter.unusedSectionVars false
namespace Go.Proofs.It
open Go Go.Ev
def attrsGo : List Atr → List Atr → Bool
 | _, [] => true
 | pre, a :: r => named a.nm && decide (a.val.size ≤ 4096) && decide (find pre a.nm 0 < 0) && attrsGo (pre ++ [a]) r
def attrs (l : List Atr) : Bool := decide (l.length ≤ 64) && attrsGo [] l
theorem slice_to {h : Heap} {sz i : Nat} {xs : List (List V)} (hz : szOk sz xs = true) (hi : i ≤ xs.length) : sliceV .l h sz (.arr xs) none (some (.int .i64 i)) = some (.arr (xs.take i)) := by
 have b : bound (.int .i64 i) xs.length = some i := by
  rw [bound, if_pos ⟨by omega, by omega⟩, Int.toNat_natCast]
 simp only [sliceV, sliceL, lohi, b, hz]
 simp
theorem kZA (l : List Atr) (hlen : l.length < 2 ^ 50) (H : Heap) : callW Φ zZt [eAs l] H = some (.bool (attrs l), H) := by
 have : ∃ hh, evBodyW (callW Φ) zZt.c [eAs l] [] = some (.bool (attrs l), hh) := by
  refine qZ3 (Nat.le_of_ble_eq_true rfl) (fun env he h0 => ?_)
  have g0 := h0 0 (by simp)
  change eget env 0 = eAs l at g0
  clear h0
  simp [zZt.c] at he
  by_cases h64 : l.length ≤ 64
  case neg =>
   have h1 : (64 : Int) < (l.length : Int) := by omega
   simp [zZt.c, zZt.r0, zZt.r1, zZt.r2, g0, he, eAs, h1, attrs, h64]
  have h1 : ¬ (64 : Int) < (l.length : Int) := by omega
  simp [zZt.c, zZt.r0, zZt.r1, zZt.r3, g0, he, eAs, h1]
  refine kLoop (fun m s => ∃ i : Nat, m = l.length - i ∧ i ≤ l.length ∧ s.env.length = 35 ∧ eget s.env 0 = .arr (l.map cA) ∧ eget s.env 8 = .arr (l.map cA) ∧ eget s.env 9 = .int .i64 l.length ∧ eget s.env 10 = .int .i64 i ∧ s.marks = [] ∧ attrs l = attrsGo (l.take i) (l.drop i)) l.length ⟨0, by simp [g0, he, eAs, attrs, h64]⟩ ?_
  rintro m ⟨e, mk, hp⟩ ⟨i, rfl, hi, he, k0, k8, k9, k10, hm, hat⟩
  simp only at he k0 k8 k9 k10 hm
  subst hm
  by_cases hlt : i < l.length
  ·obtain ⟨x, hx⟩ : ∃ x, l[i]? = some x := ⟨l[i], by simp [hlt]⟩
   have hw : IntKind.i64.wrap ((i : Int) + 1) = ((i + 1 : Nat) : Int) := by rw [Ev.wrap64] <;> omega
   rw [vZI hx] at hat
   simp only [attrsGo] at hat
   obtain ⟨H2, hH2⟩ : ∃ H2 : Heap, H2 = hp ++ [Ob.cells (cA x)] := ⟨_, rfl⟩
   have hs : evStoreV (hp ++ [.cells [.str ⟨#[]⟩, .str ⟨#[]⟩, .str ⟨#[]⟩, .str ⟨#[]⟩]]) 4 (.ptr hp.length 0) (.agg (cA x)) = some (V.non, H2) := by
    rw [hH2, storeA]; simp [evStore, setRange, wZr, ob_set]
   have hcl : ∀ off : Nat, cellsAt H2 (.ptr hp.length off) = some ((cA x).drop off) := fun off => by rw [hH2]; exact wZc (ob_last hp _)
   have hcl0 := hcl 0
   have hcl3 := hcl 3
   have hnm := fun H => wZM x.nm H
   have hfd := fun H => wZZ (l.take i) x.nm (by rw [List.length_take]; omega) H
   have hsl := slice_to (h := H2) (sz := 4) (i := i) (xs := l.map cA) (by simp [szOk, wZr]) (by rw [List.length_map]; omega)
   simp only [eNm] at hnm
   simp only [eNm, eAs, List.map_take] at hfd
   have htk : l.take (i + 1) = l.take i ++ [x] := by rw [List.take_add_one, hx]; rfl
   have ha1 := qZU (h := hp) (k := .i64) wZr hx
   simp only [cA, List.drop_zero, List.drop_succ_cons] at hcl0 hcl3 hs
   cases hn : named x.nm with
   | false =>
    rw [hn] at hat
    simp only [Bool.false_and] at hat
    rw [hat]
    simp only [hn] at hnm
    simp [zZt.b9, zZt.r4, zZt.r5, k0, k8, k9, k10, he, hlt, ha1, okA, cA, hs]
    refine kDraw1 zZt.r6.ord ?_
    simp (config := { maxSteps := 5000000 }) [zZt.r6, zZt.r7, List.filterMap_cons, k0, k8, k9, k10, he, hcl0, hcl3, hnm, evPick]
   | true =>
    rw [hn] at hat
    simp only [Bool.true_and] at hat
    simp only [hn] at hnm
    by_cases hv : x.val.size ≤ 4096
    case neg =>
     have hv' : (4096 : Int) < (x.val.size : Int) := by omega
     simp only [hv, decide_false, Bool.false_and] at hat
     rw [hat]
     simp [zZt.b9, zZt.r4, zZt.r5, k0, k8, k9, k10, he, hlt, ha1, okA, cA, hs]
     refine kDraw1 zZt.r6.ord ?_
     simp (config := { maxSteps := 5000000 }) [zZt.r6, zZt.r7, List.filterMap_cons, k0, k8, k9, k10, he, hcl0, hcl3, hnm, evPick, hv']
    have hv' : ¬ (4096 : Int) < (x.val.size : Int) := by omega
    simp only [hv, decide_true, Bool.true_and] at hat
    by_cases hf : find (l.take i) x.nm 0 < 0
    case neg =>
     have hf' : (0 : Int) ≤ find (l.take i) x.nm 0 := by omega
     simp only [hf, decide_false, Bool.false_and] at hat
     rw [hat]
     simp [zZt.b9, zZt.r4, zZt.r5, k0, k8, k9, k10, he, hlt, ha1, okA, cA, hs]
     refine kDraw1 zZt.r6.ord ?_
     simp (config := { maxSteps := 5000000 }) [zZt.r6, zZt.r7, List.filterMap_cons, k0, k8, k9, k10, he, hcl0, hcl3, hnm, evPick, hv', hsl, hfd, hf']
    have hf' : ¬ (0 : Int) ≤ find (l.take i) x.nm 0 := by omega
    simp only [hf, decide_true, Bool.true_and] at hat
    simp [zZt.b9, zZt.r4, zZt.r5, k0, k8, k9, k10, he, hlt, ha1, okA, cA, hs]
    refine kDraw1 zZt.r6.ord ?_
    simp (config := { maxSteps := 5000000 }) [zZt.r6, zZt.r8, List.filterMap_cons, k0, k8, k9, k10, he, hcl0, hcl3, hnm, evPick, hv', hsl, hfd, hf']
    exact ⟨l.length - (i + 1), by omega, i + 1, rfl, by omega, by simpa using hw, by rw [hat, htk]⟩
  ·have : i = l.length := by omega
   subst this
   rw [hat]
   simp [zZt.b9, zZt.r4, zZt.r10, k0, k8, k9, k10, he, attrsGo]
 obtain ⟨h', hb⟩ := this
 exact zZ4 (h := H) zZt.Φ rfl (args := [eAs l]) rfl hb rfl
open Go Go.Ev
theorem faddrP (n id o : Nat) : faddrV n (.ptr id o) = some (.ptr id (o + n)) := rfl
theorem okMn : (1 : Nat) = 1 := rfl
theorem jZv (s : ByteArray) : beqS s s = true := by simp [beqS]
theorem eqc_nm (H : Heap) (a b : Nm) : evEqc H true (.cons 0 none (.leaf .s) (.cons 1 none (.leaf .s) (.cons 2 none (.leaf .s) .nil))) (eNm a) (eNm b) = some (.bool (!(beqS a.sp b.sp && beqS a.pr b.pr && beqS a.lo b.lo)), H) := by
 cases h1 : beqS a.sp b.sp <;> cases h2 : beqS a.pr b.pr <;> cases h3 : beqS a.lo b.lo <;> simp [evEqc, eqdV, ofCells, cellEq, okV, fV_eq, eNm, h1, h2, h3]
def mdA (n : Nd) : Bool := known n.kind && decide (n.pub.size ≤ 1024) && decide (n.sys.size ≤ 1024) && decide (n.data.length ≤ 16384) && attrs n.attrs
def mdB (n : Nd) : Bool := (n.kind == 10 || (beqS n.pub ⟨#[]⟩ && beqS n.sys ⟨#[]⟩)) && (hasData n.kind || n.data.length == 0) && (hasKids n.kind || n.kids.length == 0)
def mdC (n : Nd) : Bool := (n.kind == 1 || (n.attrs.length == 0 && n.shadow == 0)) && (n.kind == 9 || !n.html)
end Go.Proofs.It
