/- The program's forest: nodes by themselves, whole. No conditions. -/
import Derived.Test.YtohcoghaaifmgaaItVa
set_option maxHeartbeats 16000000
set_option maxRecDepth 100000
set_option linter.unusedVariables false
set_option linter.unusedSimpArgs false
set_option linter.unusedSectionVars false
namespace Go.Proofs.It
open Go Go.Ev
def mpA (n : Nd) (t : Tr) : Bool := t.known && namingB n t && attrs n.attrs
def mpB (n : Nd) : Bool := shortB [n.pub, n.sys] && (n.kind == 10 || (beqS n.pub ⟨#[]⟩ && beqS n.sys ⟨#[]⟩))
def mpC (n : Nd) (t : Tr) : Bool := decide (n.data.length ≤ 16384) && (t.data || n.data.length == 0) && (t.kids || n.kids.length == 0)
def mpE (n : Nd) (t : Tr) : Bool := t.hung || n.parent == 0
def madeP (n : Nd) : Bool := mpA n (traits n.kind) && mpB n && mpC n (traits n.kind) && mdC n && mpE n (traits n.kind) && mdD n
theorem jZ0 (n : Nd) (hl : n.attrs.length < 2 ^ 50) (H : Heap) : callW Φ zZr [eN n] H = some (.bool (madeP n), H) := by
 have : ∃ hh, evBodyW (callW Φ) zZr.c [eN n] [] = some (.bool (madeP n), hh) := by
  obtain ⟨t, ht⟩ : ∃ t, t = traits n.kind := ⟨_, rfl⟩
  have hT := fun H => jZH n.kind H
  rw [← ht] at hT
  obtain ⟨K, hK⟩ : ∃ K : Heap, K = [Ob.cells (cN n), Ob.cells (cTr t)] := ⟨_, rfl⟩
  have hb : evBox [] (cN n) = some (.ptr 0 0, [Ob.cells (cN n)]) := cellsN [] n
  have hs1 : evStoreV [Ob.cells (cN n), .cells [.bool false, .bool false, .bool false, .bool false, .bool false, .bool false]] 6 (.ptr 1 0) (.agg (cTr t)) = some (V.non, K) := by
   rw [hK]; simp [evStoreV, evStore, setRange, V.cells, V.isCell, cTr]
  have c0 : cellsAt [Ob.cells (cN n)] (.ptr 0 0) = some (cN n) := rfl
  have ck : cellsAt K (.ptr 0 0) = some (cN n) := by rw [hK]; rfl
  have cK : ∀ E off, cellsAt (K ++ E) (.ptr 0 off) = some ((cN n).drop off) := fun E off => by rw [hK]; rfl
  have dK : ∀ E off, cellsAt (K ++ E) (.ptr 1 off) = some ((cTr t).drop off) := fun E off => by rw [hK]; rfl
  have cK0 : ∀ off, cellsAt K (.ptr 0 off) = some ((cN n).drop off) := fun off => by rw [hK]; rfl
  have dK0 : ∀ off, cellsAt K (.ptr 1 off) = some ((cTr t).drop off) := fun off => by rw [hK]; rfl
  refine qZE (Nat.le_of_ble_eq_true rfl) (fun env he h0 => ?_)
  have g0 := h0 0 (by simp)
  change eget env 0 = .agg (cN n) at g0
  clear h0
  simp [zZr.c] at he
  have hcc : (V.agg (cN n)).cells = cN n := rfl
  simp [zZr.c, zZr.r0, zZr.r1, zZr.r2, g0, he, hcc, hb, faddrP, c0, hT, hs1, ck]
  refine kNormalO (pm_r3 cK0 dK0 ?_ ?_ ?_ ?_ hl) ?_
  ·simp [he]
  ·simp [he]
  ·simp [he]
  ·simp [he]
  rintro ⟨e', mk, H'⟩ ⟨he', j1, j3, j4, hm, hh, j⟩
  simp only at he' j1 j3 j4 hm hh j
  obtain rfl := hm
  obtain rfl := hh
  have hA : mpA n t = (t.known && namingB n t && attrs n.attrs) := rfl
  rw [← hA] at j
  cases a1 : mpA n t with
  | false =>
   have hB : madeP n = false := by simp [madeP, ← ht, a1]
   rw [a1] at j
   rw [hB]
   simp [j, zZr.r4, he']
  | true =>
  rw [a1] at j
  simp [j]
  have e5 : zZr.r5 = List.take 6 zZr.r5 ++ List.drop 6 zZr.r5 := rfl
  rw [e5]
  refine kSplit ?_
  obtain ⟨K1, hK1⟩ : ∃ K1 : Heap, K1 = H' ++ [Ob.row 1 ([n.pub, n.sys].map cSt) 0 true] := ⟨_, rfl⟩
  obtain ⟨K2, hK2⟩ : ∃ K2 : Heap, K2 = H' ++ [Ob.row 1 ([n.pub, n.sys].map cSt) 0 false] := ⟨_, rfl⟩
  have hbs : evBslice H' [.str ⟨#[]⟩] 2 1 [(0, .str n.pub), (1, .str n.sys)] = some (.sl H'.length 0 0 2, K1) := by
   rw [hK1]
   simp [evBslice, placeParts, V.cells, V.isCell, setRange, chunks, cSt]
  have hs := vZR [n.pub, n.sys] (by simp) H'
  rw [← hK1, ← hK2] at hs
  simp only [List.length_cons, List.length_nil, Nat.zero_add, Nat.reduceAdd] at hs
  have cK2 : ∀ off, cellsAt K2 (.ptr 0 off) = some ((cN n).drop off) := fun off => by rw [hK2]; exact cK _ off
  have dK2 : ∀ off, cellsAt K2 (.ptr 1 off) = some ((cTr t).drop off) := fun off => by rw [hK2]; exact dK _ off
  refine kNormalP (I := fun s' => s'.env.length = 133 ∧ eget s'.env 1 = .ptr 0 0 ∧ eget s'.env 3 = .ptr 1 0 ∧ eget s'.env 4 = .bool (n.kind == 1) ∧ s'.marks = [] ∧ s'.heap = K2 ∧ eget s'.env 33 = .bool (shortB [n.pub, n.sys])) ?_ ?_
  ·simp [zZr.r5, j1, j3, j4, he', faddrP, cK0, hbs, hs]
  rintro ⟨e2, mk, H2⟩ ⟨he2, m1, m3, m4, hm, hh, m⟩
  simp only at he2 m1 m3 m4 hm hh m
  obtain rfl := hm
  obtain rfl := hh
  refine kNormalP (pm_r5b cK2 dK2 he2 m1 m3 m4 m) ?_
  rintro ⟨e3, mk, H3⟩ ⟨he3, n1, n3, n4, hm, hh, nn⟩
  simp only at he3 n1 n3 n4 hm hh nn
  obtain rfl := hm
  obtain rfl := hh
  have hA : mpB n = (shortB [n.pub, n.sys] && (n.kind == 10 || (beqS n.pub ⟨#[]⟩ && beqS n.sys ⟨#[]⟩))) := rfl
  rw [← hA] at nn
  cases a2 : mpB n with
  | false =>
   have hB : madeP n = false := by simp [madeP, ← ht, a1, a2]
   rw [a2] at nn
   rw [hB]
   simp [nn, zZr.r6, he3]
  | true =>
  rw [a2] at nn
  simp [nn]
  refine kNormalO (pm_r7 cK2 dK2 he3 n1 n3 n4) ?_
  rintro ⟨e4, mk, H4⟩ ⟨he4, o1, o3, o4, hm, hh, oo⟩
  simp only at he4 o1 o3 o4 hm hh oo
  obtain rfl := hm
  obtain rfl := hh
  have hA : mpC n t = (decide (n.data.length ≤ 16384) && (t.data || n.data.length == 0) && (t.kids || n.kids.length == 0)) := rfl
  rw [← hA] at oo
  cases a3 : mpC n t with
  | false =>
   have hB : madeP n = false := by simp [madeP, ← ht, a1, a2, a3]
   rw [a3] at oo
   rw [hB]
   simp [oo, zZr.r8, he4]
  | true =>
  rw [a3] at oo
  simp [oo]
  refine kNormalO (pm_r9 cK2 dK2 he4 o1 o3 o4) ?_
  rintro ⟨e5, mk, H5⟩ ⟨he5, p1, p3, p4, hm, hh, pp⟩
  simp only at he5 p1 p3 p4 hm hh pp
  obtain rfl := hm
  obtain rfl := hh
  cases a4 : mdC n with
  | false =>
   have hB : madeP n = false := by simp [madeP, ← ht, a1, a2, a3, a4]
   rw [a4] at pp
   rw [hB]
   simp [pp, zZr.r10, he5]
  | true =>
  rw [a4] at pp
  simp [pp]
  refine kNormalO (pm_r11 cK2 dK2 he5 p1 p3 p4) ?_
  rintro ⟨e6, mk, H6⟩ ⟨he6, q1, q3, q4, hm, hh, qq⟩
  simp only at he6 q1 q3 q4 hm hh qq
  obtain rfl := hm
  obtain rfl := hh
  have hA : mpE n t = (t.hung || n.parent == 0) := rfl
  rw [← hA] at qq
  cases a5 : mpE n t with
  | false =>
   have hB : madeP n = false := by simp [madeP, ← ht, a1, a2, a3, a4, a5]
   rw [a5] at qq
   rw [hB]
   simp [qq, zZr.r12, he6]
  | true =>
  rw [a5] at qq
  have hB : madeP n = mdD n := by simp [madeP, ← ht, a1, a2, a3, a4, a5]
  rw [hB]
  have ck2 := cK2 0
  simp only [List.drop_zero] at ck2
  cases k12 : (n.kind == 12) with
  | true =>
   simp [qq, zZr.r13, q1, he6, faddrP, ck2, k12]
   refine kNormalO (pm_r14 cK2 dK2 (by simp [he6]) (by simp [q1]) (by simp [q3]) (by simp [q4])) ?_
   rintro ⟨e7, mk, H7⟩ ⟨he7, r1, r3, r4, hm, hh, rr⟩
   simp only at he7 r1 r3 r4 hm hh rr
   obtain rfl := hm
   simp [rr, mdD, k12]
  | false =>
   simp [qq, zZr.r13, q1, he6, faddrP, ck2, k12]
   refine kNormalO (pm_r15 cK2 dK2 (by simp [he6]) (by simp [q1]) (by simp [q3]) (by simp [q4])) ?_
   rintro ⟨e7, mk, H7⟩ ⟨he7, r1, r3, r4, hm, hh, rr⟩
   simp only at he7 r1 r3 r4 hm hh rr
   obtain rfl := hm
   simp [rr, mdD, k12]
 obtain ⟨h', hb⟩ := this
 exact zZQ (h := H) zZr.Φ rfl (args := [eN n]) rfl hb rfl
theorem madeP_eq (n : Nd) : madeP n = made n := by
 have hk : n.kind = 1 ∨ n.kind = 3 ∨ n.kind = 4 ∨ n.kind = 8 ∨ n.kind = 7 ∨ n.kind = 10 ∨ n.kind = 9 ∨ n.kind = 11 ∨ n.kind = 12 ∨ (n.kind ≠ 1 ∧ n.kind ≠ 3 ∧ n.kind ≠ 4 ∧ n.kind ≠ 8 ∧ n.kind ≠ 7 ∧ n.kind ≠ 10 ∧ n.kind ≠ 9 ∧ n.kind ≠ 11 ∧ n.kind ≠ 12) := by omega
 unfold madeP made mpA mpB mpC mpE mdA mdN mdB mdC mdD mdE
 rcases hk with h | h | h | h | h | h | h | h | h | ⟨h1, h3, h4, h8, h7, h10, h9, h11, h12⟩
 all_goals simp [*, traits, namingB, shortB, known, hasData, hasKids]
 all_goals try ac_rfl
theorem kZm (n : Nd) (hl : n.attrs.length < 2 ^ 50) (H : Heap) : callW Φ zZr [eN n] H = some (.bool (made n), H) := by
 rw [← madeP_eq]
 exact jZ0 n hl H
end Go.Proofs.It
