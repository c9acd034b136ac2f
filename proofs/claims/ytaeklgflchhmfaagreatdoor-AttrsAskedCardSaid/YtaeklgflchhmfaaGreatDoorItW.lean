/- The program's forest: nodes by themselves, whole. The program's forest: a node's kids. No conditions. -/
import Derived.Test.YtaeklgflchhmfaaGreatDoorItVa
import Derived.Test.YtaeklgflchhmfaaGreatDoorItU
import Derived.Test.YtaeklgflchhmfaaGreatDoorItM
set_option maxHeartbeats 16000000
set_option maxRecDepth 100000
set_option linter.unusedVariables false
set_option linter.unusedSimpArgs false
set_option linter.unusedSectionVars false
namespace Go.Proofs.It
open Go Go.Ev
def mpA (n : Nd) (t : Tr) : Bool := t.known && namingB n t && attrs n.attrs
def mpB (n : Nd) : Bool := shortB [n.pub, n.sys] && (n.kind == 10 || (beqS n.pub ⟨#[]⟩ && beqS n.sys ⟨#[]⟩))
def mpC (n : Nd) (t : Tr) : Bool := decide (n.data.length ≤ 16384) && (t.data || n.data.length == 0) && (t.kids || n.kids.length == 0)
def mpE (n : Nd) (t : Tr) : Bool := t.hung || n.parent == 0
def madeP (n : Nd) : Bool := mpA n (traits n.kind) && mpB n && mpC n (traits n.kind) && mdC n && mpE n (traits n.kind) && mdD n
theorem jZ8 (n : Nd) (hl : n.attrs.length < 2 ^ 50) (H : Heap) : callW Φ zZp [eN n] H = some (.bool (madeP n), H) := by
 have : ∃ hh, evBodyW (callW Φ) zZp.c [eN n] [] = some (.bool (madeP n), hh) := by
  obtain ⟨t, ht⟩ : ∃ t, t = traits n.kind := ⟨_, rfl⟩
  have hT := fun H => jZG n.kind H
  rw [← ht] at hT
  obtain ⟨K, hK⟩ : ∃ K : Heap, K = [Ob.cells (cN n), Ob.cells (cTr t)] := ⟨_, rfl⟩
  have hb : evBox [] (cN n) = some (.ptr 0 0, [Ob.cells (cN n)]) := cellsN [] n
  have hs1 : evStoreV [Ob.cells (cN n), .cells [.bool false, .bool false, .bool false, .bool false, .bool false, .bool false]] 6 (.ptr 1 0) (.agg (cTr t)) = some (V.non, K) := by
   rw [hK]; simp [evStoreV, evStore, setRange, V.cells, V.isCell, cTr]
  have c0 : cellsAt [Ob.cells (cN n)] (.ptr 0 0) = some (cN n) := rfl
  have ck : cellsAt K (.ptr 0 0) = some (cN n) := by rw [hK]; rfl
  have cK : ∀ E off, cellsAt (K ++ E) (.ptr 0 off) = some ((cN n).drop off) := fun E off => by rw [hK]; rfl
  have dK : ∀ E off, cellsAt (K ++ E) (.ptr 1 off) = some ((cTr t).drop off) := fun E off => by rw [hK]; rfl
  have cK0 : ∀ off, cellsAt K (.ptr 0 off) = some ((cN n).drop off) := fun off => by rw [hK]; rfl
  have dK0 : ∀ off, cellsAt K (.ptr 1 off) = some ((cTr t).drop off) := fun off => by rw [hK]; rfl
  refine qZ3 (Nat.le_of_ble_eq_true rfl) (fun env he h0 => ?_)
  have g0 := h0 0 (by simp)
  change eget env 0 = .agg (cN n) at g0
  clear h0
  simp [zZp.c] at he
  have hcc : (V.agg (cN n)).cells = cN n := rfl
  simp [zZp.c, zZp.r0, zZp.r1, zZp.r2, g0, he, hcc, hb, faddrP, c0, hT, hs1, ck]
  refine kNormalO (pm_r3 cK0 dK0 ?_ ?_ ?_ ?_ hl) ?_
  ·simp [he]
  ·simp [he]
  ·simp [he]
  ·simp [he]
  rintro ⟨e', mk, H'⟩ ⟨he', j1, j3, j4, hm, hh, j⟩
  simp only at he' j1 j3 j4 hm hh j
  obtain rfl := hm
  obtain rfl := hh
  have hA : mpA n t = (t.known && namingB n t && attrs n.attrs) := rfl
  rw [← hA] at j
  cases a1 : mpA n t with
  | false =>
   have hB : madeP n = false := by simp [madeP, ← ht, a1]
   rw [a1] at j
   rw [hB]
   simp [j, zZp.r4, he']
  | true =>
  rw [a1] at j
  simp [j]
  have e5 : zZp.r5 = List.take 6 zZp.r5 ++ List.drop 6 zZp.r5 := rfl
  rw [e5]
  refine kSplit ?_
  obtain ⟨K1, hK1⟩ : ∃ K1 : Heap, K1 = H' ++ [Ob.row 1 ([n.pub, n.sys].map cSt) 0 true] := ⟨_, rfl⟩
  obtain ⟨K2, hK2⟩ : ∃ K2 : Heap, K2 = H' ++ [Ob.row 1 ([n.pub, n.sys].map cSt) 0 false] := ⟨_, rfl⟩
  have hbs : evBslice H' [.str ⟨#[]⟩] 2 1 [(0, .str n.pub), (1, .str n.sys)] = some (.sl H'.length 0 0 2, K1) := by
   rw [hK1]
   simp [evBslice, placeParts, V.cells, V.isCell, setRange, chunks, cSt]
  have hs := vZX [n.pub, n.sys] (by simp) H'
  rw [← hK1, ← hK2] at hs
  simp only [List.length_cons, List.length_nil, Nat.zero_add, Nat.reduceAdd] at hs
  have cK2 : ∀ off, cellsAt K2 (.ptr 0 off) = some ((cN n).drop off) := fun off => by rw [hK2]; exact cK _ off
  have dK2 : ∀ off, cellsAt K2 (.ptr 1 off) = some ((cTr t).drop off) := fun off => by rw [hK2]; exact dK _ off
  refine kNormalP (I := fun s' => s'.env.length = 133 ∧ eget s'.env 1 = .ptr 0 0 ∧ eget s'.env 3 = .ptr 1 0 ∧ eget s'.env 4 = .bool (n.kind == 1) ∧ s'.marks = [] ∧ s'.heap = K2 ∧ eget s'.env 33 = .bool (shortB [n.pub, n.sys])) ?_ ?_
  ·simp [zZp.r5, j1, j3, j4, he', faddrP, cK0, hbs, hs]
  rintro ⟨e2, mk, H2⟩ ⟨he2, m1, m3, m4, hm, hh, m⟩
  simp only at he2 m1 m3 m4 hm hh m
  obtain rfl := hm
  obtain rfl := hh
  refine kNormalP (pm_r5b cK2 dK2 he2 m1 m3 m4 m) ?_
  rintro ⟨e3, mk, H3⟩ ⟨he3, n1, n3, n4, hm, hh, nn⟩
  simp only at he3 n1 n3 n4 hm hh nn
  obtain rfl := hm
  obtain rfl := hh
  have hA : mpB n = (shortB [n.pub, n.sys] && (n.kind == 10 || (beqS n.pub ⟨#[]⟩ && beqS n.sys ⟨#[]⟩))) := rfl
  rw [← hA] at nn
  cases a2 : mpB n with
  | false =>
   have hB : madeP n = false := by simp [madeP, ← ht, a1, a2]
   rw [a2] at nn
   rw [hB]
   simp [nn, zZp.r6, he3]
  | true =>
  rw [a2] at nn
  simp [nn]
  refine kNormalO (pm_r7 cK2 dK2 he3 n1 n3 n4) ?_
  rintro ⟨e4, mk, H4⟩ ⟨he4, o1, o3, o4, hm, hh, oo⟩
  simp only at he4 o1 o3 o4 hm hh oo
  obtain rfl := hm
  obtain rfl := hh
  have hA : mpC n t = (decide (n.data.length ≤ 16384) && (t.data || n.data.length == 0) && (t.kids || n.kids.length == 0)) := rfl
  rw [← hA] at oo
  cases a3 : mpC n t with
  | false =>
   have hB : madeP n = false := by simp [madeP, ← ht, a1, a2, a3]
   rw [a3] at oo
   rw [hB]
   simp [oo, zZp.r8, he4]
  | true =>
  rw [a3] at oo
  simp [oo]
  refine kNormalO (pm_r9 cK2 dK2 he4 o1 o3 o4) ?_
  rintro ⟨e5, mk, H5⟩ ⟨he5, p1, p3, p4, hm, hh, pp⟩
  simp only at he5 p1 p3 p4 hm hh pp
  obtain rfl := hm
  obtain rfl := hh
  cases a4 : mdC n with
  | false =>
   have hB : madeP n = false := by simp [madeP, ← ht, a1, a2, a3, a4]
   rw [a4] at pp
   rw [hB]
   simp [pp, zZp.r10, he5]
  | true =>
  rw [a4] at pp
  simp [pp]
  refine kNormalO (pm_r11 cK2 dK2 he5 p1 p3 p4) ?_
  rintro ⟨e6, mk, H6⟩ ⟨he6, q1, q3, q4, hm, hh, qq⟩
  simp only at he6 q1 q3 q4 hm hh qq
  obtain rfl := hm
  obtain rfl := hh
  have hA : mpE n t = (t.hung || n.parent == 0) := rfl
  rw [← hA] at qq
  cases a5 : mpE n t with
  | false =>
   have hB : madeP n = false := by simp [madeP, ← ht, a1, a2, a3, a4, a5]
   rw [a5] at qq
   rw [hB]
   simp [qq, zZp.r12, he6]
  | true =>
  rw [a5] at qq
  have hB : madeP n = mdD n := by simp [madeP, ← ht, a1, a2, a3, a4, a5]
  rw [hB]
  have ck2 := cK2 0
  simp only [List.drop_zero] at ck2
  cases k12 : (n.kind == 12) with
  | true =>
   simp [qq, zZp.r13, q1, he6, faddrP, ck2, k12]
   refine kNormalO (pm_r14 cK2 dK2 (by simp [he6]) (by simp [q1]) (by simp [q3]) (by simp [q4])) ?_
   rintro ⟨e7, mk, H7⟩ ⟨he7, r1, r3, r4, hm, hh, rr⟩
   simp only at he7 r1 r3 r4 hm hh rr
   obtain rfl := hm
   simp [rr, mdD, k12]
  | false =>
   simp [qq, zZp.r13, q1, he6, faddrP, ck2, k12]
   refine kNormalO (pm_r15 cK2 dK2 (by simp [he6]) (by simp [q1]) (by simp [q3]) (by simp [q4])) ?_
   rintro ⟨e7, mk, H7⟩ ⟨he7, r1, r3, r4, hm, hh, rr⟩
   simp only at he7 r1 r3 r4 hm hh rr
   obtain rfl := hm
   simp [rr, mdD, k12]
 obtain ⟨h', hb⟩ := this
 exact zZ4 (h := H) zZp.Φ rfl (args := [eN n]) rfl hb rfl
theorem madeP_eq (n : Nd) : madeP n = made n := by
 have hk : n.kind = 1 ∨ n.kind = 3 ∨ n.kind = 4 ∨ n.kind = 8 ∨ n.kind = 7 ∨ n.kind = 10 ∨ n.kind = 9 ∨ n.kind = 11 ∨ n.kind = 12 ∨ (n.kind ≠ 1 ∧ n.kind ≠ 3 ∧ n.kind ≠ 4 ∧ n.kind ≠ 8 ∧ n.kind ≠ 7 ∧ n.kind ≠ 10 ∧ n.kind ≠ 9 ∧ n.kind ≠ 11 ∧ n.kind ≠ 12) := by omega
 unfold madeP made mpA mpB mpC mpE mdA mdN mdB mdC mdD mdE
 rcases hk with h | h | h | h | h | h | h | h | h | ⟨h1, h3, h4, h8, h7, h10, h9, h11, h12⟩
 all_goals simp [*, traits, namingB, shortB, known, hasData, hasKids]
 all_goals try ac_rfl
theorem kZv (n : Nd) (hl : n.attrs.length < 2 ^ 50) (H : Heap) : callW Φ zZp [eN n] H = some (.bool (made n), H) := by
 rw [← madeP_eq]
 exact jZ8 n hl H
open Go Go.Ev
theorem eqI (a b : Int) : eqdV (.leaf .i) (.int .i64 a) (.int .i64 b) = some (a == b) := by
 cases h : (a == b) <;> simp [eqdV, cellEq, h]
theorem keyI (a : Int) : keyOk (.leaf .i) (.int .i64 a) = true := by
 simp [keyOk, eqI]
def memB : List Int → Int → Bool
 | [], _ => false
 | x :: l, k => k == x || memB l k
theorem memB_iff : ∀ (l : List Int) (k : Int), memB l k = true ↔ k ∈ l
 | [], k => by simp [memB]
 | x :: l, k => by simp [memB, memB_iff l k]
def mapI : List Int → Nat → List (V × V × Nat)
 | [], _ => []
 | a :: l, j => (.int .i64 a, .int .i64 1, j) :: mapI l (j + 1)
theorem mapI_app : ∀ (l : List Int) (j : Nat) (a : Int), mapI (l ++ [a]) j = mapI l j ++ [(.int .i64 a, .int .i64 1, j + l.length)]
 | [], j, a => by simp [mapI]
 | x :: l, j, a => by
  simp only [List.cons_append, mapI, mapI_app l (j + 1) a, List.length_cons]
  congr 3
  simp only [List.cons.injEq, Prod.mk.injEq, true_and, and_true]
  omega
theorem findI : ∀ (l : List Int) (k : Int) (i j : Nat), (memB l k = false → findKey (.leaf .i) (.int .i64 k) (mapI l j) i = some none) ∧ (memB l k = true → ∃ p, findKey (.leaf .i) (.int .i64 k) (mapI l j) i = some (some (p, .int .i64 1)))
 | [], k, i, j => by simp [memB, mapI, findKey]
 | a :: l, k, i, j => by
  have ih := findI l k (i + 1) (j + 1)
  simp only [memB, mapI, findKey, eqI]
  cases h : (k == a) with
  | true =>
   simp only [Bool.true_or]
   exact ⟨fun h => (by cases h), fun _ => ⟨i, rfl⟩⟩
  | false =>
   simp only [Bool.false_or]
   exact ih
theorem lookI {H : Heap} {l : List Int} {c : Nat} {k : Int} (hm : H[2]? = some (.map (mapI l 0) c)) : evLook H (.leaf .i) false (.int .i64 0) (.map 2) (.int .i64 k) = some (.int .i64 (if memB l k then 1 else 0), H) := by
 cases h : memB l k with
 | false =>
  have := (findI l k 0 0).1 h
  simp only [evLook, keyI, if_true, hm, this, found]
  rfl
 | true =>
  obtain ⟨p, hp⟩ := (findI l k 0 0).2 h
  simp only [evLook, keyI, if_true, hm, hp, found]
  rfl
theorem upI {H : Heap} {l : List Int} {k : Int} (hm : H[2]? = some (.map (mapI l 0) l.length)) (h : memB l k = false) :
  evMapup H (.leaf .i) (.map 2) (.int .i64 k) (.int .i64 1) = some (V.non, H.set 2 (.map (mapI (l ++ [k]) 0) (l ++ [k]).length)) := by
 have := (findI l k 0 0).1 h
 simp only [evMapup, keyI, if_true, hm, this, qZW, mapI_app]
 simp
theorem pk_r6 {f : List Nd} {h : Int} {n m : Nd} {H : Heap} (c : ∀ off, cellsAt H (.ptr 1 off) = some ((cN n).drop off)) {p : Nat} {b : Bool} (d : b = true → ∀ off, cellsAt H (.ptr p off) = some ((cN m).drop off)) {pre : List Int} {cl : Nat} (hmp : H[2]? = some (.map (mapI pre 0) cl)) {k : Int} {env : List V} (he : env.length = 55) (g1 : eget env 1 = .int .i64 h) (g3 : eget env 3 = .ptr 0 0) (g5 : eget env 5 = .ptr 1 0) (g7 : eget env 7 = .map 2) (g9 : eget env 9 = .int .i64 k) (g10 : eget env 10 = .ptr p 0) (g11 : eget env 11 = .bool b) :
  WK (callW Φ) none (fun e s' => e = .normal ∧ s'.env.length = 55 ∧ eget s'.env 1 = .int .i64 h ∧ eget s'.env 3 = .ptr 0 0 ∧ eget s'.env 5 = .ptr 1 0 ∧ eget s'.env 7 = .map 2 ∧ eget s'.env 9 = .int .i64 k ∧ eget s'.env 14 = eget env 14 ∧ eget s'.env 15 = eget env 15 ∧ eget s'.env 16 = eget env 16 ∧ s'.marks = [] ∧ s'.heap = H ∧ eget s'.env 46 = .bool (!(b && !memB pre k && m.parent == h && m.doc == n.doc))) [.c (.region zZu.r6)] { env := env, marks := [], heap := H } := by
 have hl := lookI (k := k) hmp
 by_cases q0 : b = true
 ·have d := d q0
  by_cases q1 : memB pre k = true
  ·simp (config := { maxSteps := 5000000 }) [zZu.r6, he, g1, g3, g5, g7, g9, g10, g11, c, d, evPick, faddrP, hl, q0, q1]
  have q1a : memB pre k = false := by simp [q1]
  by_cases q3 : (m.parent == h) = true
  ·have q3a : (m.parent != h) = false := by simp at q3; simp [q3]
   have q3b : m.parent = h := by simp at q3; simp [q3]
   by_cases q6 : (m.doc == n.doc) = true
   ·have q6a : (m.doc != n.doc) = false := by simp at q6; simp [q6]
    have q6b : m.doc = n.doc := by simp at q6; simp [q6]
    simp (config := { maxSteps := 5000000 }) [zZu.r6, he, g1, g3, g5, g7, g9, g10, g11, c, d, evPick, faddrP, hl, q0, q1, q1a, q3, q3a, q3b, q6, q6a, q6b]
   have q6a : (m.doc == n.doc) = false := by simp [q6]
   have q6b : (m.doc != n.doc) = true := by simp at q6; simp [q6]
   have q6c : ¬ m.doc = n.doc := by simp at q6; simp [q6]
   simp (config := { maxSteps := 5000000 }) [zZu.r6, he, g1, g3, g5, g7, g9, g10, g11, c, d, evPick, faddrP, hl, q0, q1, q1a, q3, q3a, q3b, q6, q6a, q6b, q6c]
  have q3a : (m.parent == h) = false := by simp [q3]
  have q3b : (m.parent != h) = true := by simp at q3; simp [q3]
  have q3c : ¬ m.parent = h := by simp at q3; simp [q3]
  simp (config := { maxSteps := 5000000 }) [zZu.r6, he, g1, g3, g5, g7, g9, g10, g11, c, d, evPick, faddrP, hl, q0, q1, q1a, q3, q3a, q3b, q3c]
 have q0a : b = false := by simp [q0]
 simp (config := { maxSteps := 5000000 }) [zZu.r6, he, g1, g3, g5, g7, g9, g10, g11, c, evPick, faddrP, hl, q0, q0a]
def kidP (f : List Nd) (h : Int) (n : Nd) (pre : List Int) (k : Int) : Bool := is_ f k && !memB pre k && (at_ f k).parent == h && (at_ f k).doc == n.doc
def kidsGoP (f : List Nd) (h : Int) (n : Nd) : List Int → List Int → Bool
 | _, [] => true
 | pre, k :: r => kidP f h n pre k && kidsGoP f h n (pre ++ [k]) r
theorem pushC (K : Heap) {cs : List V} (hl : cs.length = 16) (hc : cs.all V.isCell = true) : evStoreV (K ++ [Ob.cells [.int .u8 0, .str ⟨#[]⟩, .str ⟨#[]⟩, .str ⟨#[]⟩, .str ⟨#[]⟩, .str ⟨#[]⟩, .nils, .nils, .int .i64 0, .nils, .int .i64 0, .int .i64 0, .int .i64 0, .int .u8 0, .bool false, .bool false]]) 16 (.ptr K.length 0) (.agg cs) = some (V.non, K ++ [Ob.cells cs]) := by
 rw [store16 (id := K.length) (by simp [zN]) hl hc]
 simp [List.set_append]
theorem jZE (f : List Nd) (h : Int) (n : Nd) (hf : f.length < 2 ^ 50) (hlen : n.kids.length < 2 ^ 50) (H : Heap) : callW Φ zZu [eF f, .int .i64 h, eN n] H = some (.bool (kidsGoP f h n [] n.kids && kidsOk f n.kind n.kids), H) := by
 have : ∃ hh, evBodyW (callW Φ) zZu.c [eF f, .int .i64 h, eN n] [] = some (.bool (kidsGoP f h n [] n.kids && kidsOk f n.kind n.kids), hh) := by
  obtain ⟨R, hR⟩ : ∃ R, R = (kidsGoP f h n [] n.kids && kidsOk f n.kind n.kids) := ⟨_, rfl⟩
  rw [← hR]
  obtain ⟨K, hK⟩ : ∃ K : Heap, K = [Ob.cells [.arr (f.map cN)], Ob.cells (cN n)] := ⟨_, rfl⟩
  have hb : evBox [] [.arr (f.map cN)] = some (.ptr 0 0, [Ob.cells [.arr (f.map cN)]]) := by simp [evBox, V.isCell]
  have hb2 : evBox [Ob.cells [.arr (f.map cN)]] (cN n) = some (.ptr 1 0, K) := by rw [hK]; exact cellsN _ n
  have hcc : (V.agg [V.arr (f.map cN)]).cells = [.arr (f.map cN)] := rfl
  have hcn : (V.agg (cN n)).cells = cN n := rfl
  have hlK : K.length = 2 := by rw [hK]; rfl
  have LK : ∀ E, Lh (K ++ E) f n := fun E => ⟨by rw [hK]; rfl, by rw [hK]; rfl⟩
  have dK9 : ∀ E, cellsAt (K ++ E) (.ptr 1 9) = some ((cN n).drop 9) := fun E => (LK E).c 9
  refine qZ3 (Nat.le_of_ble_eq_true rfl) (fun env he h0 => ?_)
  have g0 := h0 0 (by simp)
  have g1 := h0 1 (by simp)
  have g2 := h0 2 (by simp)
  change eget env 0 = .agg [.arr (f.map cN)] at g0
  change eget env 1 = .int .i64 h at g1
  change eget env 2 = .agg (cN n) at g2
  clear h0
  simp [zZu.c] at he
  simp [zZu.c, zZu.r0, zZu.r1, zZu.r2, g0, g1, g2, he, hcc, hcn, hb, hb2, faddrP, hlK, dK9]
  refine kLoop (fun m s => ∃ i : Nat, m = n.kids.length - i ∧ i ≤ n.kids.length ∧ s.env.length = 55 ∧ eget s.env 1 = .int .i64 h ∧ eget s.env 3 = .ptr 0 0 ∧ eget s.env 5 = .ptr 1 0 ∧ eget s.env 7 = .map 2 ∧ eget s.env 14 = .arr (n.kids.map cI) ∧ eget s.env 15 = .int .i64 n.kids.length ∧ eget s.env 16 = .int .i64 i ∧ s.marks = [] ∧ Lh s.heap f n ∧ s.heap[2]? = some (.map (mapI (n.kids.take i) 0) (n.kids.take i).length) ∧
    R = (kidsGoP f h n (n.kids.take i) (n.kids.drop i) && kidsOk f n.kind n.kids)) n.kids.length ⟨0, by
     refine ⟨by simp, by simp, ?_⟩
     simp [g1, he, hR]
     exact ⟨LK _, by rw [← hlK]; simp [mapI]⟩⟩ ?_
  rintro m ⟨e, mk, hp⟩ ⟨i, rfl, hi, he, k1, k3, k5, k7, k14, k15, k16, hm, hl, hmp, hat⟩
  simp only at he k1 k3 k5 k7 k14 k15 k16 hm hl hmp
  obtain rfl := hm
  have c0 := hl.c0
  by_cases hlt : i < n.kids.length
  ·obtain ⟨x, hx⟩ : ∃ x, n.kids[i]? = some x := ⟨_, List.getElem?_eq_getElem hlt⟩
   have hw : IntKind.i64.wrap ((i : Int) + 1) = ((i + 1 : Nat) : Int) := by rw [Ev.wrap64] <;> omega
   rw [vZI hx] at hat
   simp only [kidsGoP] at hat
   have hA := wZj f x hf hp
   simp only [eF] at hA
   obtain ⟨K1, hK1⟩ : ∃ K1, K1 = hp ++ [Ob.cells [.arr (f.map cN)], Ob.cells (cAt f x)] := ⟨_, rfl⟩
   rw [← hK1] at hA
   have hpu := pushC K1 (vZj K1 f x).ok.1 (vZj K1 f x).ok.2
   have da : is_ f x = true → ∀ off, cellsAt (K1 ++ [Ob.cells (cAt f x)]) (.ptr K1.length off) = some ((cN (at_ f x)).drop off) := fun hi off => by
    have : cAt f x = cN (at_ f x) := by simp [cAt, hi]
    rw [this]
    exact atN K1 (at_ f x) off
   have lp1 : Lh K1 f n := by rw [hK1]; exact hl.push _
   have lp := lp1.push [Ob.cells (cAt f x)]
   have hm1 : K1[2]? = some (.map (mapI (n.kids.take i) 0) (n.kids.take i).length) := by rw [hK1]; exact kept hmp _
   have hm2 := kept hm1 [Ob.cells (cAt f x)]
   obtain ⟨H2, hH2⟩ : ∃ H2, H2 = K1 ++ [Ob.cells (cAt f x)] := ⟨_, rfl⟩
   rw [← hH2] at hpu da lp hm2
   have ha1 := qZU (h := hp) (k := .i64) wZS hx
   have q6 := fun (e : List V) he g1 g3 g5 g7 g9 g10 g11 => pk_r6 (f := f) (h := h) (env := e) (b := is_ f x) (m := at_ f x) (k := x) lp.c da hm2 he g1 g3 g5 g7 g9 g10 g11
   simp [zZu.b10, zZu.r3, zZu.r4, zZu.r5, k1, k3, k5, k7, k14, k15, k16, he, hlt, ha1, cellI, c0, hA, eN, evExt, hpu, ofCells]
   refine kNormalO (q6 _ ?_ ?_ ?_ ?_ ?_ ?_ ?_ ?_) ?_
   ·simp [he]
   ·simp [k1]
   ·simp [k3]
   ·simp [k5]
   ·simp [k7]
   ·simp [he]
   ·simp [he]
   ·simp [he]
   rintro ⟨e', mk, H'⟩ ⟨he', j1, j3, j5, j7, j9, j14, j15, j16, hmk, hheap, j46⟩
   simp only at he' j1 j3 j5 j7 j9 j14 j15 j16 hmk hheap j46
   obtain rfl := hmk
   obtain rfl := hheap
   simp [k14, k15, k16] at j14 j15 j16
   have hkp : kidP f h n (n.kids.take i) x = (is_ f x && !memB (n.kids.take i) x && (at_ f x).parent == h && (at_ f x).doc == n.doc) := rfl
   rw [← hkp] at j46
   cases hc : kidP f h n (n.kids.take i) x with
   | false =>
    rw [hc] at hat j46
    simp only [Bool.false_and] at hat
    rw [hat]
    simp [j46, zZu.r7, he']
   | true =>
    rw [hc] at hat j46
    simp only [Bool.true_and] at hat
    have hnm : memB (n.kids.take i) x = false := by
     rw [hkp] at hc
     simp only [Bool.and_eq_true, Bool.not_eq_true'] at hc
     exact hc.1.1.2
    have hlk := lookI (k := x) hm2
    rw [hnm] at hlk
    have hup := upI hm2 hnm
    have w1 : IntKind.i64.wrap 1 = 1 := by decide
    have htk : n.kids.take (i + 1) = n.kids.take i ++ [x] := by rw [List.take_add_one, hx]; rfl
    rw [← htk] at hup hat
    simp only [Bool.false_eq_true, if_false] at hlk
    have hH2l : 2 < H'.length := (List.getElem?_eq_some_iff.1 hm2).1
    simp [j46, zZu.r8, zZu.r9, j7, j9, j16, he', hlk, w1, hup]
    refine ⟨n.kids.length - (i + 1), by omega, i + 1, rfl, by omega, j1, j3, j5, j14, j15, by simpa using hw, ⟨?_, ?_⟩, ?_, hat⟩
    ·rw [List.getElem?_set_ne (by omega)]; exact lp.h0
    ·rw [List.getElem?_set_ne (by omega)]; exact lp.h1
    ·rw [List.getElem?_set_self hH2l]
  ·have : i = n.kids.length := by omega
   subst this
   rw [List.drop_length] at hat
   simp only [kidsGoP, Bool.true_and] at hat
   have hF := fun H => jZD f n hf hlen H
   simp only [eF, eN] at hF
   have cz := hl.c 0
   simp only [List.drop_zero] at cz
   have hok : ∀ H, okCells H (some 16) (some (cN n)) = some (.agg (cN n), H) := fun H => okN H n
   rw [hat]
   simp [zZu.b10, zZu.r3, zZu.r11, k3, k5, k15, k16, he, c0, cz, hok, hF, ofCells]
 obtain ⟨h', hb⟩ := this
 exact zZ4 (h := H) zZu.Φ rfl (args := [eF f, .int .i64 h, eN n]) rfl hb rfl
theorem cnt_count (l : List Int) (h : Int) : cnt l h = l.count h := by
 induction l with
 | nil => rfl
 | cons x l ih =>
  simp only [cnt, List.count_cons, ih]
  by_cases e : x = h <;> simp [e]
theorem jZj (f : List Nd) (h : Int) (n : Nd) : ∀ (l pre : List Int), kidsGoP f h n pre l = true ↔ (∀ k ∈ l, (is_ f k && (at_ f k).parent == h && (at_ f k).doc == n.doc) = true ∧ k ∉ pre) ∧ l.Nodup
 | [], pre => by simp [kidsGoP]
 | k :: l, pre => by
  have ih := jZj f h n l (pre ++ [k])
  simp only [kidsGoP, Bool.and_eq_true, ih, kidP, Bool.not_eq_true', ← Bool.not_eq_true, memB_iff, List.nodup_cons, List.mem_cons, List.mem_append, List.mem_nil_iff, or_false, not_or]
  constructor
  ·rintro ⟨⟨⟨⟨h1, h2⟩, h3⟩, h4⟩, h5, h6⟩
   refine ⟨?_, fun hk => ((h5 k hk).2.2 rfl), h6⟩
   rintro x (rfl | hx)
   ·exact ⟨⟨⟨h1, h3⟩, h4⟩, h2⟩
   ·exact ⟨(h5 x hx).1, (h5 x hx).2.1⟩
  ·rintro ⟨h1, h2, h3⟩
   refine ⟨⟨⟨⟨(h1 k (.inl rfl)).1.1.1, (h1 k (.inl rfl)).2⟩, (h1 k (.inl rfl)).1.1.2⟩, (h1 k (.inl rfl)).1.2⟩, ?_, h3⟩
   intro x hx
   exact ⟨(h1 x (.inr hx)).1, (h1 x (.inr hx)).2, fun e => h2 (e ▸ hx)⟩
theorem kids_eq (f : List Nd) (h : Int) (n : Nd) : kidsGoP f h n [] n.kids = linkK f h n n.kids := by
 rw [Bool.eq_iff_iff, jZj]
 simp only [linkK, List.all_eq_true, kidOk, Bool.and_eq_true, cnt_count, beq_iff_eq]
 constructor
 ·rintro ⟨h1, h2⟩ k hk
  refine ⟨⟨⟨(h1 k hk).1.1.1, (h1 k hk).1.1.2⟩, ?_⟩, (h1 k hk).1.2⟩
  rw [h2.count, if_pos hk]
 ·intro h1
  refine ⟨fun k hk => ⟨⟨⟨(h1 k hk).1.1.1, (h1 k hk).1.1.2⟩, (h1 k hk).2⟩, by simp⟩, ?_⟩
  rw [List.nodup_iff_count]
  intro a
  by_cases ha : a ∈ n.kids
  ·rw [(h1 a ha).1.2]
   exact Nat.le_refl _
  ·rw [List.count_eq_zero.2 ha]
   exact Nat.zero_le _
end Go.Proofs.It
