/- Whether options are their own settling: it answers. Pairs in a map; lists searched; whether a watch is right by itself. No conditions. -/
import Derived.Test.YtphigbmaimineabGreatObG
set_option maxHeartbeats 16000000
set_option maxRecDepth 100000
set_option linter.unusedVariables false
set_option linter.unusedSimpArgs false
set_option linter.unusedSectionVars false
namespace Go.Proofs.Ob
open Go Go.Ev
theorem settled_ex (o : Opt) (z : SzO o) : ∃ r, (∀ H : Heap, callW Φ zZF [.agg (cO o)] H = some (r, H)) ∧ (fun r => ∃ b, r = .bool b) r := by
 refine callW_fzA zZF.Φ rfl (args := [.agg (cO o)]) rfl ?_
 obtain ⟨P, hP⟩ : ∃ P : V → Heap → Prop, P = fun r h2 => ∃ r2 h3, fz fzDepth h2 r = some (r2, h3) ∧ (fun r => ∃ b, r = .bool b) r2 := ⟨_, rfl⟩
 suffices hgo : ∃ r h', evBodyW (callW Φ) zZF.c [.agg (cO o)] [] = some (r, h') ∧ P r h' by rw [hP] at hgo; exact hgo
 have hPz : ∀ r r2 h2 h3, fz fzDepth h2 r = some (r2, h3) → (fun r => ∃ b, r = .bool b) r2 → P r h2 := fun r r2 h2 h3 hz hq => by rw [hP]; exact ⟨r2, h3, hz, hq⟩
 clear hP
 refine kZU (Nat.le_of_ble_eq_true rfl) (fun env he h0 => ?_)
 have g0 := h0 0 (by simp)
 change eget env 0 = .agg (cO o) at g0
 clear h0
 simp [zZF.c] at he
 have b0 : evBox [] (cO o) = some (.ptr 0 0, [.cells (cO o)]) := wZc [] _ (by simp [V.isCell])
 have hcc : ∀ c, (V.agg (cO c)).cells = cO c := fun c => rfl
 have hPb : ∀ b H, P (.bool b) H := fun b H => hPz _ (.bool b) H H rfl ⟨b, rfl⟩
 obtain ⟨r, hS, s, e, rfl, hs⟩ := jZg o z
 have cO0 : cellsAt [.cells (cO o)] (.ptr 0 0) = some (cO o) := rfl
 have ok8 : ∀ H, okCells H (some 8) (some (cO o)) = some (.agg (cO o), H) := fun _ => rfl
 have st : evStoreV [.cells (cO o), .cells zO] 8 (.ptr 1 0) (.agg (cO s)) = some (V.non, [.cells (cO o), .cells (cO s)]) := vZO (H := [.cells (cO o), .cells zO]) (id := 1) rfl rfl rfl rfl
 have x0 : ∀ off, cellsAt [.cells (cO o), .cells (cO s)] (.ptr 0 off) = some ((cO o).drop off) := fun _ => rfl
 have x1 : ∀ off, cellsAt [.cells (cO o), .cells (cO s)] (.ptr 1 off) = some ((cO s).drop off) := fun _ => rfl
 have U := vZ5 s.filt o.filt (by unfold SzO at hs; omega) [.cells (cO o), .cells (cO s)]
 simp [zZF.c, zZF.r0, zZF.r1, g0, he, hcc, b0, cO0, ok8, hS, st, evExt]
 have go : ∀ env : List V, env.length = 70 → eget env 1 = .ptr 0 0 → eget env 3 = .ptr 1 0 → eget env 4 = .int .i64 e → ∀ b, eget env 5 = .bool b → WK (callW Φ) none (FinX [Rv.tmp 2] P) [It.o zZF.r3, It.c .ret] { env := env, marks := [], heap := [.cells (cO o), .cells (cO s)] } := by
  intro env hl k1 k3 k4 b k5
  by_cases c : e = 0
  ·subst c
   cases b
   ·simp [zZF.r3, hl, k1, k3, k4, k5, evPick, hPb]
   ·simp [zZF.r3, hl, k1, k3, k4, k5, evPick, x0, x1, U, hPb]
  ·have c1 : (e == 0) = false := by simpa using c
   simp [zZF.r3, hl, k1, k3, k4, k5, evPick, c1, hPb]
 by_cases q_kids : (s.kids == o.kids) = false
 ·simp [zZF.r2, he, x0, x1, evPick, vZ8, q_kids]
  exact go _ (by simp [he]) (by simp [he]) (by simp [he]) (by simp [he]) false (by simp [he])
 have q_kidsf : (s.kids == o.kids) = true := by simpa using q_kids
 by_cases q_sub : (s.sub == o.sub) = false
 ·simp [zZF.r2, he, x0, x1, evPick, vZ8, q_kidsf, q_sub]
  exact go _ (by simp [he]) (by simp [he]) (by simp [he]) (by simp [he]) false (by simp [he])
 have q_subf : (s.sub == o.sub) = true := by simpa using q_sub
 by_cases q_at_ : ((s.at_ : Int) == o.at_) = false
 ·simp [zZF.r2, he, x0, x1, evPick, vZ8, q_kidsf, q_subf, q_at_]
  exact go _ (by simp [he]) (by simp [he]) (by simp [he]) (by simp [he]) false (by simp [he])
 have q_at_f : ((s.at_ : Int) == o.at_) = true := by simpa using q_at_
 by_cases q_da : ((s.da : Int) == o.da) = false
 ·simp [zZF.r2, he, x0, x1, evPick, vZ8, q_kidsf, q_subf, q_at_f, q_da]
  exact go _ (by simp [he]) (by simp [he]) (by simp [he]) (by simp [he]) false (by simp [he])
 have q_daf : ((s.da : Int) == o.da) = true := by simpa using q_da
 by_cases q_oa : ((s.oa : Int) == o.oa) = false
 ·simp [zZF.r2, he, x0, x1, evPick, vZ8, q_kidsf, q_subf, q_at_f, q_daf, q_oa]
  exact go _ (by simp [he]) (by simp [he]) (by simp [he]) (by simp [he]) false (by simp [he])
 have q_oaf : ((s.oa : Int) == o.oa) = true := by simpa using q_oa
 by_cases q_od : ((s.od : Int) == o.od) = false
 ·simp [zZF.r2, he, x0, x1, evPick, vZ8, q_kidsf, q_subf, q_at_f, q_daf, q_oaf, q_od]
  exact go _ (by simp [he]) (by simp [he]) (by simp [he]) (by simp [he]) false (by simp [he])
 have q_odf : ((s.od : Int) == o.od) = true := by simpa using q_od
 by_cases q_fs : (s.fs == o.fs) = false
 ·simp [zZF.r2, he, x0, x1, evPick, vZ8, q_kidsf, q_subf, q_at_f, q_daf, q_oaf, q_odf, q_fs]
  exact go _ (by simp [he]) (by simp [he]) (by simp [he]) (by simp [he]) false (by simp [he])
 have q_fsf : (s.fs == o.fs) = true := by simpa using q_fs
 simp [zZF.r2, he, x0, x1, evPick, vZ8, q_kidsf, q_subf, q_at_f, q_daf, q_oaf, q_odf, q_fsf]
 exact go _ (by simp [he]) (by simp [he]) (by simp [he]) (by simp [he]) true (by simp [he])
noncomputable def settledB (o : Opt) : Bool := match callW Φ zZF [.agg (cO o)] [] with
 | some (.bool b, _) => b
 | _ => false
theorem settled_spec (o : Opt) (z : SzO o) (H : Heap) : callW Φ zZF [.agg (cO o)] H = some (.bool (settledB o), H) := by
 obtain ⟨r, h1, b, rfl⟩ := settled_ex o z
 rw [h1 H]
 simp only [settledB, h1 []]
open Go Go.Ev
abbrev Pr2 := Int × Int
abbrev kp (p : Pr2) : V := .agg [.int .i64 p.1, .int .i64 p.2]
abbrev kEq : Eqd := .cons 0 none (.leaf .i) (.cons 1 none (.leaf .i) .nil)
theorem jZb (p q : Pr2) : eqdV kEq (kp p) (kp q) = some (p == q) := by
 have h : (p == q) = (p.1 == q.1 && (p.2 == q.2 && true)) := by cases p; cases q; simp [Bool.beq_eq_decide_eq]
 rw [h]; rfl
def mpE : Nat → List Pr2 → List (V × V × Nat)
 | _, [] => []
 | k, p :: r => (kp p, .int .i64 1, k) :: mpE (k + 1) r
theorem mpE_len : ∀ (k : Nat) (l : List Pr2), (mpE k l).length = l.length
 | _, [] => rfl
 | k, p :: r => by simp [mpE, mpE_len (k + 1) r]
theorem kZs {p : Pr2} : ∀ {l : List Pr2} (k i : Nat), p ∉ l → findKey kEq (kp p) (mpE k l) i = some none
 | [], _, _, _ => rfl
 | q :: r, k, i, h => by
  simp only [List.mem_cons, not_or] at h
  have hq : (p == q) = false := by simpa using h.1
  simp only [mpE, findKey, jZb, hq]
  exact kZs (k + 1) (i + 1) h.2
theorem find_some {p : Pr2} : ∀ {l : List Pr2} (k i : Nat), p ∈ l → ∃ j, findKey kEq (kp p) (mpE k l) i = some (some (i + j, .int .i64 1)) ∧ (mpE k l)[j]? = some (kp p, .int .i64 1, k + j)
 | q :: r, k, i, h => by
  by_cases hq : p = q
  ·subst hq
   exact ⟨0, by simp only [mpE, findKey, jZb, beq_self_eq_true]; rfl, rfl⟩
  ·have hq2 : (p == q) = false := by simpa using hq
   obtain ⟨j, h1, h2⟩ := find_some (k + 1) (i + 1) ((List.mem_cons.1 h).resolve_left hq)
   refine ⟨j + 1, ?_, ?_⟩
   ·simp only [mpE, findKey, jZb, hq2, h1]
    rw [show i + 1 + j = i + (j + 1) by omega]
   ·simp only [mpE, List.getElem?_cons_succ, h2]
    rw [show k + 1 + j = k + (j + 1) by omega]
theorem mpE_snoc : ∀ (k : Nat) (l : List Pr2) (p : Pr2), mpE k (l ++ [p]) = mpE k l ++ [(kp p, .int .i64 1, k + l.length)]
 | _, [], _ => rfl
 | k, q :: r, p => by
  simp only [List.cons_append, mpE, mpE_snoc (k + 1) r p, List.length_cons]
  rw [show k + 1 + r.length = k + (r.length + 1) by omega]
theorem mpE_last : ∀ (k : Nat) (l : List Pr2) (x : V × V × Nat), x.2.2 = k + l.length → (mpE k l ++ [x]).findIdx? (fun e => (e.2.2 : Int) == (k + l.length : Nat)) = some l.length
 | k, [], x, h => by simp [mpE, List.findIdx?_cons, h]
 | k, q :: r, x, h => by
  have ih := mpE_last (k + 1) r x (by simp only [List.length_cons] at h; omega)
  have e : ((k : Int) == ((k + (q :: r).length : Nat) : Int)) = false := by simp; omega
  rw [show k + 1 + r.length = k + (q :: r).length by simp only [List.length_cons]; omega] at ih
  simp only [mpE, List.cons_append, List.findIdx?_cons, e, ih]
  simp
theorem kZA {α : Type} (f : α → α) : ∀ (l : List α) (x : α), (l ++ [x]).modify l.length f = l ++ [f x]
 | [], x => rfl
 | a :: l, x => by simp [kZA f l x]
theorem xZa (p : Pr2) : keyOk kEq (kp p) = true := by simp [keyOk, jZb]
section
variable {H : Heap} {id : Nat} {l : List Pr2} {p : Pr2}
theorem look_no (h : H[id]? = some (.map (mpE 0 l) l.length)) (hp : p ∉ l) : evLook H kEq false (.int .i64 0) (.map id) (kp p) = some (.int .i64 0, H) := by
 simp only [evLook, xZa, if_true, h, kZs 0 0 hp, found, Bool.false_eq_true, if_false]
theorem look_yes (h : H[id]? = some (.map (mpE 0 l) l.length)) (hp : p ∈ l) : evLook H kEq false (.int .i64 0) (.map id) (kp p) = some (.int .i64 1, H) := by
 obtain ⟨j, h1, _⟩ := find_some 0 0 hp
 simp only [evLook, xZa, if_true, h, h1, found, Bool.false_eq_true, if_false]
theorem ent_no (h : H[id]? = some (.map (mpE 0 l) l.length)) (hp : p ∉ l) : evMapent H kEq (.int .i64 0) (.map id) (kp p) = some (.tup [.int .i64 0, .int .i64 l.length], H.set id (.map (mpE 0 l ++ [(kp p, .int .i64 0, l.length)]) (l.length + 1))) := by
 simp only [evMapent, xZa, if_true, h, kZs 0 0 hp, vZm, qZ6]
theorem entst_no (h : H[id]? = some (.map (mpE 0 l ++ [(kp p, .int .i64 0, l.length)]) (l.length + 1))) : evEntst H (.map id) (.int .i64 l.length) (.int .i64 1) = some (V.non, H.set id (.map (mpE 0 (l ++ [p])) (l ++ [p]).length)) := by
 have := mpE_last 0 l (kp p, .int .i64 0, l.length) (by simp)
 simp only [Nat.zero_add] at this
 simp only [evEntst, h, this, qZ6]
 have e : (mpE 0 l ++ [(kp p, V.int .i64 0, l.length)]).modify l.length (fun e => (e.1, V.int .i64 1, e.2.2)) = mpE 0 (l ++ [p]) := by
  have := kZA (fun e : V × V × Nat => (e.1, V.int .i64 1, e.2.2)) (mpE 0 l) (kp p, V.int .i64 0, l.length)
  rw [mpE_len] at this
  rw [mpE_snoc, this, Nat.zero_add]
 rw [e]; simp
theorem look_ent (h : H[id]? = some (.map (mpE 0 l ++ [(kp p, .int .i64 0, l.length)]) (l.length + 1))) (hp : p ∉ l) : evLook H kEq false (.int .i64 0) (.map id) (kp p) = some (.int .i64 0, H) := by
 have : ∀ (k i : Nat) (l : List Pr2), p ∉ l → ∀ x : Nat, findKey kEq (kp p) (mpE k l ++ [(kp p, .int .i64 0, x)]) i = some (some (i + l.length, .int .i64 0)) := by
  intro k i l
  induction l generalizing k i with
  | nil => intro _ x; simp only [mpE, List.nil_append, findKey, jZb, beq_self_eq_true]; rfl
  | cons q r ih =>
   intro hp x
   simp only [List.mem_cons, not_or] at hp
   have hq : (p == q) = false := by simpa using hp.1
   simp only [mpE, List.cons_append, findKey, jZb, hq, ih (k + 1) (i + 1) hp.2 x, List.length_cons]
   rw [show i + 1 + r.length = i + (r.length + 1) by omega]
 simp only [evLook, xZa, if_true, h, this 0 0 l hp, found, Bool.false_eq_true, if_false]
theorem find_mod (v2 : V) : ∀ {l : List Pr2} (k i : Nat), p ∈ l → ∃ j, findKey kEq (kp p) (mpE k l) i = some (some (i + j, .int .i64 1)) ∧ (mpE k l)[j]? = some (kp p, .int .i64 1, k + j) ∧
  (mpE k l).findIdx? (fun e => (e.2.2 : Int) == (k + j : Nat)) = some j ∧ (mpE k l).modify j (fun e => (kp p, e.2)) = mpE k l ∧ findKey kEq (kp p) ((mpE k l).modify j (fun e => (e.1, v2, e.2.2))) i = some (some (i + j, v2))
 | q :: r, k, i, h => by
  by_cases hq : p = q
  ·subst hq
   exact ⟨0, by simp only [mpE, findKey, jZb, beq_self_eq_true]; rfl, rfl, by simp [mpE, List.findIdx?_cons], rfl, by simp only [mpE, List.modify_zero_cons, findKey, jZb, beq_self_eq_true]; rfl⟩
  ·have hq2 : (p == q) = false := by simpa using hq
   obtain ⟨j, h1, h2, h3, h4, h5⟩ := find_mod v2 (k + 1) (i + 1) ((List.mem_cons.1 h).resolve_left hq)
   rw [show k + 1 + j = k + (j + 1) by omega] at h2 h3
   rw [show i + 1 + j = i + (j + 1) by omega] at h1 h5
   refine ⟨j + 1, ?_, ?_, ?_, ?_, ?_⟩
   ·simp only [mpE, findKey, jZb, hq2, h1]
   ·simp only [mpE, List.getElem?_cons_succ, h2]
   ·have e : ((k : Int) == ((k + (j + 1) : Nat) : Int)) = false := by simp; omega
    simp only [mpE, List.findIdx?_cons, e, h3]
    rfl
   ·simp only [mpE, List.modify_succ_cons, h4]
   ·simp only [mpE, List.modify_succ_cons, findKey, jZb, hq2, h5]
theorem twice (h : H[id]? = some (.map (mpE 0 l) l.length)) (hp : p ∈ l) : ∃ j H2, evMapent H kEq (.int .i64 0) (.map id) (kp p) = some (.tup [.int .i64 1, .int .i64 j], H) ∧ evEntst H (.map id) (.int .i64 j) (.int .i64 2) = some (V.non, H2) ∧ (∃ es c, H2 = H.set id (.map es c)) ∧ evLook H2 kEq false (.int .i64 0) (.map id) (kp p) = some (.int .i64 2, H2) := by
 obtain ⟨j, h1, h2, h3, h4, h5⟩ := find_mod (.int .i64 2) 0 0 hp
 simp only [Nat.zero_add] at h1 h2 h3 h5
 have hs : sameKey (kp p) (mpE 0 l) j = true := by simp [sameKey, h2, V.beq, beqL, V.cells, V.scalar]
 have hH : H.set id (.map (mpE 0 l) l.length) = H := by
  apply List.ext_getElem?
  intro n
  by_cases e : id = n
  ·subst e; rw [List.getElem?_set_self (List.getElem?_eq_some_iff.1 h).1, h]
  ·rw [List.getElem?_set_ne e]
 refine ⟨j, H.set id (.map ((mpE 0 l).modify j fun e => (e.1, .int .i64 2, e.2.2)) l.length), ?_, ?_, ⟨_, _, rfl⟩, ?_⟩
 ·simp only [evMapent, xZa, if_true, h, h1, hs, h2, Option.map_some, Option.getD_some, vZm, qZ6, h4, hH]
 ·simp only [evEntst, h, h3, qZ6]
 ·simp only [evLook, xZa, if_true, List.getElem?_set_self (List.getElem?_eq_some_iff.1 h).1, h5, found, Bool.false_eq_true, if_false]
end
theorem wZ9 (q : List Rec) (z : q.length ≤ 2 ^ 40) (H : Heap) : callW Φ zZ0 [.arr (q.map cR)] H = some (.bool (decide (4096 < q.length)), H) := by
 have : ∃ hh, evBodyW (callW Φ) zZ0.c [.arr (q.map cR)] [] = some (.bool (decide (4096 < q.length)), hh) := by
  refine jZa (Nat.le_of_ble_eq_true rfl) (fun env he h0 => ?_)
  have g0 := h0 0 (by simp)
  change eget env 0 = .arr (q.map cR) at g0
  clear h0
  simp [zZ0.c] at he
  by_cases c : 4096 < q.length <;> simp [zZ0.c, zZ0.r0, zZ0.r1, g0, he, qZO, c] <;> omega
 obtain ⟨h', hb⟩ := this
 exact vZG (h := H) zZ0.Φ rfl (args := [.arr (q.map cR)]) rfl hb rfl
theorem ixR (qs : List (List Rec)) (hz : qs.length ≤ 2 ^ 43) (hq : ∀ q ∈ qs, q.length ≤ 2 ^ 40) (H : Heap) : ∃ r h', callW Φ (.fn (.func zZc.k) [] []) [.arr (qs.map cQ), zZ0] H = some (r, h') ∧ (fun r h' => h' = H ∧ ∃ n : Int, r = .int .i64 n ∧ decide (0 ≤ n) = qs.any (fun q => decide (4096 < q.length))) r h' := by
 obtain ⟨P, hP⟩ : ∃ P : V → Heap → Prop, P = fun r h' => h' = H ∧ ∃ n : Int, r = .int .i64 n ∧ decide (0 ≤ n) = qs.any (fun q => decide (4096 < q.length)) := ⟨_, rfl⟩
 suffices hgo : ∃ r h', callW Φ (.fn (.func zZc.k) [] []) [.arr (qs.map cQ), zZ0] H = some (r, h') ∧ P r h' by rw [hP] at hgo; exact hgo
 have hPi : ∀ r h', (fun r h' => h' = H ∧ ∃ n : Int, r = .int .i64 n ∧ decide (0 ≤ n) = qs.any (fun q => decide (4096 < q.length))) r h' → P r h' := fun r h' q => by rw [hP]; exact q
 clear hP
 refine jZI zZc.Φ rfl (Nat.le_of_ble_eq_true rfl) (fun env he h0 => ?_)
 have g0 := h0 0 (by simp)
 change eget env 0 = .arr (qs.map cQ) at g0
 have g1 := h0 1 (by simp)
 change eget env 1 = zZ0 at g1
 clear h0
 simp [zZc.c] at he
 simp [zZc.c, zZc.r0, zZc.r1, zZc.r8, g0, g1, he, qZO]
 refine kLoop (fun m s => ∃ i : Nat, m = qs.length - i ∧ i ≤ qs.length ∧ eget s.env 0 = .arr (qs.map cQ) ∧ eget s.env 1 = zZ0 ∧ eget s.env 7 = .int .i64 qs.length ∧ eget s.env 8 = .int .i64 i ∧ s.env.length = 19 ∧ s.marks = [] ∧ s.heap = H ∧ (qs.take i).any (fun q => decide (4096 < q.length)) = false) qs.length
  ⟨0, rfl, by omega, by simpa using g0, by simpa using g1, by simp [he], by simp [he], by simpa using he, rfl, rfl, by simp⟩ ?_
 rintro m ⟨env, mk, Hh⟩ ⟨i, rfl, hi, k0, k1, k7, k8, hl, hm, hH, hw⟩
 simp only at k0 k1 k7 k8 hl hm hH
 obtain rfl := hm
 obtain rfl := hH
 by_cases c : i < qs.length
 ·have c1 : (i : Int) < qs.length := by omega
  obtain ⟨x, hx⟩ : ∃ x, qs[i]? = some x := ⟨_, List.getElem?_eq_getElem c⟩
  have ia := wZ4 (h := Hh) (k := .i64) hx
  have wr := wrap64 (n := (i : Int) + 1) (by omega) (by omega)
  have S := wZ9 x (hq x (List.mem_of_getElem? hx)) Hh
  by_cases cx : 4096 < x.length
  ·rw [decide_eq_true cx] at S
   have hany : qs.any (fun q => decide (4096 < q.length)) = true := by
    rw [List.any_eq_true]
    exact ⟨x, List.mem_of_getElem? hx, by simpa using cx⟩
   have := hPi (.int .i64 i) Hh ⟨rfl, i, rfl, by rw [hany]; simp⟩
   simp [zZc.c, zZc.r0, zZc.r1, zZc.r8, zZc.b7, zZc.r2, zZc.r3, zZc.r4, zZc.r5, zZc.r6, k0, k1, k7, k8, hl, c1, ia, okQ, S, this]
  ·rw [decide_eq_false cx] at S
   simp [zZc.b7, zZc.r2, zZc.r3, zZc.r4, zZc.r5, zZc.r6, k0, k1, k7, k8, hl, c1, ia, okQ, S, wr]
   refine ⟨qs.length - (i + 1), by omega, i + 1, rfl, by omega, by simp, ?_⟩
   intro y hy
   rw [List.take_add_one, hx] at hy
   rcases List.mem_append.1 hy with hy | hy
   ·have := List.any_eq_false.1 hw y hy
    simpa using this
   ·simp at hy
    subst hy; omega
 ·have c1 : ¬ (i : Int) < qs.length := by omega
  rw [List.take_of_length_le (by omega)] at hw
  have := hPi (.int .i64 (-1)) Hh ⟨rfl, -1, rfl, by rw [hw]; rfl⟩
  simp [zZc.c, zZc.r0, zZc.r1, zZc.r8, zZc.b7, zZc.r2, zZc.r3, zZc.r4, zZc.r5, zZc.r6, k0, k1, k7, k8, hl, c1, this]
theorem cfR (qs : List (List Rec)) (hz : qs.length ≤ 2 ^ 43) (hq : ∀ q ∈ qs, q.length ≤ 2 ^ 40) (H : Heap) : ∃ r h', callW Φ (.fn (.func zZm.k) [] []) [.arr (qs.map cQ), zZ0] H = some (r, h') ∧ (fun r h' => h' = H ∧ r = .bool (qs.any (fun q => decide (4096 < q.length)))) r h' := by
 obtain ⟨P, hP⟩ : ∃ P : V → Heap → Prop, P = fun r h' => h' = H ∧ r = .bool (qs.any (fun q => decide (4096 < q.length))) := ⟨_, rfl⟩
 suffices hgo : ∃ r h', callW Φ (.fn (.func zZm.k) [] []) [.arr (qs.map cQ), zZ0] H = some (r, h') ∧ P r h' by rw [hP] at hgo; exact hgo
 have hPi : ∀ r h', (fun r h' => h' = H ∧ r = .bool (qs.any (fun q => decide (4096 < q.length)))) r h' → P r h' := fun r h' q => by rw [hP]; exact q
 clear hP
 refine jZI zZm.Φ rfl (Nat.le_of_ble_eq_true rfl) (fun env he h0 => ?_)
 have g0 := h0 0 (by simp)
 change eget env 0 = .arr (qs.map cQ) at g0
 have g1 := h0 1 (by simp)
 change eget env 1 = zZ0 at g1
 clear h0
 simp [zZm.c] at he
 obtain ⟨r, h', h1, rfl, n, rfl, hn⟩ := ixR qs hz hq H
 have := hPi (.bool (decide (0 ≤ n))) h' ⟨rfl, by rw [hn]⟩
 simp [zZm.c, zZm.r0, zZm.r1, g0, g1, he, h1, this]
end Go.Proofs.Ob
