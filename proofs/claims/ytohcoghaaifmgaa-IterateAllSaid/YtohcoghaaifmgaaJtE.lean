/- Readings of forests, filters, iterators. No conditions. -/
import Derived.Test.YtohcoghaaifmgaaJtT
import Derived.Test.YtohcoghaaifmgaaJtD
set_option maxHeartbeats 16000000
set_option maxRecDepth 100000
set_option linter.unusedVariables false
set_option linter.unusedSimpArgs false
set_option linter.unusedSectionVars false
namespace Go.Proofs.It
open Go Go.Ev Go.ChangeShapes Go.WideShapes Go.ChangeAt Go.RowKit
section
variable {H : Type} {k : Nat} {t : TypeId} {d : DataW H}
def Wt (t : TypeId) (d : DataW H) : Prop := (d.weights Try.prog t).all (· ≤ reachBytes) = true
theorem r_int {K : IntKind} (hu : Try.prog.underlying t = some (.int K)) (h : DT Try.prog (k + 1) t d) : ∃ n, dV d = [.int K n] ∧ K.min ≤ n ∧ n ≤ K.max := by
 simp only [DT, hu] at h
 obtain ⟨n, rfl, hw⟩ := h
 simp only [Lit.wf, Bool.and_eq_true, decide_eq_true_eq] at hw
 exact ⟨n, rfl, hw⟩
theorem r_bool (hu : Try.prog.underlying t = some .bool) (h : DT Try.prog (k + 1) t d) : ∃ b, dV d = [.bool b] := by
 simp only [DT, hu] at h
 obtain ⟨b, rfl⟩ := h
 exact ⟨b, rfl⟩
theorem r_str (hu : Try.prog.underlying t = some .string) (h : DT Try.prog (k + 1) t d) : ∃ s, dV d = [.str s] := by
 simp only [DT, hu] at h
 obtain ⟨l, rfl, _⟩ := h
 exact ⟨_, rfl⟩
theorem wt_all {e : TypeId} : ∀ {es : List (DataW H)}, (DataW.weightsAll Try.prog e es).all (· ≤ reachBytes) = true → ∀ x ∈ es, Wt e x
 | [], _, x, hx => by cases hx
 | y :: es, h, x, hx => by
  simp only [DataW.weightsAll, List.all_append, Bool.and_eq_true] at h
  rcases List.mem_cons.1 hx with rfl | hx
  ·exact h.1
  ·exact wt_all h.2 x hx
theorem r_list {α : Type} {enc : α → List V} {p : α → Prop} : ∀ {es : List (DataW H)}, (∀ x ∈ es, ∃ a, dV x = enc a ∧ p a) → ∃ l : List α, dVs es = l.map enc ∧ l.length = es.length ∧ ∀ a ∈ l, p a
 | [], _ => ⟨[], rfl, rfl, fun _ h => by cases h⟩
 | x :: es, h => by
  obtain ⟨a, h1, h2⟩ := h x (by simp)
  obtain ⟨l, h3, h4, h5⟩ := r_list (es := es) fun y hy => h y (by simp [hy])
  refine ⟨a :: l, by rw [dVs, h1, h3]; rfl, by simp [h4], fun b hb => ?_⟩
  rcases List.mem_cons.1 hb with rfl | hb
  ·exact h2
  ·exact h5 b hb
theorem xZk {α : Type} {enc : α → List V} {p : α → Prop} {e : TypeId} {b : Nat} (hu : Try.prog.underlying t = some (.slice e)) (hb : Try.prog.bytesOf e = b) (hin : ∀ x : DataW H, DT Try.prog k e x → Wt e x → ∃ a, dV x = enc a ∧ p a)
  (h : DT Try.prog (k + 1) t d) (hw : Wt t d) : ∃ l : List α, dV d = [.arr (l.map enc)] ∧ l.length * b ≤ reachBytes ∧ ∀ a ∈ l, p a := by
 simp only [DT, hu] at h
 rcases h with rfl | ⟨es, sp, rfl, _, hx⟩
 ·exact ⟨[], rfl, by simp, fun _ h => by cases h⟩
 ·simp only [Wt, DataW.weights, hu, List.all_cons, List.all_append, Bool.and_eq_true, decide_eq_true_eq, hb] at hw
  obtain ⟨l, h1, h2, h3⟩ := r_list (enc := enc) (p := p) (es := es) fun x hxm => hin x (hx x hxm) (wt_all hw.2.1 x hxm)
  refine ⟨l, by rw [dV, h1], ?_, h3⟩
  rw [h2]
  exact Nat.le_trans (Nat.mul_le_mul_right _ (Nat.le_add_right _ _)) hw.1
theorem r_fields {k : Nat} : ∀ {fs : List Field} {ps : List (DataW H)}, F2 (fun (x : DataW H) (g : Field) => DT Try.prog k g.type x) ps fs → (DataW.weightsEach Try.prog (fs.map (·.type)) ps).all (· ≤ reachBytes) = true → F2 (fun (x : DataW H) (t : TypeId) => DT Try.prog k t x ∧ Wt t x) ps (fs.map (·.type))
 | [], [], _, _ => trivial
 | f :: fs, p :: ps, h, hw => by
  simp only [List.map_cons, DataW.weightsEach, List.all_append, Bool.and_eq_true] at hw
  exact ⟨⟨h.1, hw.1⟩, r_fields h.2 hw.2⟩
 | [], _ :: _, h, _ => h.elim
 | _ :: _, [], h, _ => h.elim
theorem wZy {fs : Array Field} {ts : List TypeId} (hu : Try.prog.underlying t = some (.struct fs)) (hf : fs.toList.map (·.type) = ts) (h : DT Try.prog (k + 1) t d) (hw : Wt t d) :
  ∃ ps, dV d = dVc ps ∧ F2 (fun (x : DataW H) (t : TypeId) => DT Try.prog k t x ∧ Wt t x) ps ts := by
 simp only [DT, hu] at h
 obtain ⟨ps, rfl, hF⟩ := h
 simp only [Wt, DataW.weights, hu] at hw
 refine ⟨ps, rfl, ?_⟩
 rw [← hf]
 exact r_fields hF hw
theorem qZQ {R : DataW H → TypeId → Prop} {ps : List (DataW H)} {t : TypeId} {ts : List TypeId} (h : F2 R ps (t :: ts)) : ∃ p ps', ps = p :: ps' ∧ R p t ∧ F2 R ps' ts := by
 cases ps with
 | nil => exact h.elim
 | cons p ps => exact ⟨p, ps, rfl, h⟩
theorem kZ4 {R : DataW H → TypeId → Prop} {ps : List (DataW H)} (h : F2 R ps []) : ps = [] := by
 cases ps with
 | nil => rfl
 | cons p ps => exact h.elim
theorem r_one {e : TypeId} {K : IntKind} (hu : Try.prog.underlying e = some (.int K)) (x : DataW H) (h : DT Try.prog (k + 1) e x) (_ : Wt e x) : ∃ n : Int, dV x = (fun n => [V.int K n]) n ∧ True := by
 obtain ⟨n, h1, _⟩ := r_int hu h
 exact ⟨n, h1, trivial⟩
theorem r_ints (h : DT Try.prog (k + 2) tInts d) (hw : Wt tInts d) : ∃ l : List Int, dV d = [.arr (l.map cI)] ∧ l.length * 8 ≤ reachBytes := by
 obtain ⟨l, h1, h2, _⟩ := xZk uInts bInt (fun x => r_one uInt x) h hw
 exact ⟨l, h1, h2⟩
theorem r_name (h : DT Try.prog (k + 2) tName d) (hw : Wt tName d) : ∃ n : Nm, dV d = [.str n.sp, .str n.pr, .str n.lo] := by
 obtain ⟨ps, h1, hF⟩ := wZy uName fName h hw
 obtain ⟨p1, ps, rfl, ⟨a1, _⟩, hF⟩ := qZQ hF
 obtain ⟨p2, ps, rfl, ⟨a2, _⟩, hF⟩ := qZQ hF
 obtain ⟨p3, ps, rfl, ⟨a3, _⟩, hF⟩ := qZQ hF
 obtain rfl := kZ4 hF
 obtain ⟨s1, e1⟩ := r_str uStr a1
 obtain ⟨s2, e2⟩ := r_str uStr a2
 obtain ⟨s3, e3⟩ := r_str uStr a3
 exact ⟨⟨s1, s2, s3⟩, by rw [h1]; simp [dVc, e1, e2, e3]⟩
theorem r_attr (x : DataW H) (h : DT Try.prog (k + 3) tAttr x) (hw : Wt tAttr x) : ∃ a : Atr, dV x = cA a ∧ True := by
 obtain ⟨ps, h1, hF⟩ := wZy uAttr fAttr h hw
 obtain ⟨p1, ps, rfl, ⟨a1, w1⟩, hF⟩ := qZQ hF
 obtain ⟨p2, ps, rfl, ⟨a2, _⟩, hF⟩ := qZQ hF
 obtain rfl := kZ4 hF
 obtain ⟨n, e1⟩ := r_name a1 w1
 obtain ⟨s2, e2⟩ := r_str uStr a2
 exact ⟨⟨n, s2⟩, by rw [h1]; simp [dVc, e1, e2, cA], trivial⟩
theorem r_node (x : DataW H) (h : DT Try.prog (k + 5) tNode x) (hw : Wt tNode x) : ∃ n : Nd, dV x = cN n ∧ n.kids.length < 2 ^ 50 ∧ n.attrs.length < 2 ^ 50 := by
 obtain ⟨ps, h1, hF⟩ := wZy uNode fNode h hw
 obtain ⟨p1, ps, rfl, ⟨a1, _⟩, hF⟩ := qZQ hF
 obtain ⟨p2, ps, rfl, ⟨a2, w2⟩, hF⟩ := qZQ hF
 obtain ⟨p3, ps, rfl, ⟨a3, _⟩, hF⟩ := qZQ hF
 obtain ⟨p4, ps, rfl, ⟨a4, _⟩, hF⟩ := qZQ hF
 obtain ⟨p5, ps, rfl, ⟨a5, w5⟩, hF⟩ := qZQ hF
 obtain ⟨p6, ps, rfl, ⟨a6, w6⟩, hF⟩ := qZQ hF
 obtain ⟨p7, ps, rfl, ⟨a7, _⟩, hF⟩ := qZQ hF
 obtain ⟨p8, ps, rfl, ⟨a8, w8⟩, hF⟩ := qZQ hF
 obtain ⟨p9, ps, rfl, ⟨a9, _⟩, hF⟩ := qZQ hF
 obtain ⟨q1, ps, rfl, ⟨b1, _⟩, hF⟩ := qZQ hF
 obtain ⟨q2, ps, rfl, ⟨b2, _⟩, hF⟩ := qZQ hF
 obtain ⟨q3, ps, rfl, ⟨b3, _⟩, hF⟩ := qZQ hF
 obtain ⟨q4, ps, rfl, ⟨b4, _⟩, hF⟩ := qZQ hF
 obtain ⟨q5, ps, rfl, ⟨b5, _⟩, hF⟩ := qZQ hF
 obtain rfl := kZ4 hF
 obtain ⟨kd, e1, _⟩ := r_int uKind a1
 obtain ⟨nm, e2⟩ := r_name a2 w2
 obtain ⟨s3, e3⟩ := r_str uStr a3
 obtain ⟨s4, e4⟩ := r_str uStr a4
 obtain ⟨l5, e5, _, _⟩ := xZk uUnits bU16 (fun x => r_one uU16 x) a5 w5
 obtain ⟨l6, e6, z6, _⟩ := xZk uAttrs bAttr r_attr a6 w6
 obtain ⟨n7, e7, _⟩ := r_int uInt a7
 obtain ⟨l8, e8, z8⟩ := r_ints a8 w8
 obtain ⟨n9, e9, _⟩ := r_int uInt a9
 obtain ⟨m1, c1, _⟩ := r_int uInt b1
 obtain ⟨m2, c2, _⟩ := r_int uInt b2
 obtain ⟨m3, c3, _⟩ := r_int uMode b3
 obtain ⟨m4, c4⟩ := r_bool uBool b4
 obtain ⟨m5, c5⟩ := r_bool uBool b5
 have := reachBytes_lt
 refine ⟨⟨kd, nm, s3, s4, l5, l6, n7, l8, n9, m1, m2, m3, m4, m5⟩, ?_, ?_, ?_⟩
 ·rw [h1]
  simp only [dVc, e1, e2, e3, e4, e5, e6, e7, e8, e9, c1, c2, c3, c4, c5]
  rfl
 ·show l8.length < _; omega
 ·show l6.length < _; omega
theorem r_forest (h : DT Try.prog (k + 7) tForest d) (hw : Wt tForest d) : ∃ f : List Nd, dV d = [.arr (f.map cN)] ∧ Sz f := by
 obtain ⟨ps, h1, hF⟩ := wZy uForest fForest h hw
 obtain ⟨p1, ps, rfl, ⟨a1, w1⟩, hF⟩ := qZQ hF
 obtain rfl := kZ4 hF
 obtain ⟨l, e1, z1, hp⟩ := xZk uNodes bNode r_node a1 w1
 have := reachBytes_lt
 exact ⟨l, by rw [h1]; simp [dVc, e1], by omega, fun m hm => (hp m hm).1, fun m hm => (hp m hm).2⟩
theorem r_rule (x : DataW H) (h : DT Try.prog (k + 2) tRule x) (hw : Wt tRule x) : ∃ r : Ru, dV x = cR r ∧ True := by
 obtain ⟨ps, h1, hF⟩ := wZy uRule fRule h hw
 obtain ⟨p1, ps, rfl, ⟨a1, _⟩, hF⟩ := qZQ hF
 obtain ⟨p2, ps, rfl, ⟨a2, _⟩, hF⟩ := qZQ hF
 obtain ⟨p3, ps, rfl, ⟨a3, _⟩, hF⟩ := qZQ hF
 obtain rfl := kZ4 hF
 obtain ⟨n1, e1, _⟩ := r_int uKind a1
 obtain ⟨s2, e2⟩ := r_str uStr a2
 obtain ⟨n3, e3, _⟩ := r_int uVerdict a3
 exact ⟨⟨n1, s2, n3⟩, by rw [h1]; simp [dVc, e1, e2, e3, cR], trivial⟩
theorem r_filter (h : DT Try.prog (k + 4) tFilter d) (hw : Wt tFilter d) : ∃ t : Flt, dV d = cFl t ∧ Fz t := by
 obtain ⟨ps, h1, hF⟩ := wZy uFilter fFilter h hw
 obtain ⟨p1, ps, rfl, ⟨a1, _⟩, hF⟩ := qZQ hF
 obtain ⟨p2, ps, rfl, ⟨a2, w2⟩, hF⟩ := qZQ hF
 obtain rfl := kZ4 hF
 obtain ⟨n1, e1, h3, h4⟩ := r_int uU32 a1
 obtain ⟨l, e2, z2, _⟩ := xZk uRules bRule r_rule a2 w2
 have := reachBytes_lt
 have h3' : (0 : Int) ≤ n1 := h3
 have h4' : n1 ≤ (4294967295 : Int) := h4
 exact ⟨⟨n1, l⟩, by rw [h1]; simp [dVc, e1, e2, cFl], by show l.length < _; omega, h3', by show n1 < _; omega⟩
theorem r_iter (h : DT Try.prog (k + 5) tIter d) (hw : Wt tIter d) : ∃ i : Itr, dV d = cIt i ∧ Fz i.flt := by
 obtain ⟨ps, h1, hF⟩ := wZy uIter fIter h hw
 obtain ⟨p1, ps, rfl, ⟨a1, _⟩, hF⟩ := qZQ hF
 obtain ⟨p2, ps, rfl, ⟨a2, _⟩, hF⟩ := qZQ hF
 obtain ⟨p3, ps, rfl, ⟨a3, _⟩, hF⟩ := qZQ hF
 obtain ⟨p4, ps, rfl, ⟨a4, w4⟩, hF⟩ := qZQ hF
 obtain rfl := kZ4 hF
 obtain ⟨n1, e1, _⟩ := r_int uInt a1
 obtain ⟨n2, e2, _⟩ := r_int uInt a2
 obtain ⟨b3, e3⟩ := r_bool uBool a3
 obtain ⟨t, e4, z4⟩ := r_filter a4 w4
 exact ⟨⟨n1, n2, b3, t⟩, by rw [h1]; simp [dVc, e1, e2, e3, e4, cIt, cFl], z4⟩
end
theorem kZV {H : Type} {d : DataW H} {f : List Nd} (h : dV d = [.arr (f.map cN)]) : dT Try.prog tForest d = eF f := by simp only [dT, uForest, h]; rfl
theorem dT_filter {H : Type} {d : DataW H} {t : Flt} (h : dV d = cFl t) : dT Try.prog tFilter d = eFl t := by simp only [dT, uFilter, h]; rfl
theorem dT_iter {H : Type} {d : DataW H} {i : Itr} (h : dV d = cIt i) : dT Try.prog tIter d = eIt i := by simp only [dT, uIter, h]; rfl
theorem wt_at {H : Type} {ts : List TypeId} {ds : List (DataW H)} (h : (DataW.weightsEach Try.prog ts ds).all (· ≤ reachBytes) = true) {j : Nat} {t : TypeId} {d : DataW H} (ht : ts[j]? = some t) (hd : ds[j]? = some d) : Wt t d :=
 List.all_eq_true.2 fun n hn => List.all_eq_true.1 h n (DataW.weights_mem_each ht hd n hn)
end Go.Proofs.It
