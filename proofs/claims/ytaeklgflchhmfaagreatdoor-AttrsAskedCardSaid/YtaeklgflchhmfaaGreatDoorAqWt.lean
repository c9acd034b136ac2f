/- The types of this seat. Readings of forests, filters, iterators. No conditions. -/
import Derived.Test.YtaeklgflchhmfaaGreatDoorEwE
import Derived.Test.YtaeklgflchhmfaaGreatDoorCards
import Derived.Test.YtaeklgflchhmfaaGreatDoorTie
import Derived.WalkKit
import Derived.ProofKit
import Derived.OpenShut
import Derived.ShutString
import Derived.ChangeOld
import Derived.Below
import Derived.SizedLaws
import Derived.Carry
import Derived.Deep.DeepHandedRow
import Derived.Lib.LaidTab
import Derived.Stop.LaidErr
import Derived.Lib.LaidIn
import Derived.Test.YtaeklgflchhmfaaGreatDoorAqE
set_option maxHeartbeats 16000000
set_option maxRecDepth 100000
set_option linter.unusedVariables false
set_option linter.unusedSimpArgs false
set_option linter.unusedSectionVars false
namespace Go.Proofs.It
open Go Go.Ev
noncomputable def fieldsOf (t : TypeId) : Array Field :=
 match Tryz.prog.underlying t with
 | some (.struct fs) => fs
 | _ => #[]
abbrev tInt : TypeId := 3
abbrev tBool : TypeId := 4
abbrev tStr : TypeId := 9
abbrev tNodes : TypeId := 22
abbrev tForest : TypeId := 24
abbrev tKind : TypeId := 45
abbrev tName : TypeId := 47
abbrev tUnits : TypeId := 49
abbrev tAttrs : TypeId := 50
abbrev tInts : TypeId := 51
abbrev tMode : TypeId := 52
abbrev tNode : TypeId := 54
abbrev tAttr : TypeId := 57
abbrev tU16 : TypeId := 145
theorem uInt : Tryz.prog.underlying tInt = some (.int .i64) := by kernel_rfl
theorem uBool : Tryz.prog.underlying tBool = some .bool := by kernel_rfl
theorem uStr : Tryz.prog.underlying tStr = some .string := by kernel_rfl
theorem uNodes : Tryz.prog.underlying tNodes = some (.slice tNode) := by kernel_rfl
theorem uForest : Tryz.prog.underlying tForest = some (.struct (fieldsOf tForest)) := by kernel_rfl
theorem fForest : (fieldsOf tForest).toList.map (·.type) = [tNodes] := by kernel_rfl
theorem uInts : Tryz.prog.underlying tInts = some (.slice tInt) := by kernel_rfl
theorem uKind : Tryz.prog.underlying tKind = some (.int .u8) := by kernel_rfl
theorem uName : Tryz.prog.underlying tName = some (.struct (fieldsOf tName)) := by kernel_rfl
theorem fName : (fieldsOf tName).toList.map (·.type) = [tStr, tStr, tStr] := by kernel_rfl
theorem uUnits : Tryz.prog.underlying tUnits = some (.slice tU16) := by kernel_rfl
theorem uAttrs : Tryz.prog.underlying tAttrs = some (.slice tAttr) := by kernel_rfl
theorem uMode : Tryz.prog.underlying tMode = some (.int .u8) := by kernel_rfl
theorem uNode : Tryz.prog.underlying tNode = some (.struct (fieldsOf tNode)) := by kernel_rfl
theorem fNode : (fieldsOf tNode).toList.map (·.type) = [tKind, tName, tStr, tStr, tUnits, tAttrs, tInt, tInts, tInt, tInt, tInt, tMode, tBool, tBool] := by kernel_rfl
theorem uU16 : Tryz.prog.underlying tU16 = some (.int .u16) := by kernel_rfl
theorem uAttr : Tryz.prog.underlying tAttr = some (.struct (fieldsOf tAttr)) := by kernel_rfl
theorem fAttr : (fieldsOf tAttr).toList.map (·.type) = [tName, tStr] := by kernel_rfl
theorem bInt : Tryz.prog.bytesOf tInt = 8 := by kernel_rfl
theorem bU16 : Tryz.prog.bytesOf tU16 = 2 := by kernel_rfl
theorem bNode : Tryz.prog.bytesOf tNode = 200 := by kernel_rfl
theorem bAttr : Tryz.prog.bytesOf tAttr = 64 := by kernel_rfl
theorem ownKnob_none : ownKnob Tryz.prog.godebug = none := by kernel_rfl
theorem laidOut : laidOutB Tryz.prog = true := by kernel_rfl
noncomputable def laidWorld (os : Os) : World :=
 let w0 := World.holding Tryz.prog os ⟨#[], #[], []⟩
 let put (h : Array Obj) (g : Nat) (cs : Array Value) : Array Obj := h.modify g fun
  | .cells _ t frozen => .cells cs t frozen
  | o => o
 let pairs (d : DataW Unit) : Array Value := match d with
  | .agg ds => (ds.flatMap fun | .agg [.lit (.int _ a), .lit (.int _ b)] => [Value.int .u8 a, Value.int .u8 b] | _ => []).toArray
  | _ => #[]
 let ints (d : DataW Unit) : Array Value := match d with
  | .agg ds => (ds.map fun | .lit (.int _ n) => Value.int .u8 n | _ => .nilIface).toArray
  | _ => #[]
 { w0 with heap := put (put w0.heap 1 (pairs YtaeklgflchhmfaaGreatDoor.Rows.laid_unicode_utf8_acceptRanges)) 0 (ints YtaeklgflchhmfaaGreatDoor.Rows.laid_unicode_utf8_first) }
theorem laid_met (os : Os) (args : Array Value) : laidMet Tryz.prog YtaeklgflchhmfaaGreatDoor.Rows.attrsAskedRow.laid ((laidWorld os).forCall (fun _ _ => 0) ⟨#[], args, []⟩).memory :=
 laidMet_of_run' 10 (by kernel_rfl) (by kernel_rfl)
open Go Go.Ev Go.ChangeShapes Go.WideShapes Go.ChangeAt Go.RowKit
section
variable {H : Type} {k : Nat} {t : TypeId} {d : DataW H}
def Wt (t : TypeId) (d : DataW H) : Prop := (d.weights Tryz.prog t).all (· ≤ reachBytes) = true
theorem r_int {K : IntKind} (hu : Tryz.prog.underlying t = some (.int K)) (h : DT Tryz.prog (k + 1) t d) : ∃ n, dV d = [.int K n] ∧ K.min ≤ n ∧ n ≤ K.max := by
 simp only [DT, hu] at h
 obtain ⟨n, rfl, hw⟩ := h
 simp only [Lit.wf, Bool.and_eq_true, decide_eq_true_eq] at hw
 exact ⟨n, rfl, hw⟩
theorem r_bool (hu : Tryz.prog.underlying t = some .bool) (h : DT Tryz.prog (k + 1) t d) : ∃ b, dV d = [.bool b] := by
 simp only [DT, hu] at h
 obtain ⟨b, rfl⟩ := h
 exact ⟨b, rfl⟩
theorem kZm (hu : Tryz.prog.underlying t = some .string) (h : DT Tryz.prog (k + 1) t d) (hw : Wt t d) : ∃ s, dV d = [.str s] ∧ s.size ≤ reachBytes := by
 simp only [DT, hu] at h
 obtain ⟨l, rfl, _⟩ := h
 refine ⟨⟨l.toArray⟩, rfl, ?_⟩
 simp only [Wt, DataW.weights, List.all_cons, List.all_nil, Bool.and_true, decide_eq_true_eq] at hw
 simpa [ByteArray.size] using hw
theorem wt_all {e : TypeId} : ∀ {es : List (DataW H)}, (DataW.weightsAll Tryz.prog e es).all (· ≤ reachBytes) = true → ∀ x ∈ es, Wt e x
 | [], _, x, hx => by cases hx
 | y :: es, h, x, hx => by
  simp only [DataW.weightsAll, List.all_append, Bool.and_eq_true] at h
  rcases List.mem_cons.1 hx with rfl | hx
  ·exact h.1
  ·exact wt_all h.2 x hx
theorem r_list {α : Type} {enc : α → List V} {p : α → Prop} : ∀ {es : List (DataW H)}, (∀ x ∈ es, ∃ a, dV x = enc a ∧ p a) → ∃ l : List α, dVs es = l.map enc ∧ l.length = es.length ∧ ∀ a ∈ l, p a
 | [], _ => ⟨[], rfl, rfl, fun _ h => by cases h⟩
 | x :: es, h => by
  obtain ⟨a, h1, h2⟩ := h x (by simp)
  obtain ⟨l, h3, h4, h5⟩ := r_list (es := es) fun y hy => h y (by simp [hy])
  refine ⟨a :: l, by rw [dVs, h1, h3]; rfl, by simp [h4], fun b hb => ?_⟩
  rcases List.mem_cons.1 hb with rfl | hb
  ·exact h2
  ·exact h5 b hb
theorem r_slice {α : Type} {enc : α → List V} {p : α → Prop} {e : TypeId} {b : Nat} (hu : Tryz.prog.underlying t = some (.slice e)) (hb : Tryz.prog.bytesOf e = b) (hin : ∀ x : DataW H, DT Tryz.prog k e x → Wt e x → ∃ a, dV x = enc a ∧ p a)
  (h : DT Tryz.prog (k + 1) t d) (hw : Wt t d) : ∃ l : List α, dV d = [.arr (l.map enc)] ∧ l.length * b ≤ reachBytes ∧ ∀ a ∈ l, p a := by
 simp only [DT, hu] at h
 rcases h with rfl | ⟨es, sp, rfl, _, hx⟩
 ·exact ⟨[], rfl, by simp, fun _ h => by cases h⟩
 ·simp only [Wt, DataW.weights, hu, List.all_cons, List.all_append, Bool.and_eq_true, decide_eq_true_eq, hb] at hw
  obtain ⟨l, h1, h2, h3⟩ := r_list (enc := enc) (p := p) (es := es) fun x hxm => hin x (hx x hxm) (wt_all hw.2.1 x hxm)
  refine ⟨l, by rw [dV, h1], ?_, h3⟩
  rw [h2]
  exact Nat.le_trans (Nat.mul_le_mul_right _ (Nat.le_add_right _ _)) hw.1
theorem r_fields {k : Nat} : ∀ {fs : List Field} {ps : List (DataW H)}, F2 (fun (x : DataW H) (g : Field) => DT Tryz.prog k g.type x) ps fs → (DataW.weightsEach Tryz.prog (fs.map (·.type)) ps).all (· ≤ reachBytes) = true → F2 (fun (x : DataW H) (t : TypeId) => DT Tryz.prog k t x ∧ Wt t x) ps (fs.map (·.type))
 | [], [], _, _ => trivial
 | f :: fs, p :: ps, h, hw => by
  simp only [List.map_cons, DataW.weightsEach, List.all_append, Bool.and_eq_true] at hw
  exact ⟨⟨h.1, hw.1⟩, r_fields h.2 hw.2⟩
 | [], _ :: _, h, _ => h.elim
 | _ :: _, [], h, _ => h.elim
theorem kZP {fs : Array Field} {ts : List TypeId} (hu : Tryz.prog.underlying t = some (.struct fs)) (hf : fs.toList.map (·.type) = ts) (h : DT Tryz.prog (k + 1) t d) (hw : Wt t d) :
  ∃ ps, dV d = dVc ps ∧ F2 (fun (x : DataW H) (t : TypeId) => DT Tryz.prog k t x ∧ Wt t x) ps ts := by
 simp only [DT, hu] at h
 obtain ⟨ps, rfl, hF⟩ := h
 simp only [Wt, DataW.weights, hu] at hw
 refine ⟨ps, rfl, ?_⟩
 rw [← hf]
 exact r_fields hF hw
theorem vZm {R : DataW H → TypeId → Prop} {ps : List (DataW H)} {t : TypeId} {ts : List TypeId} (h : F2 R ps (t :: ts)) : ∃ p ps', ps = p :: ps' ∧ R p t ∧ F2 R ps' ts := by
 cases ps with
 | nil => exact h.elim
 | cons p ps => exact ⟨p, ps, rfl, h⟩
theorem f2_nil {R : DataW H → TypeId → Prop} {ps : List (DataW H)} (h : F2 R ps []) : ps = [] := by
 cases ps with
 | nil => rfl
 | cons p ps => exact h.elim
theorem r_one {e : TypeId} {K : IntKind} (hu : Tryz.prog.underlying e = some (.int K)) (x : DataW H) (h : DT Tryz.prog (k + 1) e x) (_ : Wt e x) : ∃ n : Int, dV x = (fun n => [V.int K n]) n ∧ True := by
 obtain ⟨n, h1, _⟩ := r_int hu h
 exact ⟨n, h1, trivial⟩
theorem r_ints (h : DT Tryz.prog (k + 2) tInts d) (hw : Wt tInts d) : ∃ l : List Int, dV d = [.arr (l.map cI)] ∧ l.length * 8 ≤ reachBytes := by
 obtain ⟨l, h1, h2, _⟩ := r_slice uInts bInt (fun x => r_one uInt x) h hw
 exact ⟨l, h1, h2⟩
theorem size_lt {s : ByteArray} (h : s.size ≤ reachBytes) : s.size < 2 ^ 50 := by
 have := reachBytes_lt
 omega
theorem r_name (h : DT Tryz.prog (k + 2) tName d) (hw : Wt tName d) : ∃ n : Nm, dV d = [.str n.sp, .str n.pr, .str n.lo] ∧ SzN n := by
 obtain ⟨ps, h1, hF⟩ := kZP uName fName h hw
 obtain ⟨p1, ps, rfl, ⟨a1, w1⟩, hF⟩ := vZm hF
 obtain ⟨p2, ps, rfl, ⟨a2, w2⟩, hF⟩ := vZm hF
 obtain ⟨p3, ps, rfl, ⟨a3, w3⟩, hF⟩ := vZm hF
 obtain rfl := f2_nil hF
 obtain ⟨s1, e1, _⟩ := kZm uStr a1 w1
 obtain ⟨s2, e2, z2⟩ := kZm uStr a2 w2
 obtain ⟨s3, e3, z3⟩ := kZm uStr a3 w3
 exact ⟨⟨s1, s2, s3⟩, by rw [h1]; simp [dVc, e1, e2, e3], size_lt z2, size_lt z3⟩
theorem r_attr (x : DataW H) (h : DT Tryz.prog (k + 3) tAttr x) (hw : Wt tAttr x) : ∃ a : Atr, dV x = cA a ∧ SzN a.nm := by
 obtain ⟨ps, h1, hF⟩ := kZP uAttr fAttr h hw
 obtain ⟨p1, ps, rfl, ⟨a1, w1⟩, hF⟩ := vZm hF
 obtain ⟨p2, ps, rfl, ⟨a2, w2⟩, hF⟩ := vZm hF
 obtain rfl := f2_nil hF
 obtain ⟨n, e1, zn⟩ := r_name a1 w1
 obtain ⟨s2, e2, _⟩ := kZm uStr a2 w2
 exact ⟨⟨n, s2⟩, by rw [h1]; simp [dVc, e1, e2, cA], zn⟩
def NdW (n : Nd) : Prop := n.kids.length < 2 ^ 45 ∧ n.attrs.length < 2 ^ 42 ∧ (∀ a ∈ n.attrs, SzN a.nm) ∧ n.data.length < 2 ^ 47
theorem r_node (x : DataW H) (h : DT Tryz.prog (k + 5) tNode x) (hw : Wt tNode x) : ∃ n : Nd, dV x = cN n ∧ NdW n := by
 obtain ⟨ps, h1, hF⟩ := kZP uNode fNode h hw
 obtain ⟨p1, ps, rfl, ⟨a1, _⟩, hF⟩ := vZm hF
 obtain ⟨p2, ps, rfl, ⟨a2, w2⟩, hF⟩ := vZm hF
 obtain ⟨p3, ps, rfl, ⟨a3, w3⟩, hF⟩ := vZm hF
 obtain ⟨p4, ps, rfl, ⟨a4, w4⟩, hF⟩ := vZm hF
 obtain ⟨p5, ps, rfl, ⟨a5, w5⟩, hF⟩ := vZm hF
 obtain ⟨p6, ps, rfl, ⟨a6, w6⟩, hF⟩ := vZm hF
 obtain ⟨p7, ps, rfl, ⟨a7, _⟩, hF⟩ := vZm hF
 obtain ⟨p8, ps, rfl, ⟨a8, w8⟩, hF⟩ := vZm hF
 obtain ⟨p9, ps, rfl, ⟨a9, _⟩, hF⟩ := vZm hF
 obtain ⟨q1, ps, rfl, ⟨b1, _⟩, hF⟩ := vZm hF
 obtain ⟨q2, ps, rfl, ⟨b2, _⟩, hF⟩ := vZm hF
 obtain ⟨q3, ps, rfl, ⟨b3, _⟩, hF⟩ := vZm hF
 obtain ⟨q4, ps, rfl, ⟨b4, _⟩, hF⟩ := vZm hF
 obtain ⟨q5, ps, rfl, ⟨b5, _⟩, hF⟩ := vZm hF
 obtain rfl := f2_nil hF
 obtain ⟨kd, e1, _⟩ := r_int uKind a1
 obtain ⟨nm, e2, _⟩ := r_name a2 w2
 obtain ⟨s3, e3, _⟩ := kZm uStr a3 w3
 obtain ⟨s4, e4, _⟩ := kZm uStr a4 w4
 obtain ⟨l5, e5, z5, _⟩ := r_slice uUnits bU16 (fun x => r_one uU16 x) a5 w5
 obtain ⟨l6, e6, z6, y6⟩ := r_slice uAttrs bAttr r_attr a6 w6
 obtain ⟨n7, e7, _⟩ := r_int uInt a7
 obtain ⟨l8, e8, z8⟩ := r_ints a8 w8
 obtain ⟨n9, e9, _⟩ := r_int uInt a9
 obtain ⟨m1, c1, _⟩ := r_int uInt b1
 obtain ⟨m2, c2, _⟩ := r_int uInt b2
 obtain ⟨m3, c3, _⟩ := r_int uMode b3
 obtain ⟨m4, c4⟩ := r_bool uBool b4
 obtain ⟨m5, c5⟩ := r_bool uBool b5
 have := reachBytes_lt
 refine ⟨⟨kd, nm, s3, s4, l5, l6, n7, l8, n9, m1, m2, m3, m4, m5⟩, ?_, ?_, ?_, y6, ?_⟩
 ·rw [h1]
  simp only [dVc, e1, e2, e3, e4, e5, e6, e7, e8, e9, c1, c2, c3, c4, c5]
  rfl
 ·show l8.length < _; omega
 ·show l6.length < _; omega
 ·show l5.length < _; omega
structure SzW (f : List Nd) : Prop where
 sz : Sz f
 sa : SzA f
 sl : ∀ h, (ats f h).length < 2 ^ 42
 len : f.length < 2 ^ 40
 kids : ∀ m ∈ f, m.kids.length < 2 ^ 45
theorem r_forest (h : DT Tryz.prog (k + 7) tForest d) (hw : Wt tForest d) : ∃ f : List Nd, dV d = [.arr (f.map cN)] ∧ SzW f := by
 obtain ⟨ps, h1, hF⟩ := kZP uForest fForest h hw
 obtain ⟨p1, ps, rfl, ⟨a1, w1⟩, hF⟩ := vZm hF
 obtain rfl := f2_nil hF
 obtain ⟨l, e1, z1, hp⟩ := r_slice uNodes bNode r_node a1 w1
 have := reachBytes_lt
 refine ⟨l, by rw [h1]; simp [dVc, e1], ⟨by omega, fun m hm => by have := (hp m hm).1; omega, fun m hm => by have := (hp m hm).2.1; omega⟩, fun m hm => (hp m hm).2.2.1, fun h => ?_, by omega, fun m hm => (hp m hm).1⟩
 rcases at_mem (f := l) h with e | e
 ·rw [ats, e]; decide
 ·exact (hp _ e).2.1
end
theorem dT_forest {H : Type} {d : DataW H} {f : List Nd} (h : dV d = [.arr (f.map cN)]) : dT Tryz.prog tForest d = eF f := by simp only [dT, uForest, h]; rfl
theorem dT_int {H : Type} {d : DataW H} {n : Int} (h : dV d = [.int .i64 n]) : dT Tryz.prog tInt d = .int .i64 n := by simp only [dT, uInt, h]; rfl
theorem dT_str {H : Type} {d : DataW H} {s : ByteArray} (h : dV d = [.str s]) : dT Tryz.prog tStr d = .str s := by simp only [dT, uStr, h]; rfl
theorem dT_bool {H : Type} {d : DataW H} {b : Bool} (h : dV d = [.bool b]) : dT Tryz.prog tBool d = .bool b := by simp only [dT, uBool, h]; rfl
theorem wt_at {H : Type} {ts : List TypeId} {ds : List (DataW H)} (h : (DataW.weightsEach Tryz.prog ts ds).all (· ≤ reachBytes) = true) {j : Nat} {t : TypeId} {d : DataW H} (ht : ts[j]? = some t) (hd : ds[j]? = some d) : Wt t d :=
 List.all_eq_true.2 fun n hn => List.all_eq_true.1 h n (DataW.weights_mem_each ht hd n hn)
end Go.Proofs.It
