/- The types of this seat. Readings of reactions. No conditions. -/
import Derived.Test.YtoakkanklhfpmaaGreatDoorEwE
import Derived.Test.YtoakkanklhfpmaaGreatDoorCards
import Derived.Test.YtoakkanklhfpmaaGreatDoorTie
import Derived.WalkKit
import Derived.ProofKit
import Derived.OpenShut
import Derived.ShutString
import Derived.ChangeOld
import Derived.Below
import Derived.SizedLaws
import Derived.Carry
import Derived.Deep.DeepHandedRow
import Derived.Lib.LaidTab
import Derived.Stop.LaidErr
import Derived.Lib.LaidIn
import Derived.Test.YtoakkanklhfpmaaGreatDoorRcD
set_option maxHeartbeats 16000000
set_option maxRecDepth 100000
set_option linter.unusedVariables false
set_option linter.unusedSimpArgs false
set_option linter.unusedSectionVars false
namespace Go.Proofs.Rc
open Go Go.Ev
noncomputable def fieldsOf (t : TypeId) : Array Field :=
 match Tryz.prog.underlying t with
 | some (.struct fs) => fs
 | _ => #[]
abbrev tInt : TypeId := 3
abbrev tBool : TypeId := 4
abbrev tStr : TypeId := 9
abbrev tQus : TypeId := 22
abbrev tLs : TypeId := 23
abbrev tInts : TypeId := 24
abbrev tRs : TypeId := 26
abbrev tKind : TypeId := 39
abbrev tRx : TypeId := 41
abbrev tRxs : TypeId := 44
abbrev tQu : TypeId := 50
theorem uInt : Tryz.prog.underlying tInt = some (.int .i64) := by kernel_rfl
theorem uBool : Tryz.prog.underlying tBool = some .bool := by kernel_rfl
theorem uStr : Tryz.prog.underlying tStr = some .string := by kernel_rfl
theorem uQus : Tryz.prog.underlying tQus = some (.slice tQu) := by kernel_rfl
theorem uLs : Tryz.prog.underlying tLs = some (.slice tInts) := by kernel_rfl
theorem uInts : Tryz.prog.underlying tInts = some (.slice tInt) := by kernel_rfl
theorem uKind : Tryz.prog.underlying tKind = some (.int .u8) := by kernel_rfl
theorem uRxs : Tryz.prog.underlying tRxs = some (.slice tRx) := by kernel_rfl
theorem uRs : Tryz.prog.underlying tRs = some (.struct (fieldsOf tRs)) := by kernel_rfl
theorem fRs : (fieldsOf tRs).toList.map (·.type) = [tQus, tLs, tInts, tBool] := by kernel_rfl
theorem uQu : Tryz.prog.underlying tQu = some (.struct (fieldsOf tQu)) := by kernel_rfl
theorem fQu : (fieldsOf tQu).toList.map (·.type) = [tInt, tRxs] := by kernel_rfl
theorem uRx : Tryz.prog.underlying tRx = some (.struct (fieldsOf tRx)) := by kernel_rfl
theorem fRx : (fieldsOf tRx).toList.map (·.type) = [tInt, tKind, tInt, tStr, tStr, tStr, tStr, tStr, tBool, tBool, tInt, tInt] := by kernel_rfl
theorem bInt : Tryz.prog.bytesOf tInt = 8 := by kernel_rfl
theorem bInts : Tryz.prog.bytesOf tInts = 24 := by kernel_rfl
theorem bQu : Tryz.prog.bytesOf tQu = 32 := by kernel_rfl
theorem bRx : Tryz.prog.bytesOf tRx = 128 := by kernel_rfl
theorem kZC : ownKnob Tryz.prog.godebug = none := by kernel_rfl
theorem laidOut : laidOutB Tryz.prog = true := by kernel_rfl
noncomputable def laidWorld (os : Os) : World :=
 let w0 := World.holding Tryz.prog os ⟨#[], #[], []⟩
 let put (h : Array Obj) (g : Nat) (cs : Array Value) : Array Obj := h.modify g fun
  | .cells _ t frozen => .cells cs t frozen
  | o => o
 let pairs (d : DataW Unit) : Array Value := match d with
  | .agg ds => (ds.flatMap fun | .agg [.lit (.int _ a), .lit (.int _ b)] => [Value.int .u8 a, Value.int .u8 b] | _ => []).toArray
  | _ => #[]
 let ints (d : DataW Unit) : Array Value := match d with
  | .agg ds => (ds.map fun | .lit (.int _ n) => Value.int .u8 n | _ => .nilIface).toArray
  | _ => #[]
 { w0 with heap := put (put w0.heap 1 (pairs YtoakkanklhfpmaaGreatDoor.Rows.laid_unicode_utf8_acceptRanges)) 0 (ints YtoakkanklhfpmaaGreatDoor.Rows.laid_unicode_utf8_first) }
theorem laid_met (os : Os) (args : Array Value) : laidMet Tryz.prog YtoakkanklhfpmaaGreatDoor.Rows.reactDrainedRow.laid ((laidWorld os).forCall (fun _ _ => 0) ⟨#[], args, []⟩).memory :=
 laidMet_of_run' 10 (by kernel_rfl) (by kernel_rfl)
open Go Go.Ev Go.ChangeShapes Go.WideShapes Go.ChangeAt Go.RowKit
section
variable {H : Type} {k : Nat} {t : TypeId} {d : DataW H}
def ub (d : DataW H) : Nat := YtoakkanklhfpmaaGreatDoor.Rows.uptoBulk d
def Wt (t : TypeId) (d : DataW H) : Prop := (d.weights Tryz.prog t).all (· ≤ reachBytes) = true
theorem r_int {K : IntKind} (hu : Tryz.prog.underlying t = some (.int K)) (h : DT Tryz.prog (k + 1) t d) : ∃ n, dV d = [.int K n] ∧ K.min ≤ n ∧ n ≤ K.max := by
 simp only [DT, hu] at h
 obtain ⟨n, rfl, hw⟩ := h
 simp only [Lit.wf, Bool.and_eq_true, decide_eq_true_eq] at hw
 exact ⟨n, rfl, hw⟩
theorem r_bool (hu : Tryz.prog.underlying t = some .bool) (h : DT Tryz.prog (k + 1) t d) : ∃ b, dV d = [.bool b] := by
 simp only [DT, hu] at h
 obtain ⟨b, rfl⟩ := h
 exact ⟨b, rfl⟩
theorem r_str (hu : Tryz.prog.underlying t = some .string) (h : DT Tryz.prog (k + 1) t d) : ∃ l : Bs, dV d = [T l] ∧ l.length + 1 ≤ ub d := by
 simp only [DT, hu] at h
 obtain ⟨l, rfl, _⟩ := h
 exact ⟨l, rfl, by simp [ub, YtoakkanklhfpmaaGreatDoor.Rows.uptoBulk]⟩
theorem wt_all {e : TypeId} : ∀ {es : List (DataW H)}, (DataW.weightsAll Tryz.prog e es).all (· ≤ reachBytes) = true → ∀ x ∈ es, Wt e x
 | [], _, x, hx => by cases hx
 | y :: es, h, x, hx => by
  simp only [DataW.weightsAll, List.all_append, Bool.and_eq_true] at h
  rcases List.mem_cons.1 hx with rfl | hx
  ·exact h.1
  ·exact wt_all h.2 x hx
theorem r_list {α : Type} {enc : α → List V} {p : α → Prop} {g : α → Nat} : ∀ {es : List (DataW H)}, (∀ x ∈ es, ∃ a, dV x = enc a ∧ p a ∧ g a ≤ ub x) → ∃ l : List α, dVs es = l.map enc ∧ l.length = es.length ∧ (∀ a ∈ l, p a) ∧ (l.map g).sum ≤ YtoakkanklhfpmaaGreatDoor.Rows.uptoBulkAll es
 | [], _ => ⟨[], rfl, rfl, (fun _ h => by cases h), Nat.zero_le _⟩
 | x :: es, h => by
  obtain ⟨a, h1, h2, h6⟩ := h x (by simp)
  obtain ⟨l, h3, h4, h5, h7⟩ := r_list (es := es) fun y hy => h y (by simp [hy])
  refine ⟨a :: l, by rw [dVs, h1, h3]; rfl, by simp [h4], fun b hb => ?_, ?_⟩
  ·rcases List.mem_cons.1 hb with rfl | hb
   ·exact h2
   ·exact h5 b hb
  ·simp only [List.map_cons, List.sum_cons, YtoakkanklhfpmaaGreatDoor.Rows.uptoBulkAll]
   unfold ub at h6
   omega
theorem xZf {α : Type} {enc : α → List V} {p : α → Prop} {g : α → Nat} {e : TypeId} {b : Nat} (hu : Tryz.prog.underlying t = some (.slice e)) (hb : Tryz.prog.bytesOf e = b) (hin : ∀ x : DataW H, DT Tryz.prog k e x → Wt e x → ∃ a, dV x = enc a ∧ p a ∧ g a ≤ ub x)
  (h : DT Tryz.prog (k + 1) t d) (hw : Wt t d) : ∃ l : List α, dV d = [.arr (l.map enc)] ∧ l.length * b ≤ reachBytes ∧ (∀ a ∈ l, p a) ∧ (l.map g).sum + 1 ≤ ub d := by
 simp only [DT, hu] at h
 rcases h with rfl | ⟨es, sp, rfl, _, hx⟩
 ·exact ⟨[], rfl, by simp, (fun _ h => by cases h), by simp [ub, YtoakkanklhfpmaaGreatDoor.Rows.uptoBulk]⟩
 ·simp only [Wt, DataW.weights, hu, List.all_cons, List.all_append, Bool.and_eq_true, decide_eq_true_eq, hb] at hw
  obtain ⟨l, h1, h2, h3, h4⟩ := r_list (enc := enc) (p := p) (g := g) (es := es) fun x hxm => hin x (hx x hxm) (wt_all hw.2.1 x hxm)
  refine ⟨l, by rw [dV, h1], ?_, h3, ?_⟩
  ·rw [h2]
   exact Nat.le_trans (Nat.mul_le_mul_right _ (Nat.le_add_right _ _)) hw.1
  ·simp only [ub, YtoakkanklhfpmaaGreatDoor.Rows.uptoBulk]
   omega
theorem r_fields {k : Nat} : ∀ {fs : List Field} {ps : List (DataW H)}, F2 (fun (x : DataW H) (g : Field) => DT Tryz.prog k g.type x) ps fs → (DataW.weightsEach Tryz.prog (fs.map (·.type)) ps).all (· ≤ reachBytes) = true → F2 (fun (x : DataW H) (t : TypeId) => DT Tryz.prog k t x ∧ Wt t x) ps (fs.map (·.type))
 | [], [], _, _ => trivial
 | f :: fs, p :: ps, h, hw => by
  simp only [List.map_cons, DataW.weightsEach, List.all_append, Bool.and_eq_true] at hw
  exact ⟨⟨h.1, hw.1⟩, r_fields h.2 hw.2⟩
 | [], _ :: _, h, _ => h.elim
 | _ :: _, [], h, _ => h.elim
theorem r_struct {fs : Array Field} {ts : List TypeId} (hu : Tryz.prog.underlying t = some (.struct fs)) (hf : fs.toList.map (·.type) = ts) (h : DT Tryz.prog (k + 1) t d) (hw : Wt t d) :
  ∃ ps, dV d = dVc ps ∧ F2 (fun (x : DataW H) (t : TypeId) => DT Tryz.prog k t x ∧ Wt t x) ps ts ∧ ub d = YtoakkanklhfpmaaGreatDoor.Rows.uptoBulkAll ps + 1 := by
 simp only [DT, hu] at h
 obtain ⟨ps, rfl, hF⟩ := h
 simp only [Wt, DataW.weights, hu] at hw
 refine ⟨ps, rfl, ?_, by simp [ub, YtoakkanklhfpmaaGreatDoor.Rows.uptoBulk]⟩
 rw [← hf]
 exact r_fields hF hw
theorem vZ9 {R : DataW H → TypeId → Prop} {ps : List (DataW H)} {t : TypeId} {ts : List TypeId} (h : F2 R ps (t :: ts)) : ∃ p ps', ps = p :: ps' ∧ R p t ∧ F2 R ps' ts := by
 cases ps with
 | nil => exact h.elim
 | cons p ps => exact ⟨p, ps, rfl, h⟩
theorem f2_nil {R : DataW H → TypeId → Prop} {ps : List (DataW H)} (h : F2 R ps []) : ps = [] := by
 cases ps with
 | nil => rfl
 | cons p ps => exact h.elim
theorem r_intB {K : IntKind} (hu : Tryz.prog.underlying t = some (.int K)) (h : DT Tryz.prog (k + 1) t d) : ∃ n, dV d = [.int K n] ∧ (K.min ≤ n ∧ n ≤ K.max) ∧ 1 ≤ ub d := by
 simp only [DT, hu] at h
 obtain ⟨n, rfl, hw⟩ := h
 simp only [Lit.wf, Bool.and_eq_true, decide_eq_true_eq] at hw
 exact ⟨n, rfl, hw, by simp [ub, YtoakkanklhfpmaaGreatDoor.Rows.uptoBulk]⟩
theorem len_sum {α : Type} : ∀ l : List α, (l.map fun _ => 1).sum = l.length
 | [] => rfl
 | x :: l => by simp only [List.map_cons, List.sum_cons, len_sum l, List.length_cons]; omega
theorem r_u8 (hu : Tryz.prog.underlying t = some (.int .u8)) (h : DT Tryz.prog (k + 1) t d) : ∃ n : Nat, dV d = [.int .u8 n] := by
 obtain ⟨n, h1, h2, h3⟩ := r_int hu h
 have h2' : (0 : Int) ≤ n := h2
 exact ⟨n.toNat, by rw [h1, Int.toNat_of_nonneg h2']⟩
theorem r_i64 (x : DataW H) (h : DT Tryz.prog (k + 1) tInt x) (_ : Wt tInt x) : ∃ n : Int, dV x = cI n ∧ True ∧ 1 ≤ ub x := by
 obtain ⟨n, h1, _, h4⟩ := r_intB uInt h
 exact ⟨n, h1, trivial, h4⟩
theorem r_rx (x : DataW H) (h : DT Tryz.prog (k + 3) tRx x) (hw : Wt tRx x) : ∃ r : Rx, dV x = cX r ∧ True ∧ 1 ≤ ub x := by
 obtain ⟨ps, h1, hF, hb⟩ := r_struct uRx fRx h hw
 obtain ⟨p1, ps, rfl, ⟨a1, w1⟩, hF⟩ := vZ9 hF
 obtain ⟨p2, ps, rfl, ⟨a2, w2⟩, hF⟩ := vZ9 hF
 obtain ⟨p3, ps, rfl, ⟨a3, w3⟩, hF⟩ := vZ9 hF
 obtain ⟨p4, ps, rfl, ⟨a4, w4⟩, hF⟩ := vZ9 hF
 obtain ⟨p5, ps, rfl, ⟨a5, w5⟩, hF⟩ := vZ9 hF
 obtain ⟨p6, ps, rfl, ⟨a6, w6⟩, hF⟩ := vZ9 hF
 obtain ⟨p7, ps, rfl, ⟨a7, w7⟩, hF⟩ := vZ9 hF
 obtain ⟨p8, ps, rfl, ⟨a8, w8⟩, hF⟩ := vZ9 hF
 obtain ⟨p9, ps, rfl, ⟨a9, w9⟩, hF⟩ := vZ9 hF
 obtain ⟨p10, ps, rfl, ⟨a10, w10⟩, hF⟩ := vZ9 hF
 obtain ⟨p11, ps, rfl, ⟨a11, w11⟩, hF⟩ := vZ9 hF
 obtain ⟨p12, ps, rfl, ⟨a12, w12⟩, hF⟩ := vZ9 hF
 obtain rfl := f2_nil hF
 obtain ⟨x1, e1, _⟩ := r_int uInt a1
 obtain ⟨x2, e2⟩ := r_u8 uKind a2
 obtain ⟨x3, e3, _⟩ := r_int uInt a3
 obtain ⟨x4, e4, _⟩ := r_str uStr a4
 obtain ⟨x5, e5, _⟩ := r_str uStr a5
 obtain ⟨x6, e6, _⟩ := r_str uStr a6
 obtain ⟨x7, e7, _⟩ := r_str uStr a7
 obtain ⟨x8, e8, _⟩ := r_str uStr a8
 obtain ⟨x9, e9⟩ := r_bool uBool a9
 obtain ⟨x10, e10⟩ := r_bool uBool a10
 obtain ⟨x11, e11, _⟩ := r_int uInt a11
 obtain ⟨x12, e12, _⟩ := r_int uInt a12
 exact ⟨⟨x1, x2, x3, x4, x5, x6, x7, x8, x9, x10, x11, x12⟩, by rw [h1]; simp [dVc, e1, e2, e3, e4, e5, e6, e7, e8, e9, e10, e11, e12, cX], trivial, by rw [hb]; omega⟩
theorem r_qu (x : DataW H) (h : DT Tryz.prog (k + 5) tQu x) (hw : Wt tQu x) : ∃ q : Qu, dV x = cQu q ∧ SzQ q ∧ q.l.length ≤ ub x := by
 obtain ⟨ps, h1, hF, hb⟩ := r_struct uQu fQu h hw
 obtain ⟨p1, ps, rfl, ⟨a1, w1⟩, hF⟩ := vZ9 hF
 obtain ⟨p2, ps, rfl, ⟨a2, w2⟩, hF⟩ := vZ9 hF
 obtain rfl := f2_nil hF
 obtain ⟨x1, e1, _⟩ := r_int uInt a1
 obtain ⟨x2, e2, z2, _, u2⟩ := xZf (k := k + 3) (g := fun _ => 1) uRxs bRx (fun x => r_rx (k := k) x) a2 w2
 rw [len_sum] at u2
 refine ⟨⟨x1, x2⟩, by rw [h1]; simp [dVc, e1, e2, cQu], ?_, ?_⟩
 ·unfold SzQ reachBytes at *
  simp only at *
  omega
 ·rw [hb]
  simp only [YtoakkanklhfpmaaGreatDoor.Rows.uptoBulkAll]
  unfold ub at u2
  show x2.length ≤ _
  omega
theorem r_rs (h : DT Tryz.prog (k + 7) tRs d) (hw : Wt tRs d) : ∃ s : Rs, dV d = cS s ∧ SzS s ∧ tot s.qs ≤ ub d := by
 obtain ⟨ps, h1, hF, hb⟩ := r_struct uRs fRs h hw
 obtain ⟨p1, ps, rfl, ⟨a1, w1⟩, hF⟩ := vZ9 hF
 obtain ⟨p2, ps, rfl, ⟨a2, w2⟩, hF⟩ := vZ9 hF
 obtain ⟨p3, ps, rfl, ⟨a3, w3⟩, hF⟩ := vZ9 hF
 obtain ⟨p4, ps, rfl, ⟨a4, w4⟩, hF⟩ := vZ9 hF
 obtain rfl := f2_nil hF
 obtain ⟨x1, e1, z1, y1, u1⟩ := xZf (k := k + 5) (g := fun q : Qu => q.l.length) uQus bQu (fun x => r_qu (k := k) x) a1 w1
 obtain ⟨x2, e2, z2, y2, _⟩ := xZf (k := k + 5) (enc := cL) (p := SzL) (g := fun _ => 0) uLs bInts (fun x hx hwx => by
  obtain ⟨l, e, z, _, _⟩ := xZf (k := k + 4) (g := fun _ => 1) uInts bInt (fun x => r_i64 (k := k + 3) x) hx hwx
  refine ⟨l, e, ?_, Nat.zero_le _⟩
  unfold SzL reachBytes at *
  omega) a2 w2
 obtain ⟨x3, e3, z3, _, _⟩ := xZf (k := k + 5) (g := fun _ => 1) uInts bInt (fun x => r_i64 (k := k + 4) x) a3 w3
 obtain ⟨x4, e4⟩ := r_bool uBool a4
 refine ⟨⟨x1, x2, x3, x4⟩, by rw [h1]; simp [dVc, e1, e2, e3, e4], ⟨?_, ?_, ?_, y1, y2⟩, ?_⟩
 ·unfold reachBytes at z1
  show x1.length ≤ _
  omega
 ·unfold reachBytes at z2
  show x2.length * 24 ≤ _
  omega
 ·unfold SzL reachBytes at *
  show x3.length ≤ _
  omega
 ·rw [hb]
  simp only [YtoakkanklhfpmaaGreatDoor.Rows.uptoBulkAll]
  unfold ub at u1
  show (x1.map fun q => q.l.length).sum ≤ _
  omega
end
theorem dT_rs {H : Type} {d : DataW H} {s : Rs} (h : dV d = cS s) : dT Tryz.prog tRs d = .agg (cS s) := by simp only [dT, uRs, h]
theorem wt_at {H : Type} {ts : List TypeId} {ds : List (DataW H)} (h : (DataW.weightsEach Tryz.prog ts ds).all (· ≤ reachBytes) = true) {j : Nat} {t : TypeId} {d : DataW H} (ht : ts[j]? = some t) (hd : ds[j]? = some d) : Wt t d :=
 List.all_eq_true.2 fun n hn => List.all_eq_true.1 h n (DataW.weights_mem_each ht hd n hn)
end Go.Proofs.Rc
