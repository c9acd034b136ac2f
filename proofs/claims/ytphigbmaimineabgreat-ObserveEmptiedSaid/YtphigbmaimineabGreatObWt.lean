/- The types of this seat. Readings of watches. No conditions. -/
import Derived.Test.YtphigbmaimineabGreatEwE
import Derived.Test.YtphigbmaimineabGreatRows
import Derived.WalkKit
import Derived.ProofKit
import Derived.OpenShut
import Derived.ShutString
import Derived.ChangeOld
import Derived.Below
import Derived.SizedLaws
import Derived.Carry
import Derived.Test.YtphigbmaimineabGreatObD
set_option maxHeartbeats 16000000
set_option maxRecDepth 100000
set_option linter.unusedVariables false
set_option linter.unusedSimpArgs false
set_option linter.unusedSectionVars false
namespace Go.Proofs.Ob
open Go Go.Ev
noncomputable def fieldsOf (t : TypeId) : Array Field :=
 match Tryz.prog.underlying t with
 | some (.struct fs) => fs
 | _ => #[]
abbrev tInt : TypeId := 3
abbrev tBool : TypeId := 4
abbrev tStr : TypeId := 9
abbrev tRegs : TypeId := 22
abbrev tQs : TypeId := 23
abbrev tWch : TypeId := 25
abbrev tRecs : TypeId := 31
abbrev tSaid : TypeId := 35
abbrev tStrs : TypeId := 36
abbrev tOpt : TypeId := 38
abbrev tReg : TypeId := 40
abbrev tUnits : TypeId := 53
abbrev tInts : TypeId := 58
abbrev tKind : TypeId := 71
abbrev tRec : TypeId := 73
abbrev tU16 : TypeId := 99
theorem uInt : Tryz.prog.underlying tInt = some (.int .i64) := by kernel_rfl
theorem uBool : Tryz.prog.underlying tBool = some .bool := by kernel_rfl
theorem uStr : Tryz.prog.underlying tStr = some .string := by kernel_rfl
theorem uRegs : Tryz.prog.underlying tRegs = some (.slice tReg) := by kernel_rfl
theorem uQs : Tryz.prog.underlying tQs = some (.slice tRecs) := by kernel_rfl
theorem uRecs : Tryz.prog.underlying tRecs = some (.slice tRec) := by kernel_rfl
theorem uSaid : Tryz.prog.underlying tSaid = some (.int .u8) := by kernel_rfl
theorem uStrs : Tryz.prog.underlying tStrs = some (.slice tStr) := by kernel_rfl
theorem uUnits : Tryz.prog.underlying tUnits = some (.slice tU16) := by kernel_rfl
theorem uInts : Tryz.prog.underlying tInts = some (.slice tInt) := by kernel_rfl
theorem uKind : Tryz.prog.underlying tKind = some (.int .u8) := by kernel_rfl
theorem uU16 : Tryz.prog.underlying tU16 = some (.int .u16) := by kernel_rfl
theorem uWch : Tryz.prog.underlying tWch = some (.struct (fieldsOf tWch)) := by kernel_rfl
theorem fWch : (fieldsOf tWch).toList.map (·.type) = [tRegs, tInt, tQs] := by kernel_rfl
theorem uOpt : Tryz.prog.underlying tOpt = some (.struct (fieldsOf tOpt)) := by kernel_rfl
theorem fOpt : (fieldsOf tOpt).toList.map (·.type) = [tBool, tBool, tSaid, tSaid, tSaid, tSaid, tStrs, tBool] := by kernel_rfl
theorem uReg : Tryz.prog.underlying tReg = some (.struct (fieldsOf tReg)) := by kernel_rfl
theorem fReg : (fieldsOf tReg).toList.map (·.type) = [tInt, tInt, tInt, tOpt, tInt] := by kernel_rfl
theorem uRec : Tryz.prog.underlying tRec = some (.struct (fieldsOf tRec)) := by kernel_rfl
theorem fRec : (fieldsOf tRec).toList.map (·.type) = [tKind, tInt, tStr, tStr, tBool, tStr, tUnits, tInts, tInts, tInt, tInt] := by kernel_rfl
theorem bInt : Tryz.prog.bytesOf tInt = 8 := by kernel_rfl
theorem bU16 : Tryz.prog.bytesOf tU16 = 2 := by kernel_rfl
theorem bStr : Tryz.prog.bytesOf tStr = 16 := by kernel_rfl
theorem bReg : Tryz.prog.bytesOf tReg = 72 := by kernel_rfl
theorem bRec : Tryz.prog.bytesOf tRec = 160 := by kernel_rfl
theorem bRecs : Tryz.prog.bytesOf tRecs = 24 := by kernel_rfl
theorem ownKnob_none : ownKnob Tryz.prog.godebug = none := by kernel_rfl
theorem laidOut : laidOutB Tryz.prog = true := by kernel_rfl
open Go Go.Ev Go.ChangeShapes Go.WideShapes Go.ChangeAt Go.RowKit
section
variable {H : Type} {k : Nat} {t : TypeId} {d : DataW H}
def Wt (t : TypeId) (d : DataW H) : Prop := (d.weights Tryz.prog t).all (· ≤ reachBytes) = true
theorem r_int {K : IntKind} (hu : Tryz.prog.underlying t = some (.int K)) (h : DT Tryz.prog (k + 1) t d) : ∃ n, dV d = [.int K n] ∧ K.min ≤ n ∧ n ≤ K.max := by
 simp only [DT, hu] at h
 obtain ⟨n, rfl, hw⟩ := h
 simp only [Lit.wf, Bool.and_eq_true, decide_eq_true_eq] at hw
 exact ⟨n, rfl, hw⟩
theorem r_bool (hu : Tryz.prog.underlying t = some .bool) (h : DT Tryz.prog (k + 1) t d) : ∃ b, dV d = [.bool b] := by
 simp only [DT, hu] at h
 obtain ⟨b, rfl⟩ := h
 exact ⟨b, rfl⟩
theorem r_str (hu : Tryz.prog.underlying t = some .string) (h : DT Tryz.prog (k + 1) t d) : ∃ s, dV d = [.str s] := by
 simp only [DT, hu] at h
 obtain ⟨l, rfl, _⟩ := h
 exact ⟨_, rfl⟩
theorem wt_all {e : TypeId} : ∀ {es : List (DataW H)}, (DataW.weightsAll Tryz.prog e es).all (· ≤ reachBytes) = true → ∀ x ∈ es, Wt e x
 | [], _, x, hx => by cases hx
 | y :: es, h, x, hx => by
  simp only [DataW.weightsAll, List.all_append, Bool.and_eq_true] at h
  rcases List.mem_cons.1 hx with rfl | hx
  ·exact h.1
  ·exact wt_all h.2 x hx
theorem r_list {α : Type} {enc : α → List V} {p : α → Prop} : ∀ {es : List (DataW H)}, (∀ x ∈ es, ∃ a, dV x = enc a ∧ p a) → ∃ l : List α, dVs es = l.map enc ∧ l.length = es.length ∧ ∀ a ∈ l, p a
 | [], _ => ⟨[], rfl, rfl, fun _ h => by cases h⟩
 | x :: es, h => by
  obtain ⟨a, h1, h2⟩ := h x (by simp)
  obtain ⟨l, h3, h4, h5⟩ := r_list (es := es) fun y hy => h y (by simp [hy])
  refine ⟨a :: l, by rw [dVs, h1, h3]; rfl, by simp [h4], fun b hb => ?_⟩
  rcases List.mem_cons.1 hb with rfl | hb
  ·exact h2
  ·exact h5 b hb
theorem jZi {α : Type} {enc : α → List V} {p : α → Prop} {e : TypeId} {b : Nat} (hu : Tryz.prog.underlying t = some (.slice e)) (hb : Tryz.prog.bytesOf e = b) (hin : ∀ x : DataW H, DT Tryz.prog k e x → Wt e x → ∃ a, dV x = enc a ∧ p a)
  (h : DT Tryz.prog (k + 1) t d) (hw : Wt t d) : ∃ l : List α, dV d = [.arr (l.map enc)] ∧ l.length * b ≤ reachBytes ∧ ∀ a ∈ l, p a := by
 simp only [DT, hu] at h
 rcases h with rfl | ⟨es, sp, rfl, _, hx⟩
 ·exact ⟨[], rfl, by simp, fun _ h => by cases h⟩
 ·simp only [Wt, DataW.weights, hu, List.all_cons, List.all_append, Bool.and_eq_true, decide_eq_true_eq, hb] at hw
  obtain ⟨l, h1, h2, h3⟩ := r_list (enc := enc) (p := p) (es := es) fun x hxm => hin x (hx x hxm) (wt_all hw.2.1 x hxm)
  refine ⟨l, by rw [dV, h1], ?_, h3⟩
  rw [h2]
  exact Nat.le_trans (Nat.mul_le_mul_right _ (Nat.le_add_right _ _)) hw.1
theorem r_fields {k : Nat} : ∀ {fs : List Field} {ps : List (DataW H)}, F2 (fun (x : DataW H) (g : Field) => DT Tryz.prog k g.type x) ps fs → (DataW.weightsEach Tryz.prog (fs.map (·.type)) ps).all (· ≤ reachBytes) = true → F2 (fun (x : DataW H) (t : TypeId) => DT Tryz.prog k t x ∧ Wt t x) ps (fs.map (·.type))
 | [], [], _, _ => trivial
 | f :: fs, p :: ps, h, hw => by
  simp only [List.map_cons, DataW.weightsEach, List.all_append, Bool.and_eq_true] at hw
  exact ⟨⟨h.1, hw.1⟩, r_fields h.2 hw.2⟩
 | [], _ :: _, h, _ => h.elim
 | _ :: _, [], h, _ => h.elim
theorem kZc {fs : Array Field} {ts : List TypeId} (hu : Tryz.prog.underlying t = some (.struct fs)) (hf : fs.toList.map (·.type) = ts) (h : DT Tryz.prog (k + 1) t d) (hw : Wt t d) :
  ∃ ps, dV d = dVc ps ∧ F2 (fun (x : DataW H) (t : TypeId) => DT Tryz.prog k t x ∧ Wt t x) ps ts := by
 simp only [DT, hu] at h
 obtain ⟨ps, rfl, hF⟩ := h
 simp only [Wt, DataW.weights, hu] at hw
 refine ⟨ps, rfl, ?_⟩
 rw [← hf]
 exact r_fields hF hw
theorem vZo {R : DataW H → TypeId → Prop} {ps : List (DataW H)} {t : TypeId} {ts : List TypeId} (h : F2 R ps (t :: ts)) : ∃ p ps', ps = p :: ps' ∧ R p t ∧ F2 R ps' ts := by
 cases ps with
 | nil => exact h.elim
 | cons p ps => exact ⟨p, ps, rfl, h⟩
theorem f2_nil {R : DataW H → TypeId → Prop} {ps : List (DataW H)} (h : F2 R ps []) : ps = [] := by
 cases ps with
 | nil => rfl
 | cons p ps => exact h.elim
theorem r_text (x : DataW H) (h : DT Tryz.prog (k + 1) tStr x) (_ : Wt tStr x) : ∃ l : Bs, dV x = cT l ∧ True := by
 obtain ⟨s, h1⟩ := r_str uStr h
 obtain ⟨l, h2⟩ := T_of s
 exact ⟨l, by rw [h1, h2]; rfl, trivial⟩
theorem r_txt (x : DataW H) (h : DT Tryz.prog (k + 1) tStr x) : ∃ l : Bs, dV x = [T l] := by
 obtain ⟨s, h1⟩ := r_str uStr h
 obtain ⟨l, h2⟩ := T_of s
 exact ⟨l, by rw [h1, h2]⟩
theorem r_u8 (hu : Tryz.prog.underlying t = some (.int .u8)) (h : DT Tryz.prog (k + 1) t d) : ∃ n : Nat, dV d = [.int .u8 n] := by
 obtain ⟨n, h1, h2, h3⟩ := r_int hu h
 have h2' : (0 : Int) ≤ n := h2
 exact ⟨n.toNat, by rw [h1, Int.toNat_of_nonneg h2']⟩
theorem r_u16 (x : DataW H) (h : DT Tryz.prog (k + 1) tU16 x) (_ : Wt tU16 x) : ∃ u : Nat, dV x = cU u ∧ True := by
 obtain ⟨n, h1, h2, h3⟩ := r_int uU16 h
 have h2' : (0 : Int) ≤ n := h2
 exact ⟨n.toNat, by rw [h1]; simp only [cU, Int.toNat_of_nonneg h2'], trivial⟩
theorem r_i64 (x : DataW H) (h : DT Tryz.prog (k + 1) tInt x) (_ : Wt tInt x) : ∃ n : Int, dV x = cI n ∧ True := by
 obtain ⟨n, h1, _⟩ := r_int uInt h
 exact ⟨n, h1, trivial⟩
theorem r_opt (x : DataW H) (h : DT Tryz.prog (k + 3) tOpt x) (hw : Wt tOpt x) : ∃ o : Opt, dV x = cO o ∧ SzO o := by
 obtain ⟨ps, h1, hF⟩ := kZc uOpt fOpt h hw
 obtain ⟨p1, ps, rfl, ⟨a1, w1⟩, hF⟩ := vZo hF
 obtain ⟨p2, ps, rfl, ⟨a2, w2⟩, hF⟩ := vZo hF
 obtain ⟨p3, ps, rfl, ⟨a3, w3⟩, hF⟩ := vZo hF
 obtain ⟨p4, ps, rfl, ⟨a4, w4⟩, hF⟩ := vZo hF
 obtain ⟨p5, ps, rfl, ⟨a5, w5⟩, hF⟩ := vZo hF
 obtain ⟨p6, ps, rfl, ⟨a6, w6⟩, hF⟩ := vZo hF
 obtain ⟨p7, ps, rfl, ⟨a7, w7⟩, hF⟩ := vZo hF
 obtain ⟨p8, ps, rfl, ⟨a8, w8⟩, hF⟩ := vZo hF
 obtain rfl := f2_nil hF
 obtain ⟨x1, e1⟩ := r_bool uBool a1
 obtain ⟨x2, e2⟩ := r_bool uBool a2
 obtain ⟨x3, e3⟩ := r_u8 uSaid a3
 obtain ⟨x4, e4⟩ := r_u8 uSaid a4
 obtain ⟨x5, e5⟩ := r_u8 uSaid a5
 obtain ⟨x6, e6⟩ := r_u8 uSaid a6
 obtain ⟨x7, e7, z7, _⟩ := jZi (k := k + 1) uStrs bStr (fun x => r_text (k := k) x) a7 w7
 obtain ⟨x8, e8⟩ := r_bool uBool a8
 refine ⟨⟨x1, x2, x3, x4, x5, x6, x7, x8⟩, by rw [h1]; simp [dVc, e1, e2, e3, e4, e5, e6, e7, e8], ?_⟩
 unfold SzO reachBytes at *
 simp only at *
 omega
theorem r_reg (x : DataW H) (h : DT Tryz.prog (k + 4) tReg x) (hw : Wt tReg x) : ∃ g : Rg, dV x = cG g ∧ SzO g.o := by
 obtain ⟨ps, h1, hF⟩ := kZc uReg fReg h hw
 obtain ⟨p1, ps, rfl, ⟨a1, w1⟩, hF⟩ := vZo hF
 obtain ⟨p2, ps, rfl, ⟨a2, w2⟩, hF⟩ := vZo hF
 obtain ⟨p3, ps, rfl, ⟨a3, w3⟩, hF⟩ := vZo hF
 obtain ⟨p4, ps, rfl, ⟨a4, w4⟩, hF⟩ := vZo hF
 obtain ⟨p5, ps, rfl, ⟨a5, w5⟩, hF⟩ := vZo hF
 obtain rfl := f2_nil hF
 obtain ⟨x1, e1, _⟩ := r_int uInt a1
 obtain ⟨x2, e2, _⟩ := r_int uInt a2
 obtain ⟨x3, e3, _⟩ := r_int uInt a3
 obtain ⟨x4, e4, z4⟩ := r_opt (k := k) p4 a4 w4
 obtain ⟨x5, e5, _⟩ := r_int uInt a5
 exact ⟨⟨x1, x2, x3, x4, x5⟩, by rw [h1]; simp [dVc, e1, e2, e3, e4, e5, cG], z4⟩
theorem r_rec (x : DataW H) (h : DT Tryz.prog (k + 3) tRec x) (hw : Wt tRec x) : ∃ r : Rec, dV x = cR r ∧ SzR r := by
 obtain ⟨ps, h1, hF⟩ := kZc uRec fRec h hw
 obtain ⟨p1, ps, rfl, ⟨a1, w1⟩, hF⟩ := vZo hF
 obtain ⟨p2, ps, rfl, ⟨a2, w2⟩, hF⟩ := vZo hF
 obtain ⟨p3, ps, rfl, ⟨a3, w3⟩, hF⟩ := vZo hF
 obtain ⟨p4, ps, rfl, ⟨a4, w4⟩, hF⟩ := vZo hF
 obtain ⟨p5, ps, rfl, ⟨a5, w5⟩, hF⟩ := vZo hF
 obtain ⟨p6, ps, rfl, ⟨a6, w6⟩, hF⟩ := vZo hF
 obtain ⟨p7, ps, rfl, ⟨a7, w7⟩, hF⟩ := vZo hF
 obtain ⟨p8, ps, rfl, ⟨a8, w8⟩, hF⟩ := vZo hF
 obtain ⟨p9, ps, rfl, ⟨a9, w9⟩, hF⟩ := vZo hF
 obtain ⟨p10, ps, rfl, ⟨a10, w10⟩, hF⟩ := vZo hF
 obtain ⟨p11, ps, rfl, ⟨a11, w11⟩, hF⟩ := vZo hF
 obtain rfl := f2_nil hF
 obtain ⟨x1, e1⟩ := r_u8 uKind a1
 obtain ⟨x2, e2, _⟩ := r_int uInt a2
 obtain ⟨x3, e3⟩ := r_txt _ a3
 obtain ⟨x4, e4⟩ := r_txt _ a4
 obtain ⟨x5, e5⟩ := r_bool uBool a5
 obtain ⟨x6, e6⟩ := r_txt _ a6
 obtain ⟨x7, e7, z7, _⟩ := jZi (k := k + 1) uUnits bU16 (fun x => r_u16 (k := k) x) a7 w7
 obtain ⟨x8, e8, z8, _⟩ := jZi (k := k + 1) uInts bInt (fun x => r_i64 (k := k) x) a8 w8
 obtain ⟨x9, e9, z9, _⟩ := jZi (k := k + 1) uInts bInt (fun x => r_i64 (k := k) x) a9 w9
 obtain ⟨x10, e10, _⟩ := r_int uInt a10
 obtain ⟨x11, e11, _⟩ := r_int uInt a11
 refine ⟨⟨x1, x2, x3, x4, x5, x6, x7, x8, x9, x10, x11⟩, by rw [h1]; simp [dVc, e1, e2, e3, e4, e5, e6, e7, e8, e9, e10, e11, cR], ?_⟩
 unfold SzR reachBytes at *
 simp only at *
 omega
theorem r_wch (h : DT Tryz.prog (k + 6) tWch d) (hw : Wt tWch d) : ∃ w : Wch, dV d = cW w ∧ SzW w := by
 obtain ⟨ps, h1, hF⟩ := kZc uWch fWch h hw
 obtain ⟨p1, ps, rfl, ⟨a1, w1⟩, hF⟩ := vZo hF
 obtain ⟨p2, ps, rfl, ⟨a2, w2⟩, hF⟩ := vZo hF
 obtain ⟨p3, ps, rfl, ⟨a3, w3⟩, hF⟩ := vZo hF
 obtain rfl := f2_nil hF
 obtain ⟨x1, e1, z1, y1⟩ := jZi (k := k + 4) uRegs bReg (fun x => r_reg (k := k) x) a1 w1
 obtain ⟨x2, e2, _⟩ := r_int uInt a2
 obtain ⟨x3, e3, z3, y3⟩ := jZi (k := k + 4) (enc := cQ) (p := SzQ) uQs bRecs (fun x hx hwx => by
  obtain ⟨l, e, z, y⟩ := jZi (k := k + 3) uRecs bRec (fun x => r_rec (k := k) x) hx hwx
  refine ⟨l, e, ?_, y⟩
  unfold reachBytes at z
  omega) a3 w3
 refine ⟨⟨x1, x2, x3⟩, by rw [h1]; simp [dVc, e1, e2, e3], ?_, ?_, y1, y3⟩
 ·unfold reachBytes at z1
  show x1.length ≤ _
  omega
 ·unfold reachBytes at z3
  show x3.length ≤ _
  omega
theorem dT_wch {w : Wch} (h : dV d = cW w) : dT Tryz.prog tWch d = .agg (cW w) := by simp only [dT, uWch, h]
theorem wt_at {ts : List TypeId} {ds : List (DataW H)} (h : (DataW.weightsEach Tryz.prog ts ds).all (· ≤ reachBytes) = true) {j : Nat} {t : TypeId} {d : DataW H} (ht : ts[j]? = some t) (hd : ds[j]? = some d) : Wt t d := by
 induction ts generalizing ds j with
 | nil => simp at ht
 | cons u ts ih =>
  cases ds with
  | nil => simp at hd
  | cons e ds =>
   simp only [DataW.weightsEach, List.all_append, Bool.and_eq_true] at h
   cases j with
   | zero => simp at ht hd; subst ht hd; exact h.1
   | succ j => exact ih h.2 (by simpa using ht) (by simpa using hd)
end
end Go.Proofs.Ob
