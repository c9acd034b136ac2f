/- The types of this seat. The package-level variables that the rows list: what a world that meets them holds; a world that meets them. Readings of commands, texts, ops. Readings of scripts. No conditions. -/
import Derived.Test.YtcfgiajpbjbdpaaGreatDoorEwE
import Derived.Test.YtcfgiajpbjbdpaaGreatDoorCards
import Derived.Test.YtcfgiajpbjbdpaaGreatDoorTie
import Derived.WalkKit
import Derived.ProofKit
import Derived.OpenShut
import Derived.ShutString
import Derived.ChangeOld
import Derived.Below
import Derived.SizedLaws
import Derived.Carry
import Derived.Deep.DeepHandedRow
import Derived.Lib.LaidTab
import Derived.Stop.LaidErr
import Derived.Lib.LaidIn
import Derived.Test.YtcfgiajpbjbdpaaGreatDoorScP
import Derived.Test.YtcfgiajpbjbdpaaGreatDoorScF
import Derived.Test.YtcfgiajpbjbdpaaGreatDoorScZb
set_option maxHeartbeats 16000000
set_option maxRecDepth 100000
set_option linter.unusedVariables false
set_option linter.unusedSimpArgs false
set_option linter.unusedSectionVars false
namespace Go.Proofs.Sc
open Go Go.Ev
noncomputable def fieldsOf (t : TypeId) : Array Field :=
 match Tryz.prog.underlying t with
 | some (.struct fs) => fs
 | _ => #[]
abbrev tInt : TypeId := 3
abbrev tBool : TypeId := 4
abbrev tStr : TypeId := 9
abbrev tOp : TypeId := 22
abbrev tUnits : TypeId := 24
abbrev tInts : TypeId := 25
abbrev tStrs : TypeId := 26
abbrev tCmd : TypeId := 28
abbrev tU16 : TypeId := 115
abbrev tCmds : TypeId := 43
abbrev tProgs : TypeId := 44
abbrev tScr : TypeId := 46
theorem uCmds : Tryz.prog.underlying tCmds = some (.slice tCmd) := by kernel_rfl
theorem uProgs : Tryz.prog.underlying tProgs = some (.slice tCmds) := by kernel_rfl
theorem uScr : Tryz.prog.underlying tScr = some (.struct (fieldsOf tScr)) := by kernel_rfl
theorem fScr : (fieldsOf tScr).toList.map (·.type) = [tCmds, tProgs, tInt] := by kernel_rfl
theorem bCmd : Tryz.prog.bytesOf tCmd = 160 := by kernel_rfl
theorem bCmds : Tryz.prog.bytesOf tCmds = 24 := by kernel_rfl
theorem uInt : Tryz.prog.underlying tInt = some (.int .i64) := by kernel_rfl
theorem uBool : Tryz.prog.underlying tBool = some .bool := by kernel_rfl
theorem uStr : Tryz.prog.underlying tStr = some .string := by kernel_rfl
theorem uOp : Tryz.prog.underlying tOp = some (.int .u8) := by kernel_rfl
theorem uUnits : Tryz.prog.underlying tUnits = some (.slice tU16) := by kernel_rfl
theorem uInts : Tryz.prog.underlying tInts = some (.slice tInt) := by kernel_rfl
theorem uStrs : Tryz.prog.underlying tStrs = some (.slice tStr) := by kernel_rfl
theorem uU16 : Tryz.prog.underlying tU16 = some (.int .u16) := by kernel_rfl
theorem uCmd : Tryz.prog.underlying tCmd = some (.struct (fieldsOf tCmd)) := by kernel_rfl
theorem fCmd : (fieldsOf tCmd).toList.map (·.type) = [tOp, tInt, tInt, tInt, tInt, tInt, tStr, tStr, tUnits, tInts, tStrs, tBool] := by kernel_rfl
theorem bInt : Tryz.prog.bytesOf tInt = 8 := by kernel_rfl
theorem bU16 : Tryz.prog.bytesOf tU16 = 2 := by kernel_rfl
theorem bStr : Tryz.prog.bytesOf tStr = 16 := by kernel_rfl
theorem ownKnob_none : ownKnob Tryz.prog.godebug = none := by kernel_rfl
theorem laidOut : laidOutB Tryz.prog = true := by kernel_rfl
open Go Go.Ev Go.Lib
theorem gTab : Tryz.prog.globalNamed "internal/strconv.uint64pow10" = some 1 := by kernel_rfl
theorem gTabType : (Tryz.prog.globals[1]?).map (·.type) = some 157 := by kernel_rfl
theorem uTab : Tryz.prog.underlying 157 = some (.array 20 116) := by kernel_rfl
theorem uU64 : Tryz.prog.underlying 116 = some (.int .u64) := by kernel_rfl
theorem cTab : Tryz.prog.cellsOf 157 = 20 := by kernel_rfl
theorem cU64 : Tryz.prog.cellsOf 116 = 1 := by kernel_rfl
noncomputable def ifaceMs : Array (String × TypeId) :=
 match Tryz.prog.underlying 135 with
 | some (.interface ms) => ms
 | _ => #[]
theorem uErr : Tryz.prog.underlying 135 = some (.interface ifaceMs) := by kernel_rfl
theorem gSyn : Tryz.prog.globalNamed "strconv.ErrSyntax" = some 2 := by kernel_rfl
theorem gRan : Tryz.prog.globalNamed "strconv.ErrRange" = some 3 := by kernel_rfl
theorem starErr : "*" ++ "errors.errorString" = "*errors.errorString" := by decide
theorem rowErr (u : TypeId) (h : Tryz.prog.typeName? 3 u = some "*errors.errorString") : u = 182 :=
 typeName_ptr_named (nm := "errors.errorString") (by rw [starErr]; kernel_rfl) (by kernel_rfl) (by decide) u (by rw [starErr]; exact h)
noncomputable def errF : Field := ((fieldsOf 184)[0]?).getD default
theorem uPErr : Tryz.prog.underlying 182 = some (.pointer 184) := by kernel_rfl
theorem uErrS : Tryz.prog.underlying 184 = some (.struct #[errF]) := by kernel_rfl
theorem cErrS : Tryz.prog.cellsOf 184 = 1 := by kernel_rfl
theorem cStr : Tryz.prog.cellsOf 9 = 1 := by kernel_rfl
theorem var_iface {W : World} {n : String} {text : List UInt8} {g : Nat} {r : List (String × DataW Unit)} (h : laidMet Tryz.prog ((n, .iface "*errors.errorString" (.ptr (.agg [.lit (.string text)]))) :: r) W) (hg : Tryz.prog.globalNamed n = some g) (ht : (Tryz.prog.globals[g]?).map (·.type) = some 135) :
  ∃ v, W.cell? ⟨g, 0, none⟩ = some v ∧ (v = .nilIface ∨ ∃ te pe, v = .iface te pe) := by
 obtain ⟨a, s, h1, _⟩ := laid_sentinel h hg ht uErr rowErr uPErr uErrS (show errF.type = 9 by kernel_rfl) (show errF.offset = 0 by kernel_rfl) uStr cErrS cStr
 exact ⟨_, by simpa using World.var?_cell hg h1 0, .inr ⟨_, _, rfl⟩⟩
theorem laid_of {W : World} (h : laidMetH Tryz.prog YtcfgiajpbjbdpaaGreatDoor.Rows.scriptWordsRow.laid W) : Laid W := by
 have h0 : laidMet Tryz.prog YtcfgiajpbjbdpaaGreatDoor.Rows.scriptWordsRow.laid W := h
 have h2 := h0.tail.tail
 have h3 := h2.tail
 have h4 := h3.tail
 exact ⟨tabIs_of_head gTab gTabType uTab uU64 cU64 cTab h2, var_iface h4 gSyn (by kernel_rfl), var_iface h3 gRan (by kernel_rfl)⟩
noncomputable def laidWorld (os : Os) : World :=
 let N := (World.settled Tryz.prog os).heap.size
 let w0 := World.holding Tryz.prog os ⟨#[.cells #[.string ⟨#[118, 97, 108, 117, 101, 32, 111, 117, 116, 32, 111, 102, 32, 114, 97, 110, 103, 101]⟩] 184, .cells #[.string ⟨#[105, 110, 118, 97, 108, 105, 100, 32, 115, 121, 110, 116, 97, 120]⟩] 184], #[], []⟩
 let put (h : Array Obj) (g : Nat) (cs : Array Value) : Array Obj := h.modify g fun
  | .cells _ t frozen => .cells cs t frozen
  | o => o
 let h0 := put (put w0.heap 3 #[.iface 182 (.pointer (some ⟨N, 0, none⟩))]) 2 #[.iface 182 (.pointer (some ⟨N + 1, 0, none⟩))]
 let ints (k : IntKind) (d : DataW Unit) : Array Value := match d with
  | .agg ds => (ds.map fun | .lit (.int _ n) => Value.int k n | _ => .nilIface).toArray
  | _ => #[]
 let h1 := put (put (put h0 1 (ints .u64 YtcfgiajpbjbdpaaGreatDoor.Rows.laid_internal_strconv_uint64pow10)) 4 (ints .u8 YtcfgiajpbjbdpaaGreatDoor.Rows.laid_math_bits_deBruijn32tab)) 5 (ints .u8 YtcfgiajpbjbdpaaGreatDoor.Rows.laid_math_bits_deBruijn64tab)
 { w0 with heap := h1 }
theorem laid_met (os : Os) (args : Array Value) : laidMet Tryz.prog YtcfgiajpbjbdpaaGreatDoor.Rows.scriptWordsRow.laid ((laidWorld os).forCall (fun _ _ => 0) ⟨#[], args, []⟩).memory :=
 laidMet_of_run' 10 (by kernel_rfl) (by kernel_rfl)
open Go Go.Ev Go.ChangeShapes Go.WideShapes Go.ChangeAt Go.RowKit
section
variable {H : Type} {k : Nat} {t : TypeId} {d : DataW H}
def ub (d : DataW H) : Nat := YtcfgiajpbjbdpaaGreatDoor.Rows.uptoBulk d
def Wt (t : TypeId) (d : DataW H) : Prop := (d.weights Tryz.prog t).all (· ≤ reachBytes) = true
theorem r_int {K : IntKind} (hu : Tryz.prog.underlying t = some (.int K)) (h : DT Tryz.prog (k + 1) t d) : ∃ n, dV d = [.int K n] ∧ K.min ≤ n ∧ n ≤ K.max := by
 simp only [DT, hu] at h
 obtain ⟨n, rfl, hw⟩ := h
 simp only [Lit.wf, Bool.and_eq_true, decide_eq_true_eq] at hw
 exact ⟨n, rfl, hw⟩
theorem r_bool (hu : Tryz.prog.underlying t = some .bool) (h : DT Tryz.prog (k + 1) t d) : ∃ b, dV d = [.bool b] := by
 simp only [DT, hu] at h
 obtain ⟨b, rfl⟩ := h
 exact ⟨b, rfl⟩
theorem r_str (hu : Tryz.prog.underlying t = some .string) (h : DT Tryz.prog (k + 1) t d) : ∃ l : Bs, dV d = [T l] ∧ l.length + 1 ≤ ub d := by
 simp only [DT, hu] at h
 obtain ⟨l, rfl, _⟩ := h
 exact ⟨l, rfl, by simp [ub, YtcfgiajpbjbdpaaGreatDoor.Rows.uptoBulk]⟩
theorem wt_all {e : TypeId} : ∀ {es : List (DataW H)}, (DataW.weightsAll Tryz.prog e es).all (· ≤ reachBytes) = true → ∀ x ∈ es, Wt e x
 | [], _, x, hx => by cases hx
 | y :: es, h, x, hx => by
  simp only [DataW.weightsAll, List.all_append, Bool.and_eq_true] at h
  rcases List.mem_cons.1 hx with rfl | hx
  ·exact h.1
  ·exact wt_all h.2 x hx
theorem r_list {α : Type} {enc : α → List V} {p : α → Prop} {g : α → Nat} : ∀ {es : List (DataW H)}, (∀ x ∈ es, ∃ a, dV x = enc a ∧ p a ∧ g a ≤ ub x) → ∃ l : List α, dVs es = l.map enc ∧ l.length = es.length ∧ (∀ a ∈ l, p a) ∧ (l.map g).sum ≤ YtcfgiajpbjbdpaaGreatDoor.Rows.uptoBulkAll es
 | [], _ => ⟨[], rfl, rfl, (fun _ h => by cases h), Nat.zero_le _⟩
 | x :: es, h => by
  obtain ⟨a, h1, h2, h6⟩ := h x (by simp)
  obtain ⟨l, h3, h4, h5, h7⟩ := r_list (es := es) fun y hy => h y (by simp [hy])
  refine ⟨a :: l, by rw [dVs, h1, h3]; rfl, by simp [h4], fun b hb => ?_, ?_⟩
  ·rcases List.mem_cons.1 hb with rfl | hb
   ·exact h2
   ·exact h5 b hb
  ·simp only [List.map_cons, List.sum_cons, YtcfgiajpbjbdpaaGreatDoor.Rows.uptoBulkAll]
   unfold ub at h6
   omega
theorem r_slice {α : Type} {enc : α → List V} {p : α → Prop} {g : α → Nat} {e : TypeId} {b : Nat} (hu : Tryz.prog.underlying t = some (.slice e)) (hb : Tryz.prog.bytesOf e = b) (hin : ∀ x : DataW H, DT Tryz.prog k e x → Wt e x → ∃ a, dV x = enc a ∧ p a ∧ g a ≤ ub x)
  (h : DT Tryz.prog (k + 1) t d) (hw : Wt t d) : ∃ l : List α, dV d = [.arr (l.map enc)] ∧ l.length * b ≤ reachBytes ∧ (∀ a ∈ l, p a) ∧ (l.map g).sum + 1 ≤ ub d := by
 simp only [DT, hu] at h
 rcases h with rfl | ⟨es, sp, rfl, _, hx⟩
 ·exact ⟨[], rfl, by simp, (fun _ h => by cases h), by simp [ub, YtcfgiajpbjbdpaaGreatDoor.Rows.uptoBulk]⟩
 ·simp only [Wt, DataW.weights, hu, List.all_cons, List.all_append, Bool.and_eq_true, decide_eq_true_eq, hb] at hw
  obtain ⟨l, h1, h2, h3, h4⟩ := r_list (enc := enc) (p := p) (g := g) (es := es) fun x hxm => hin x (hx x hxm) (wt_all hw.2.1 x hxm)
  refine ⟨l, by rw [dV, h1], ?_, h3, ?_⟩
  ·rw [h2]
   exact Nat.le_trans (Nat.mul_le_mul_right _ (Nat.le_add_right _ _)) hw.1
  ·simp only [ub, YtcfgiajpbjbdpaaGreatDoor.Rows.uptoBulk]
   omega
theorem r_fields {k : Nat} : ∀ {fs : List Field} {ps : List (DataW H)}, F2 (fun (x : DataW H) (g : Field) => DT Tryz.prog k g.type x) ps fs → (DataW.weightsEach Tryz.prog (fs.map (·.type)) ps).all (· ≤ reachBytes) = true → F2 (fun (x : DataW H) (t : TypeId) => DT Tryz.prog k t x ∧ Wt t x) ps (fs.map (·.type))
 | [], [], _, _ => trivial
 | f :: fs, p :: ps, h, hw => by
  simp only [List.map_cons, DataW.weightsEach, List.all_append, Bool.and_eq_true] at hw
  exact ⟨⟨h.1, hw.1⟩, r_fields h.2 hw.2⟩
 | [], _ :: _, h, _ => h.elim
 | _ :: _, [], h, _ => h.elim
theorem r_struct {fs : Array Field} {ts : List TypeId} (hu : Tryz.prog.underlying t = some (.struct fs)) (hf : fs.toList.map (·.type) = ts) (h : DT Tryz.prog (k + 1) t d) (hw : Wt t d) :
  ∃ ps, dV d = dVc ps ∧ F2 (fun (x : DataW H) (t : TypeId) => DT Tryz.prog k t x ∧ Wt t x) ps ts ∧ ub d = YtcfgiajpbjbdpaaGreatDoor.Rows.uptoBulkAll ps + 1 := by
 simp only [DT, hu] at h
 obtain ⟨ps, rfl, hF⟩ := h
 simp only [Wt, DataW.weights, hu] at hw
 refine ⟨ps, rfl, ?_, by simp [ub, YtcfgiajpbjbdpaaGreatDoor.Rows.uptoBulk]⟩
 rw [← hf]
 exact r_fields hF hw
theorem vZE {R : DataW H → TypeId → Prop} {ps : List (DataW H)} {t : TypeId} {ts : List TypeId} (h : F2 R ps (t :: ts)) : ∃ p ps', ps = p :: ps' ∧ R p t ∧ F2 R ps' ts := by
 cases ps with
 | nil => exact h.elim
 | cons p ps => exact ⟨p, ps, rfl, h⟩
theorem f2_nil {R : DataW H → TypeId → Prop} {ps : List (DataW H)} (h : F2 R ps []) : ps = [] := by
 cases ps with
 | nil => rfl
 | cons p ps => exact h.elim
theorem r_intB {K : IntKind} (hu : Tryz.prog.underlying t = some (.int K)) (h : DT Tryz.prog (k + 1) t d) : ∃ n, dV d = [.int K n] ∧ (K.min ≤ n ∧ n ≤ K.max) ∧ 1 ≤ ub d := by
 simp only [DT, hu] at h
 obtain ⟨n, rfl, hw⟩ := h
 simp only [Lit.wf, Bool.and_eq_true, decide_eq_true_eq] at hw
 exact ⟨n, rfl, hw, by simp [ub, YtcfgiajpbjbdpaaGreatDoor.Rows.uptoBulk]⟩
theorem len_sum {α : Type} : ∀ l : List α, (l.map fun _ => 1).sum = l.length
 | [] => rfl
 | x :: l => by simp only [List.map_cons, List.sum_cons, len_sum l, List.length_cons]; omega
def bulkC (c : Cmd) : Nat := c.s.length + c.t.length + c.data.length + c.list.length + (c.names.map fun x => x.length + 1).sum
theorem r_op (hu : Tryz.prog.underlying t = some (.int .u8)) (h : DT Tryz.prog (k + 1) t d) : ∃ n : Nat, dV d = [.int .u8 n] ∧ n < 256 ∧ 1 ≤ ub d := by
 obtain ⟨n, h1, ⟨h2, h3⟩, h4⟩ := r_intB hu h
 have h2' : (0 : Int) ≤ n := h2
 have h3' : n ≤ (255 : Int) := h3
 exact ⟨n.toNat, by rw [h1, Int.toNat_of_nonneg h2'], by omega, h4⟩
theorem r_u16 (x : DataW H) (h : DT Tryz.prog (k + 1) tU16 x) (_ : Wt tU16 x) : ∃ u : Nat, dV x = cU u ∧ u < 65536 ∧ 1 ≤ ub x := by
 obtain ⟨n, h1, ⟨h2, h3⟩, h4⟩ := r_intB uU16 h
 have h2' : (0 : Int) ≤ n := h2
 have h3' : n ≤ (65535 : Int) := h3
 exact ⟨n.toNat, by rw [h1]; simp only [cU, Int.toNat_of_nonneg h2'], by omega, h4⟩
theorem r_i64 (x : DataW H) (h : DT Tryz.prog (k + 1) tInt x) (_ : Wt tInt x) : ∃ n : Int, dV x = cI n ∧ ok64 n ∧ 1 ≤ ub x := by
 obtain ⟨n, h1, ⟨h2, h3⟩, h4⟩ := r_intB uInt h
 have h2' : (-9223372036854775808 : Int) ≤ n := h2
 have h3' : n ≤ (9223372036854775807 : Int) := h3
 exact ⟨n, h1, ⟨h2', by omega⟩, h4⟩
theorem r_text (x : DataW H) (h : DT Tryz.prog (k + 1) tStr x) (_ : Wt tStr x) : ∃ l : Bs, dV x = cT l ∧ True ∧ l.length + 1 ≤ ub x := by
 obtain ⟨l, h1, h2⟩ := r_str uStr h
 exact ⟨l, h1, trivial, h2⟩
theorem r_cmd (x : DataW H) (h : DT Tryz.prog (k + 3) tCmd x) (hw : Wt tCmd x) : ∃ c : Cmd, dV x = cC c ∧ (SzP c ∧ okC c) ∧ bulkC c + 1 ≤ ub x := by
 obtain ⟨ps, h1, hF, hb⟩ := r_struct uCmd fCmd h hw
 obtain ⟨p1, ps, rfl, ⟨a1, _⟩, hF⟩ := vZE hF
 obtain ⟨p2, ps, rfl, ⟨a2, w2⟩, hF⟩ := vZE hF
 obtain ⟨p3, ps, rfl, ⟨a3, w3⟩, hF⟩ := vZE hF
 obtain ⟨p4, ps, rfl, ⟨a4, w4⟩, hF⟩ := vZE hF
 obtain ⟨p5, ps, rfl, ⟨a5, w5⟩, hF⟩ := vZE hF
 obtain ⟨p6, ps, rfl, ⟨a6, w6⟩, hF⟩ := vZE hF
 obtain ⟨p7, ps, rfl, ⟨a7, w7⟩, hF⟩ := vZE hF
 obtain ⟨p8, ps, rfl, ⟨a8, w8⟩, hF⟩ := vZE hF
 obtain ⟨p9, ps, rfl, ⟨a9, w9⟩, hF⟩ := vZE hF
 obtain ⟨q1, ps, rfl, ⟨b1, v1⟩, hF⟩ := vZE hF
 obtain ⟨q2, ps, rfl, ⟨b2, v2⟩, hF⟩ := vZE hF
 obtain ⟨q3, ps, rfl, ⟨b3, _⟩, hF⟩ := vZE hF
 obtain rfl := f2_nil hF
 obtain ⟨op, e1, z1, _⟩ := r_op uOp a1
 obtain ⟨n2, e2, z2, _⟩ := r_i64 (k := k + 1) p2 a2 w2
 obtain ⟨n3, e3, z3, _⟩ := r_i64 (k := k + 1) p3 a3 w3
 obtain ⟨n4, e4, z4, _⟩ := r_i64 (k := k + 1) p4 a4 w4
 obtain ⟨n5, e5, z5, _⟩ := r_i64 (k := k + 1) p5 a5 w5
 obtain ⟨n6, e6, z6, _⟩ := r_i64 (k := k + 1) p6 a6 w6
 obtain ⟨s7, e7, u7⟩ := r_str uStr a7
 obtain ⟨s8, e8, u8⟩ := r_str uStr a8
 obtain ⟨l9, e9, y9, z9, u9⟩ := r_slice (g := fun _ => 1) uUnits bU16 (fun x => r_u16 x) a9 w9
 obtain ⟨l1, f1, y1, x1, u1⟩ := r_slice (g := fun _ => 1) uInts bInt (fun x => r_i64 x) b1 v1
 obtain ⟨l2, f2, y2, x2, u2⟩ := r_slice (g := fun (l : Bs) => l.length + 1) uStrs bStr (fun x => r_text x) b2 v2
 obtain ⟨b4, f3⟩ := r_bool uBool b3
 have := reachBytes_lt
 refine ⟨⟨op, n2, n3, n4, n5, n6, s7, s8, l9, l1, l2, b4⟩, ?_, ⟨⟨z1, ?_, ?_, ?_⟩, z2, z3, z4, z5, z6, z9, x1⟩, ?_⟩
 ·rw [h1]
  simp only [dVc, e1, e2, e3, e4, e5, e6, e7, e8, e9, f1, f2, f3]
  rfl
 ·show l9.length * 2 ≤ roomB; unfold roomB; omega
 ·show l1.length * 8 ≤ roomB; unfold roomB; omega
 ·show l2.length * 16 ≤ roomB; unfold roomB; omega
 ·rw [len_sum] at u9 u1
  rw [hb]
  simp only [YtcfgiajpbjbdpaaGreatDoor.Rows.uptoBulkAll, bulkC]
  unfold ub at *
  omega
end
theorem dT_cmd {H : Type} {d : DataW H} {c : Cmd} (h : dV d = cC c) : dT Tryz.prog tCmd d = .agg (cC c) := by simp only [dT, uCmd, h]
theorem dT_str {H : Type} {d : DataW H} {l : Bs} (h : dV d = [T l]) : dT Tryz.prog tStr d = T l := by simp only [dT, uStr, h]; rfl
theorem dT_op {H : Type} {d : DataW H} {n : Nat} (h : dV d = [.int .u8 n]) : dT Tryz.prog tOp d = .int .u8 n := by simp only [dT, uOp, h]; rfl
theorem wt_at {H : Type} {ts : List TypeId} {ds : List (DataW H)} (h : (DataW.weightsEach Tryz.prog ts ds).all (· ≤ reachBytes) = true) {j : Nat} {t : TypeId} {d : DataW H} (ht : ts[j]? = some t) (hd : ds[j]? = some d) : Wt t d :=
 List.all_eq_true.2 fun n hn => List.all_eq_true.1 h n (DataW.weights_mem_each ht hd n hn)
open Go Go.Ev Go.ChangeShapes Go.WideShapes Go.ChangeAt Go.RowKit
abbrev eScr (s : Scr) : V := .agg (cS s)
def cmdsW (l : List Cmd) : Nat := (l.map fun c => bulkC c + 1).sum
def scrW (s : Scr) : Nat := cmdsW s.cmds + (s.progs.map fun p => cmdsW p + 1).sum
theorem cmdsW_len (l : List Cmd) : l.length ≤ cmdsW l := by
 unfold cmdsW
 induction l with
 | nil => simp
 | cons c l ih => simp only [List.map_cons, List.sum_cons, List.length_cons]; omega
theorem cmdsW_mem {l : List Cmd} {c : Cmd} (h : c ∈ l) : bulkC c ≤ cmdsW l := by
 unfold cmdsW
 induction l with
 | nil => cases h
 | cons d l ih =>
  simp only [List.map_cons, List.sum_cons]
  rcases List.mem_cons.1 h with rfl | h
  ·omega
  ·have := ih h; omega
theorem progs_len (ps : List (List Cmd)) : (ps.map List.length).sum + ps.length ≤ (ps.map fun p => cmdsW p + 1).sum := by
 induction ps with
 | nil => simp
 | cons p ps ih => have := cmdsW_len p; simp only [List.map_cons, List.sum_cons, List.length_cons]; omega
theorem progs_mem {ps : List (List Cmd)} {p : List Cmd} (h : p ∈ ps) : cmdsW p ≤ (ps.map fun p => cmdsW p + 1).sum := by
 induction ps with
 | nil => cases h
 | cons q ps ih =>
  simp only [List.map_cons, List.sum_cons]
  rcases List.mem_cons.1 h with rfl | h
  ·omega
  ·have := ih h; omega
theorem scr_sz {s : Scr} (h : allC s fun c => SzP c ∧ okC c) (hf : ok64 s.fuel) (hb : scrW s ≤ 1048576) : SzS s := by
 unfold scrW at hb
 refine ⟨⟨fun c hc => ⟨(h.1 c hc).1.1, (h.1 c hc).2, ?_⟩, fun p hp c hc => ⟨(h.2 p hp c hc).1.1, (h.2 p hp c hc).2, ?_⟩⟩, hf, ?_⟩
 ·have := cmdsW_mem hc; show bulkC c ≤ _; omega
 ·have := cmdsW_mem hc; have := progs_mem hp; show bulkC c ≤ _; omega
 ·have := cmdsW_len s.cmds; have := progs_len s.progs; unfold count; omega
theorem r_scr {H : Type} {k : Nat} (d : DataW H) (h : DT Tryz.prog (k + 6) tScr d) (hw : Wt tScr d) : ∃ s : Scr, dV d = cS s ∧ ((allC s fun c => SzP c ∧ okC c) ∧ ok64 s.fuel) ∧ scrW s + 1 ≤ ub d := by
 obtain ⟨ps, h1, hF, hb⟩ := r_struct uScr fScr h hw
 obtain ⟨p1, ps, rfl, ⟨a1, w1⟩, hF⟩ := vZE hF
 obtain ⟨p2, ps, rfl, ⟨a2, w2⟩, hF⟩ := vZE hF
 obtain ⟨p3, ps, rfl, ⟨a3, w3⟩, hF⟩ := vZE hF
 obtain rfl := f2_nil hF
 obtain ⟨l1, e1, _, z1, u1⟩ := r_slice (g := fun c => bulkC c + 1) uCmds bCmd (fun x => r_cmd (k := k + 1) x) a1 w1
 obtain ⟨l2, e2, _, z2, u2⟩ := r_slice (enc := cP) (p := fun p => ∀ c ∈ p, SzP c ∧ okC c) (g := fun p => cmdsW p + 1) uProgs bCmds (fun x hx hwx => by
  obtain ⟨l, e, _, z, u⟩ := r_slice (g := fun c => bulkC c + 1) uCmds bCmd (fun x => r_cmd (k := k) x) hx hwx
  exact ⟨l, e, z, u⟩) a2 w2
 obtain ⟨f, e3, z3, _⟩ := r_i64 (k := k + 4) p3 a3 w3
 refine ⟨⟨l1, l2, f⟩, ?_, ⟨⟨z1, z2⟩, z3⟩, ?_⟩
 ·rw [h1]
  simp only [dVc, e1, e2, e3]
  rfl
 ·rw [hb]
  simp only [YtcfgiajpbjbdpaaGreatDoor.Rows.uptoBulkAll, scrW]
  unfold ub at *
  simp only [cmdsW] at *
  omega
theorem dT_scr {H : Type} {d : DataW H} {s : Scr} (h : dV d = cS s) : dT Tryz.prog tScr d = eScr s := by simp only [dT, uScr, h]
end Go.Proofs.Sc
