/- The types of this seat. The package-level variables that the rows list: what a world that meets them holds; a world that meets them. Readings of commands, texts, ops. No conditions. -/
import Derived.Test.YtcfgiajpbjbdpaaDoorEwE
import Derived.Test.YtcfgiajpbjbdpaaDoorCards
import Derived.Test.YtcfgiajpbjbdpaaDoorTie
import Derived.WalkKit
import Derived.ProofKit
import Derived.OpenShut
import Derived.ShutString
import Derived.ChangeOld
import Derived.Below
import Derived.SizedLaws
import Derived.Carry
import Derived.Deep.DeepHandedRow
import Derived.Lib.LaidTab
import Derived.Stop.LaidErr
import Derived.Lib.LaidIn
import Derived.Test.YtcfgiajpbjbdpaaDoorSkP
import Derived.Test.YtcfgiajpbjbdpaaDoorSkA
set_option maxHeartbeats 16000000
set_option maxRecDepth 100000
set_option linter.unusedVariables false
set_option linter.unusedSimpArgs false
set_option linter.unusedSectionVars false
namespace Go.Proofs.Sc
open Go Go.Ev
noncomputable def fieldsOf (t : TypeId) : Array Field :=
 match Tryd.prog.underlying t with
 | some (.struct fs) => fs
 | _ => #[]
abbrev tInt : TypeId := 3
abbrev tBool : TypeId := 4
abbrev tStr : TypeId := 9
abbrev tOp : TypeId := 22
theorem uInt : Tryd.prog.underlying tInt = some (.int .i64) := by kernel_rfl
theorem uBool : Tryd.prog.underlying tBool = some .bool := by kernel_rfl
theorem uStr : Tryd.prog.underlying tStr = some .string := by kernel_rfl
theorem uOp : Tryd.prog.underlying tOp = some (.int .u8) := by kernel_rfl
theorem ownKnob_none : ownKnob Tryd.prog.godebug = none := by kernel_rfl
theorem laidOut : laidOutB Tryd.prog = true := by kernel_rfl
open Go Go.Ev Go.Lib
theorem gTab : Tryd.prog.globalNamed "internal/strconv.uint64pow10" = some 3 := by kernel_rfl
theorem gTabType : (Tryd.prog.globals[3]?).map (·.type) = some 131 := by kernel_rfl
theorem uTab : Tryd.prog.underlying 131 = some (.array 20 114) := by kernel_rfl
theorem uU64 : Tryd.prog.underlying 114 = some (.int .u64) := by kernel_rfl
theorem cTab : Tryd.prog.cellsOf 131 = 20 := by kernel_rfl
theorem cU64 : Tryd.prog.cellsOf 114 = 1 := by kernel_rfl
noncomputable def ifaceMs : Array (String × TypeId) :=
 match Tryd.prog.underlying 89 with
 | some (.interface ms) => ms
 | _ => #[]
theorem uErr : Tryd.prog.underlying 89 = some (.interface ifaceMs) := by kernel_rfl
theorem gSyn : Tryd.prog.globalNamed "strconv.ErrSyntax" = some 1 := by kernel_rfl
theorem gRan : Tryd.prog.globalNamed "strconv.ErrRange" = some 2 := by kernel_rfl
theorem starErr : "*" ++ "errors.errorString" = "*errors.errorString" := by decide
theorem rowErr (u : TypeId) (h : Tryd.prog.typeName? 3 u = some "*errors.errorString") : u = 137 :=
 typeName_ptr_named (nm := "errors.errorString") (by rw [starErr]; kernel_rfl) (by kernel_rfl) (by decide) u (by rw [starErr]; exact h)
noncomputable def errF : Field := ((fieldsOf 139)[0]?).getD default
theorem uPErr : Tryd.prog.underlying 137 = some (.pointer 139) := by kernel_rfl
theorem uErrS : Tryd.prog.underlying 139 = some (.struct #[errF]) := by kernel_rfl
theorem cErrS : Tryd.prog.cellsOf 139 = 1 := by kernel_rfl
theorem cStr : Tryd.prog.cellsOf 9 = 1 := by kernel_rfl
theorem var_iface {W : World} {n : String} {text : List UInt8} {g : Nat} {r : List (String × DataW Unit)} (h : laidMet Tryd.prog ((n, .iface "*errors.errorString" (.ptr (.agg [.lit (.string text)]))) :: r) W) (hg : Tryd.prog.globalNamed n = some g) (ht : (Tryd.prog.globals[g]?).map (·.type) = some 89) :
  ∃ v, W.cell? ⟨g, 0, none⟩ = some v ∧ (v = .nilIface ∨ ∃ te pe, v = .iface te pe) := by
 obtain ⟨a, s, h1, _⟩ := laid_sentinel h hg ht uErr rowErr uPErr uErrS (show errF.type = 9 by kernel_rfl) (show errF.offset = 0 by kernel_rfl) uStr cErrS cStr
 exact ⟨_, by simpa using World.var?_cell hg h1 0, .inr ⟨_, _, rfl⟩⟩
theorem laid_of {W : World} (h : laidMetH Tryd.prog YtcfgiajpbjbdpaaDoor.Rows.scriptKnownRow.laid W) : Laid W := by
 have h0 : laidMet Tryd.prog YtcfgiajpbjbdpaaDoor.Rows.scriptKnownRow.laid W := h
 have h2 := h0.tail.tail
 have h3 := h2.tail
 have h4 := h3.tail
 exact ⟨tabIs_of_head gTab gTabType uTab uU64 cU64 cTab h2, var_iface h4 gSyn (by kernel_rfl), var_iface h3 gRan (by kernel_rfl)⟩
noncomputable def laidWorld (os : Os) : World :=
 let N := (World.settled Tryd.prog os).heap.size
 let w0 := World.holding Tryd.prog os ⟨#[.cells #[.string ⟨#[118, 97, 108, 117, 101, 32, 111, 117, 116, 32, 111, 102, 32, 114, 97, 110, 103, 101]⟩] 139, .cells #[.string ⟨#[105, 110, 118, 97, 108, 105, 100, 32, 115, 121, 110, 116, 97, 120]⟩] 139], #[], []⟩
 let put (h : Array Obj) (g : Nat) (cs : Array Value) : Array Obj := h.modify g fun
  | .cells _ t frozen => .cells cs t frozen
  | o => o
 let h0 := put (put w0.heap 2 #[.iface 137 (.pointer (some ⟨N, 0, none⟩))]) 1 #[.iface 137 (.pointer (some ⟨N + 1, 0, none⟩))]
 let ints (k : IntKind) (d : DataW Unit) : Array Value := match d with
  | .agg ds => (ds.map fun | .lit (.int _ n) => Value.int k n | _ => .nilIface).toArray
  | _ => #[]
 let h1 := put (put (put h0 3 (ints .u64 YtcfgiajpbjbdpaaDoor.Rows.laid_internal_strconv_uint64pow10)) 4 (ints .u8 YtcfgiajpbjbdpaaDoor.Rows.laid_math_bits_deBruijn32tab)) 5 (ints .u8 YtcfgiajpbjbdpaaDoor.Rows.laid_math_bits_deBruijn64tab)
 { w0 with heap := h1 }
theorem laid_met (os : Os) (args : Array Value) : laidMet Tryd.prog YtcfgiajpbjbdpaaDoor.Rows.scriptKnownRow.laid ((laidWorld os).forCall (fun _ _ => 0) ⟨#[], args, []⟩).memory :=
 laidMet_of_run' 10 (by kernel_rfl) (by kernel_rfl)
open Go Go.Ev Go.ChangeShapes Go.WideShapes Go.ChangeAt Go.RowKit
section
variable {H : Type} {k : Nat} {t : TypeId} {d : DataW H}
def ub (d : DataW H) : Nat := YtcfgiajpbjbdpaaDoor.Rows.uptoBulk d
def Wt (t : TypeId) (d : DataW H) : Prop := (d.weights Tryd.prog t).all (· ≤ reachBytes) = true
theorem r_int {K : IntKind} (hu : Tryd.prog.underlying t = some (.int K)) (h : DT Tryd.prog (k + 1) t d) : ∃ n, dV d = [.int K n] ∧ K.min ≤ n ∧ n ≤ K.max := by
 simp only [DT, hu] at h
 obtain ⟨n, rfl, hw⟩ := h
 simp only [Lit.wf, Bool.and_eq_true, decide_eq_true_eq] at hw
 exact ⟨n, rfl, hw⟩
theorem r_bool (hu : Tryd.prog.underlying t = some .bool) (h : DT Tryd.prog (k + 1) t d) : ∃ b, dV d = [.bool b] := by
 simp only [DT, hu] at h
 obtain ⟨b, rfl⟩ := h
 exact ⟨b, rfl⟩
theorem r_str (hu : Tryd.prog.underlying t = some .string) (h : DT Tryd.prog (k + 1) t d) : ∃ l : Bs, dV d = [T l] ∧ l.length + 1 ≤ ub d := by
 simp only [DT, hu] at h
 obtain ⟨l, rfl, _⟩ := h
 exact ⟨l, rfl, by simp [ub, YtcfgiajpbjbdpaaDoor.Rows.uptoBulk]⟩
theorem wt_all {e : TypeId} : ∀ {es : List (DataW H)}, (DataW.weightsAll Tryd.prog e es).all (· ≤ reachBytes) = true → ∀ x ∈ es, Wt e x
 | [], _, x, hx => by cases hx
 | y :: es, h, x, hx => by
  simp only [DataW.weightsAll, List.all_append, Bool.and_eq_true] at h
  rcases List.mem_cons.1 hx with rfl | hx
  ·exact h.1
  ·exact wt_all h.2 x hx
theorem r_list {α : Type} {enc : α → List V} {p : α → Prop} {g : α → Nat} : ∀ {es : List (DataW H)}, (∀ x ∈ es, ∃ a, dV x = enc a ∧ p a ∧ g a ≤ ub x) → ∃ l : List α, dVs es = l.map enc ∧ l.length = es.length ∧ (∀ a ∈ l, p a) ∧ (l.map g).sum ≤ YtcfgiajpbjbdpaaDoor.Rows.uptoBulkAll es
 | [], _ => ⟨[], rfl, rfl, (fun _ h => by cases h), Nat.zero_le _⟩
 | x :: es, h => by
  obtain ⟨a, h1, h2, h6⟩ := h x (by simp)
  obtain ⟨l, h3, h4, h5, h7⟩ := r_list (es := es) fun y hy => h y (by simp [hy])
  refine ⟨a :: l, by rw [dVs, h1, h3]; rfl, by simp [h4], fun b hb => ?_, ?_⟩
  ·rcases List.mem_cons.1 hb with rfl | hb
   ·exact h2
   ·exact h5 b hb
  ·simp only [List.map_cons, List.sum_cons, YtcfgiajpbjbdpaaDoor.Rows.uptoBulkAll]
   unfold ub at h6
   omega
theorem r_slice {α : Type} {enc : α → List V} {p : α → Prop} {g : α → Nat} {e : TypeId} {b : Nat} (hu : Tryd.prog.underlying t = some (.slice e)) (hb : Tryd.prog.bytesOf e = b) (hin : ∀ x : DataW H, DT Tryd.prog k e x → Wt e x → ∃ a, dV x = enc a ∧ p a ∧ g a ≤ ub x)
  (h : DT Tryd.prog (k + 1) t d) (hw : Wt t d) : ∃ l : List α, dV d = [.arr (l.map enc)] ∧ l.length * b ≤ reachBytes ∧ (∀ a ∈ l, p a) ∧ (l.map g).sum + 1 ≤ ub d := by
 simp only [DT, hu] at h
 rcases h with rfl | ⟨es, sp, rfl, _, hx⟩
 ·exact ⟨[], rfl, by simp, (fun _ h => by cases h), by simp [ub, YtcfgiajpbjbdpaaDoor.Rows.uptoBulk]⟩
 ·simp only [Wt, DataW.weights, hu, List.all_cons, List.all_append, Bool.and_eq_true, decide_eq_true_eq, hb] at hw
  obtain ⟨l, h1, h2, h3, h4⟩ := r_list (enc := enc) (p := p) (g := g) (es := es) fun x hxm => hin x (hx x hxm) (wt_all hw.2.1 x hxm)
  refine ⟨l, by rw [dV, h1], ?_, h3, ?_⟩
  ·rw [h2]
   exact Nat.le_trans (Nat.mul_le_mul_right _ (Nat.le_add_right _ _)) hw.1
  ·simp only [ub, YtcfgiajpbjbdpaaDoor.Rows.uptoBulk]
   omega
theorem r_fields {k : Nat} : ∀ {fs : List Field} {ps : List (DataW H)}, F2 (fun (x : DataW H) (g : Field) => DT Tryd.prog k g.type x) ps fs → (DataW.weightsEach Tryd.prog (fs.map (·.type)) ps).all (· ≤ reachBytes) = true → F2 (fun (x : DataW H) (t : TypeId) => DT Tryd.prog k t x ∧ Wt t x) ps (fs.map (·.type))
 | [], [], _, _ => trivial
 | f :: fs, p :: ps, h, hw => by
  simp only [List.map_cons, DataW.weightsEach, List.all_append, Bool.and_eq_true] at hw
  exact ⟨⟨h.1, hw.1⟩, r_fields h.2 hw.2⟩
 | [], _ :: _, h, _ => h.elim
 | _ :: _, [], h, _ => h.elim
theorem r_struct {fs : Array Field} {ts : List TypeId} (hu : Tryd.prog.underlying t = some (.struct fs)) (hf : fs.toList.map (·.type) = ts) (h : DT Tryd.prog (k + 1) t d) (hw : Wt t d) :
  ∃ ps, dV d = dVc ps ∧ F2 (fun (x : DataW H) (t : TypeId) => DT Tryd.prog k t x ∧ Wt t x) ps ts ∧ ub d = YtcfgiajpbjbdpaaDoor.Rows.uptoBulkAll ps + 1 := by
 simp only [DT, hu] at h
 obtain ⟨ps, rfl, hF⟩ := h
 simp only [Wt, DataW.weights, hu] at hw
 refine ⟨ps, rfl, ?_, by simp [ub, YtcfgiajpbjbdpaaDoor.Rows.uptoBulk]⟩
 rw [← hf]
 exact r_fields hF hw
theorem f2_cons {R : DataW H → TypeId → Prop} {ps : List (DataW H)} {t : TypeId} {ts : List TypeId} (h : F2 R ps (t :: ts)) : ∃ p ps', ps = p :: ps' ∧ R p t ∧ F2 R ps' ts := by
 cases ps with
 | nil => exact h.elim
 | cons p ps => exact ⟨p, ps, rfl, h⟩
theorem f2_nil {R : DataW H → TypeId → Prop} {ps : List (DataW H)} (h : F2 R ps []) : ps = [] := by
 cases ps with
 | nil => rfl
 | cons p ps => exact h.elim
theorem r_intB {K : IntKind} (hu : Tryd.prog.underlying t = some (.int K)) (h : DT Tryd.prog (k + 1) t d) : ∃ n, dV d = [.int K n] ∧ (K.min ≤ n ∧ n ≤ K.max) ∧ 1 ≤ ub d := by
 simp only [DT, hu] at h
 obtain ⟨n, rfl, hw⟩ := h
 simp only [Lit.wf, Bool.and_eq_true, decide_eq_true_eq] at hw
 exact ⟨n, rfl, hw, by simp [ub, YtcfgiajpbjbdpaaDoor.Rows.uptoBulk]⟩
theorem r_op (hu : Tryd.prog.underlying t = some (.int .u8)) (h : DT Tryd.prog (k + 1) t d) : ∃ n : Nat, dV d = [.int .u8 n] ∧ n < 256 ∧ 1 ≤ ub d := by
 obtain ⟨n, h1, ⟨h2, h3⟩, h4⟩ := r_intB hu h
 have h2' : (0 : Int) ≤ n := h2
 have h3' : n ≤ (255 : Int) := h3
 exact ⟨n.toNat, by rw [h1, Int.toNat_of_nonneg h2'], by omega, h4⟩
end
theorem dT_str {H : Type} {d : DataW H} {l : Bs} (h : dV d = [T l]) : dT Tryd.prog tStr d = T l := by simp only [dT, uStr, h]; rfl
theorem dT_op {H : Type} {d : DataW H} {n : Nat} (h : dV d = [.int .u8 n]) : dT Tryd.prog tOp d = .int .u8 n := by simp only [dT, uOp, h]; rfl
theorem wt_at {H : Type} {ts : List TypeId} {ds : List (DataW H)} (h : (DataW.weightsEach Tryd.prog ts ds).all (· ≤ reachBytes) = true) {j : Nat} {t : TypeId} {d : DataW H} (ht : ts[j]? = some t) (hd : ds[j]? = some d) : Wt t d :=
 List.all_eq_true.2 fun n hn => List.all_eq_true.1 h n (DataW.weights_mem_each ht hd n hn)
end Go.Proofs.Sc
