/- Texts as lists of bytes; the words, the forms. Words found; commands compared. No conditions. -/
import Derived.Test.YtcfgiajpbjbdpaaGreatDoorScS
import Derived.Test.YtcfgiajpbjbdpaaGreatDoorScO
import Derived.Test.YtcfgiajpbjbdpaaGreatDoorScBeg
set_option maxHeartbeats 16000000
set_option maxRecDepth 100000
set_option linter.unusedVariables false
set_option linter.unusedSimpArgs false
set_option linter.unusedSectionVars false
namespace Go.Proofs.Sc
open Go Go.Ev
/-! ### Texts -/
abbrev T (l : Bs) : V := .str ⟨l.toArray⟩
theorem vZm (l : Bs) : (⟨l.toArray⟩ : ByteArray).size = l.length := by simp [ByteArray.size]
theorem T_list (l : Bs) : (⟨l.toArray⟩ : ByteArray).data.toList = l := by simp
theorem T_beq (a b : Bs) : beqS ⟨a.toArray⟩ ⟨b.toArray⟩ = (a == b) := by simp [beqS]
theorem T_get (l : Bs) (n : Nat) : (⟨l.toArray⟩ : ByteArray)[n]? = l[n]? := by
 by_cases h : n < l.length
 ·have h2 : n < (⟨l.toArray⟩ : ByteArray).size := by rw [vZm]; exact h
  rw [getElem?_pos _ n h2, List.getElem?_eq_getElem h]
  rfl
 ·have h2 : ¬ n < (⟨l.toArray⟩ : ByteArray).size := by rw [vZm]; exact h
  rw [getElem?_neg _ n h2, List.getElem?_eq_none (by omega)]
theorem jZT (l : Bs) (a b : Nat) : (⟨l.toArray⟩ : ByteArray).extract a b = ⟨((l.take b).drop a).toArray⟩ := by
 apply ByteArray.ext
 simp [ByteArray.data_extract, List.extract_eq_take_drop, List.drop_take]
theorem T_app (a b : Bs) : (⟨a.toArray⟩ : ByteArray) ++ ⟨b.toArray⟩ = ⟨(a ++ b).toArray⟩ := by
 apply ByteArray.ext
 simp
theorem T_of (s : ByteArray) : ∃ l, V.str s = T l := ⟨s.data.toList, by simp⟩
def cB (b : UInt8) : List V := [.int .u8 b.toNat]
theorem T_bytes (l : Bs) : bytesOf ⟨l.toArray⟩ = l.map cB := by simp [bytesOf, cB]
theorem zYaE (l : Bs) : byteOfCells (l.map cB) = some l := by
 induction l with
 | nil => rfl
 | cons b l ih => simp [cB, byteOfCells] at ih ⊢; exact ih
section
variable {h : Heap}
theorem len_T (l : Bs) : evLen h .s (T l) = some (.int .i64 l.length, h) := by rw [len_str, vZm]
theorem idx_T {l : Bs} {k : IntKind} {n : Int} {b : UInt8} (h0 : 0 ≤ n) (hb : l[n.toNat]? = some b) : evIdxS h (T l) (.int k n) = some (.int .u8 b.toNat, h) := by
 simp [evIdxS, h0, T_get, hb, okV]
theorem beq_T (a b : Bs) : binV .eql (T a) (T b) = some (.bool (a == b)) := by rw [bin_seql, T_beq]
theorem bne_T (a b : Bs) : binV .neq (T a) (T b) = some (.bool (!(a == b))) := by rw [bin_sneq, T_beq]
theorem slice_T {l : Bs} {k k' : IntKind} {a b : Int} (h0 : 0 ≤ a) (h1 : a ≤ b) (h2 : b ≤ l.length) : sliceV .s h 1 (T l) (some (.int k a)) (some (.int k' b)) = some (T ((l.take b.toNat).drop a.toNat)) := by
 have e1 : 0 ≤ b := by omega
 have e2 : a ≤ max b 0 := by omega
 simp [sliceV, sliceS, lohi, bound, vZm, h0, h1, h2, e1, e2, jZT]
theorem zYaw {l : Bs} {k : IntKind} {a : Int} (h0 : 0 ≤ a) (h2 : a ≤ l.length) : sliceV .s h 1 (T l) (some (.int k a)) none = some (T (l.drop a.toNat)) := by
 simp [sliceV, sliceS, lohi, bound, vZm, h0, h2, jZT]
theorem zYaC {l : Bs} {k : IntKind} {b : Int} (h0 : 0 ≤ b) (h2 : b ≤ l.length) : sliceV .s h 1 (T l) none (some (.int k b)) = some (T (l.take b.toNat)) := by
 simp [sliceV, sliceS, lohi, bound, vZm, h0, h2, jZT]
end
/-! ### Functions called -/
theorem xZ5 {f : FuncId} {cf : Cf} (hf : Φ f = some cf) (hp : cf.pure = true) {args : List V} {h : Heap} {r' : V} (ha : args.all flatN2 = true)
  (hb : ∃ r h2, evBodyW (callW Φ) cf (args.map nz2) [] = some (r, h2) ∧ ∃ h3, fz fzDepth h2 r = some (r', h3)) : callW Φ (.fn (.func f) [] []) args h = some (r', h) := by
 obtain ⟨r, h2, hb, h3, hz⟩ := hb
 refine wZ4 hf hp (h1 := h) («as» := args.map nz2) ?_ hb hz
 simp only [List.nil_append, List.append_nil]
 exact wZS fun x hx => wZl (List.all_eq_true.1 ha x hx)
theorem prim1 {f : FuncId} {p : Pr} (hf : Φ f = some (primF1 p)) {a z : V} {h : Heap} (he : evPrim h p [a] = some (z, h)) : callW Φ (.fn (.func f) [] []) [a] h = some (z, h) := by
 refine wZC hf rfl ?_
 obtain ⟨r, h', h1, h2⟩ := xZ4 (call := callW Φ) (cf := primF1 p) (args := [a]) (h := h) (P := fun r h' => r = z ∧ h' = h) (Nat.le_of_ble_eq_true rfl) (fun env he' h0 => by
  have g0 := h0 0 (by simp)
  change eget env 0 = a at g0
  simp [primF1] at he'
  simp [primF1, g0, he, he'])
 obtain ⟨rfl, rfl⟩ := h2
 simpa using h1
theorem prim2 {f : FuncId} {p : Pr} (hf : Φ f = some (primF2 p)) {a b z : V} {h : Heap} (he : evPrim h p [a, b] = some (z, h)) : callW Φ (.fn (.func f) [] []) [a, b] h = some (z, h) := by
 refine wZC hf rfl ?_
 obtain ⟨r, h', h1, h2⟩ := xZ4 (call := callW Φ) (cf := primF2 p) (args := [a, b]) (h := h) (P := fun r h' => r = z ∧ h' = h) (Nat.le_of_ble_eq_true rfl) (fun env he' h0 => by
  have g0 := h0 0 (by simp)
  have g1 := h0 1 (by simp)
  change eget env 0 = a at g0
  change eget env 1 = b at g1
  simp [primF2] at he'
  simp [primF2, g0, g1, he, he'])
 obtain ⟨rfl, rfl⟩ := h2
 simpa using h1
/-! ### Forms -/
def forms : List (List V) := (W.zip F).map fun p => [T p.1, T p.2]
theorem forms0 : evCall Φ 5 qZE [] [] = some (.arr forms, []) := by kernel_rfl
theorem jZb (H : Heap) : callW Φ qZE [] H = some (.arr forms, H) :=
 wZ3 (h0 := []) (h0' := []) qZE.Φ rfl (args := []) («as» := []) rfl rfl (vZ4 forms0)
theorem words0 : evCall Φ 5 qZK [] [] = some (.arr (W.map fun w => [T w]), []) := by kernel_rfl
theorem words_spec (H : Heap) : callW Φ qZK [] H = some (.arr (W.map fun w => [T w]), H) :=
 wZ3 (h0 := []) (h0' := []) qZK.Φ rfl (args := []) («as» := []) rfl rfl (vZ4 words0)
theorem forms_get {op : Nat} (h : op < 45) : forms[op]? = some [T (word op), T (flds op)] :=
 (show ∀ op : Fin 45, forms[op.val]? = some [T (word op.val), T (flds op.val)] from fun op => by
  have h1 : W[op.val]? = some (word op.val) := by
   have := List.getElem?_eq_getElem (l := W) (i := op.val) (by rw [W_len]; exact op.isLt)
   simp [word, this]
  have h2 : F[op.val]? = some (flds op.val) := by
   have := List.getElem?_eq_getElem (l := F) (i := op.val) op.isLt
   simp [flds, this]
  simp [forms, List.getElem?_map, List.getElem?_zip_eq_some, h1, h2]) ⟨op, h⟩
theorem jZ7 : forms.length = 45 := rfl
theorem jZN {op : Nat} (h : ¬ op < 45) : word op = [] ∧ flds op = [] := by
 have h1 : W[op]? = none := List.getElem?_eq_none (by rw [W_len]; omega)
 have h2 : F[op]? = none := List.getElem?_eq_none (by simp [F]; omega)
 simp [word, flds, h1, h2]
theorem kZb {h : Heap} {op : Nat} (ho : op < 45) {k : IntKind} : iaddrV h 2 (.arr forms) (.int k op) = some (.iptr [T (word op), T (flds op)]) := by
 have : (op : Int) < (forms.length : Int) := by rw [jZ7]; omega
 simp [iaddrV, jZ7, ho, forms_get ho]
 omega
theorem wZz (op : Nat) (h : op < 256) (H : Heap) : callW Φ qZq [.int .u8 op] H = some (.agg [T (word op), T (flds op)], H) := by
 have : ∃ hh, evBodyW (callW Φ) qZq.c [.int .u8 op] [] = some (.agg [T (word op), T (flds op)], hh) := by
  refine wZg (Nat.le_of_ble_eq_true rfl) (fun env he h0 => ?_)
  have g0 := h0 0 (by simp)
  change eget env 0 = .int .u8 op at g0
  clear h0
  simp [qZq.c] at he
  by_cases c : op < 45
  ·have c1 : ¬ (45 ≤ (op : Int)) := by omega
   have hf := jZb []
   have hi := kZb (h := [Ob.cells [.str ⟨#[]⟩, .str ⟨#[]⟩]]) c (k := .u8)
   have hf2 := jZb [Ob.cells [.str ⟨#[]⟩, .str ⟨#[]⟩]]
   simp [qZq.c, qZq.r0, qZq.r1, qZq.r2, qZq.r3, g0, he, c1, hf2, hi, evStoreV, evStore, V.cells, V.isCell, setRange, cellsAt, ofCells]
  ·have c1 : (45 ≤ (op : Int)) := by omega
   obtain ⟨w1, w2⟩ := jZN c
   simp [qZq.c, qZq.r0, qZq.r1, qZq.r2, qZq.r3, g0, he, c1, w1, w2, evBuild, placeParts, evStoreV, evStore, V.cells, V.isCell, setRange, cellsAt, ofCells]
 obtain ⟨h', hb⟩ := this
 exact qZ7 (h := H) qZq.Φ rfl (args := [.int .u8 op]) rfl hb rfl
theorem jZF (op : Nat) (h : op < 256) (H : Heap) : callW Φ qZC [.int .u8 op] H = some (T (word op), H) := by
 have : ∃ hh, evBodyW (callW Φ) qZC.c [.int .u8 op] [] = some (T (word op), hh) := by
  refine wZg (Nat.le_of_ble_eq_true rfl) (fun env he h0 => ?_)
  have g0 := h0 0 (by simp)
  change eget env 0 = .int .u8 op at g0
  clear h0
  simp [qZC.c] at he
  have hw := wZz op h []
  simp [qZC.c, qZC.r0, qZC.r1, g0, he, hw, evField]
 obtain ⟨h', hb⟩ := this
 exact qZ7 (h := H) qZC.Φ rfl (args := [.int .u8 op]) rfl hb rfl
open Go Go.Ev
/-! ### What was made last -/
theorem wZ6 (H : Heap) (cs : List V) (off : Nat) : cellsAt (H ++ [.cells cs]) (.ptr H.length off) = some (cs.drop off) := by simp [cellsAt]
theorem vZ1 (H : Heap) (cs ys : List V) (off : Nat) : evStore (H ++ [.cells cs]) (.ptr H.length off) ys = (setRange cs off ys).map fun cs' => (V.non, H ++ [.cells cs']) := by
 simp only [evStore, List.getElem?_concat_length, qZX]
 cases setRange cs off ys <;> simp
theorem jZU (H : Heap) (cs : List V) (hc : cs.all V.isCell = true) : evBox H cs = some (.ptr H.length 0, H ++ [.cells cs]) := by simp [evBox, hc, qZ5]
/-! ### Commands as values -/
def cI (n : Int) : List V := [.int .i64 n]
def cU (u : Nat) : List V := [.int .u16 u]
def cT (l : Bs) : List V := [T l]
abbrev cC (c : Cmd) : List V := [.int .u8 c.op, .int .i64 c.a, .int .i64 c.b, .int .i64 c.c, .int .i64 c.n, .int .i64 c.m, T c.s, T c.t, .arr (c.data.map cU), .arr (c.list.map cI), .arr (c.names.map cT), .bool c.yes]
theorem zYal {h : Heap} {l : List Nat} {k : IntKind} {i u : Nat} (hx : l[i]? = some u) : iaddrV h 1 (.arr (l.map cU)) (.int k i) = some (.iptr (cU u)) := wZm (enc := cU) (fun _ => rfl) hx
theorem zYaB {h : Heap} {l : List Int} {k : IntKind} {i : Nat} {u : Int} (hx : l[i]? = some u) : iaddrV h 1 (.arr (l.map cI)) (.int k i) = some (.iptr (cI u)) := wZm (enc := cI) (fun _ => rfl) hx
theorem zYat {h : Heap} {l : List Bs} {k : IntKind} {i : Nat} {u : Bs} (hx : l[i]? = some u) : iaddrV h 1 (.arr (l.map cT)) (.int k i) = some (.iptr (cT u)) := wZm (enc := cT) (fun _ => rfl) hx
theorem kZr {α : Type} {a b : List α} {i : Nat} {x : α} (h : a.take i = b.take i) (ha : a[i]? = some x) (hb : b[i]? = some x) : a.take (i + 1) = b.take (i + 1) := by
 rw [List.take_add_one, List.take_add_one, h, ha, hb]
theorem ne_at {α : Type} {a b : List α} {i : Nat} {x y : α} (ha : a[i]? = some x) (hb : b[i]? = some y) (h : x ≠ y) : a ≠ b := fun e => by
 rw [e, hb] at ha
 exact h (Option.some.inj ha).symm
/-! ### Words found -/
theorem find_at {w : Bs} {i : Nat} (h : known i = true) (hw : word i = w) : find w = i := by rw [← hw]; exact jZ4 h
theorem find_not {w : Bs} (h : ∀ j, 1 ≤ j → j < 45 → word j ≠ w) : find w = 0 := by
 by_cases hf : find w = 0
 ·exact hf
 ·obtain ⟨h1, h2⟩ := zYas hf
  simp [known] at h1
  exact absurd h2 (h _ h1.1 h1.2)
theorem jZE (w : Bs) (H : Heap) : callW Φ zZu [T w] H = some (.tup [.int .u8 (find w), .bool (decide (find w ≠ 0))], H) := by
 have : ∃ hh, evBodyW (callW Φ) zZu.c [T w] [] = some (.tup [.int .u8 (find w), .bool (decide (find w ≠ 0))], hh) := by
  refine wZg (Nat.le_of_ble_eq_true rfl) (fun env he h0 => ?_)
  have g0 := h0 0 (by simp)
  change eget env 0 = T w at g0
  clear h0
  simp [zZu.c] at he
  have hf := jZb []
  simp [zZu.c, zZu.r0, zZu.r1, zZu.r8, g0, he, hf, jZ7]
  refine kLoop (fun m s => ∃ i, m = 45 - i ∧ i ≤ 45 ∧ eget s.env 0 = T w ∧ eget s.env 6 = .arr forms ∧ eget s.env 7 = .int .i64 45 ∧ eget s.env 8 = .int .i64 i ∧ s.env.length = 24 ∧ s.marks = [] ∧ ∀ j, 1 ≤ j → j < i → word j ≠ w) 45
   ⟨0, rfl, by omega, by simpa using g0, by simp [he], by simp [he], by simp [he], by simpa using he, rfl, fun j h1 h2 => by omega⟩ ?_
  rintro m ⟨env, mk, Hh⟩ ⟨i, rfl, hi, k0, k6, k7, k8, hl, hm, hw⟩
  simp only at k0 k6 k7 k8 hl hm
  obtain rfl := hm
  by_cases c : i < 45
  ·have c1 : (i : Int) < 45 := by omega
   have hia := kZb (h := Hh) c (k := .i64)
   have wr := wrap64 (n := (i : Int) + 1) (by omega) (by omega)
   have w8 := wrap8 (n := (i : Int)) (by omega) (by omega)
   by_cases i0 : i = 0
   ·subst i0
    simp [zZu.b7, zZu.r2, zZu.r3, zZu.r4, zZu.r5, zZu.r6, k0, k6, k7, k8, hl, hia, wZ6, vZ1, evStoreV, V.cells, V.isCell, setRange, evPick]
    exact ⟨44, by omega, 1, by omega, by omega, rfl, fun j h1 h2 => by omega⟩
   ·have ip : 0 < i := by omega
    cases hq : word i == w
    ·have hne : word i ≠ w := by simpa using hq
     simp [zZu.b7, zZu.r2, zZu.r3, zZu.r4, zZu.r5, zZu.r6, k0, k6, k7, k8, hl, c1, hia, wZ6, vZ1, evStoreV, V.cells, V.isCell, setRange, evPick, ip, T_beq, hq, wr]
     exact ⟨44 - i, by omega, i + 1, by omega, by omega, by simp, fun j h1 h2 => by
      by_cases e : j = i
      ·subst e; exact hne
      ·exact hw j h1 (by omega)⟩
    ·have heq : word i = w := by simpa using hq
     have hfi := find_at (by simp [known]; omega) heq
     simp [zZu.b7, zZu.r2, zZu.r3, zZu.r4, zZu.r5, zZu.r6, k0, k6, k7, k8, hl, c1, hia, wZ6, vZ1, evStoreV, V.cells, V.isCell, setRange, evPick, ip, T_beq, hq, w8, evConv, hfi, i0]
  ·have c1 : ¬ (i : Int) < 45 := by omega
   have hi45 : i = 45 := by omega
   have hfn := find_not (w := w) fun j h1 h2 => hw j h1 (by omega)
   simp [zZu.c, zZu.r0, zZu.r1, zZu.r8, zZu.b7, zZu.r2, zZu.r3, zZu.r4, zZu.r5, zZu.r6, k0, k6, k7, k8, hl, c1, hfn]
 obtain ⟨h', hb⟩ := this
 exact qZ7 (h := H) zZu.Φ rfl (args := [T w]) rfl hb rfl
theorem wZc (op : Nat) (h : op < 256) (H : Heap) : callW Φ qZB [.int .u8 op] H = some (.bool (known op), H) := by
 have : ∃ hh, evBodyW (callW Φ) qZB.c [.int .u8 op] [] = some (.bool (known op), hh) := by
  refine wZg (Nat.le_of_ble_eq_true rfl) (fun env he h0 => ?_)
  have g0 := h0 0 (by simp)
  change eget env 0 = .int .u8 op at g0
  clear h0
  simp [qZB.c] at he
  by_cases c : 0 < op <;> by_cases d : op < 45
  all_goals
   have c1 : (0 < (op : Int)) = (0 < op) := by simp
   have d1 : ((op : Int) < 45) = (op < 45) := by simp; omega
   simp [qZB.c, qZB.r0, qZB.r1, g0, he, c, d, d1, evPick, known]
   try omega
 obtain ⟨h', hb⟩ := this
 exact qZ7 (h := H) qZB.Φ rfl (args := [.int .u8 op]) rfl hb rfl
end Go.Proofs.Sc
