/- Options, records and watches as values, compared. No conditions. -/
import Derived.Test.YtphigbmaimineabGreatObA
set_option maxHeartbeats 16000000
set_option maxRecDepth 100000
set_option linter.unusedVariables false
set_option linter.unusedSimpArgs false
set_option linter.unusedSectionVars false
namespace Go.Proofs.Ob
open Go Go.Ev
structure Opt where
 kids : Bool := false
 sub : Bool := false
 at_ : Nat := 0
 da : Nat := 0
 oa : Nat := 0
 od : Nat := 0
 filt : List Bs := []
 fs : Bool := false
 deriving DecidableEq
structure Rg where
 id : Int := 0
 obs : Int := 0
 node : Int := 0
 o : Opt := {}
 src : Int := 0
 deriving DecidableEq
structure Rec where
 kind : Nat := 0
 target : Int := 0
 loc : Bs := []
 space : Bs := []
 has : Bool := false
 old : Bs := []
 data : List Nat := []
 added : List Int := []
 removed : List Int := []
 prev : Int := 0
 nxt : Int := 0
 deriving DecidableEq
structure Wch where
 regs : List Rg := []
 next : Int := 0
 qs : List (List Rec) := []
 deriving DecidableEq
abbrev cOv (o : Opt) (f : V) : List V := [.bool o.kids, .bool o.sub, .int .u8 o.at_, .int .u8 o.da, .int .u8 o.oa, .int .u8 o.od, f, .bool o.fs]
abbrev cO (o : Opt) : List V := cOv o (.arr (o.filt.map cT))
abbrev cGv (g : Rg) (f : V) : List V := [.int .i64 g.id, .int .i64 g.obs, .int .i64 g.node, .bool g.o.kids, .bool g.o.sub, .int .u8 g.o.at_, .int .u8 g.o.da, .int .u8 g.o.oa, .int .u8 g.o.od, f, .bool g.o.fs, .int .i64 g.src]
def cG (g : Rg) : List V := cGv g (.arr (g.o.filt.map cT))
def cR (r : Rec) : List V := [.int .u8 r.kind, .int .i64 r.target, T r.loc, T r.space, .bool r.has, T r.old, .arr (r.data.map cU), .arr (r.added.map cI), .arr (r.removed.map cI), .int .i64 r.prev, .int .i64 r.nxt]
def cQ (q : List Rec) : List V := [.arr (q.map cR)]
abbrev cW (w : Wch) : List V := [.arr (w.regs.map cG), .int .i64 w.next, .arr (w.qs.map cQ)]
def SzO (o : Opt) : Prop := o.filt.length ≤ 2 ^ 43
def SzR (r : Rec) : Prop := r.data.length ≤ 2 ^ 46 ∧ r.added.length ≤ 2 ^ 44 ∧ r.removed.length ≤ 2 ^ 44
def SzQ (q : List Rec) : Prop := q.length ≤ 2 ^ 40 ∧ ∀ r ∈ q, SzR r
def SzW (w : Wch) : Prop := w.regs.length ≤ 2 ^ 43 ∧ w.qs.length ≤ 2 ^ 43 ∧ (∀ g ∈ w.regs, SzO g.o) ∧ ∀ q ∈ w.qs, SzQ q
theorem jZv {h : Heap} {l : List Rg} {k : IntKind} {i : Nat} {c : Rg} (hx : l[i]? = some c) : iaddrV h 12 (.arr (l.map cG)) (.int k i) = some (.iptr (cG c)) := vZ9 (enc := cG) (fun _ => rfl) hx
theorem iaddr_cR {h : Heap} {l : List Rec} {k : IntKind} {i : Nat} {c : Rec} (hx : l[i]? = some c) : iaddrV h 11 (.arr (l.map cR)) (.int k i) = some (.iptr (cR c)) := vZ9 (enc := cR) (fun _ => rfl) hx
theorem wZ4 {h : Heap} {l : List (List Rec)} {k : IntKind} {i : Nat} {c : List Rec} (hx : l[i]? = some c) : iaddrV h 1 (.arr (l.map cQ)) (.int k i) = some (.iptr (cQ c)) := vZ9 (enc := cQ) (fun _ => rfl) hx
theorem okG (g : Rg) (H : Heap) : okCells H (some 12) (some (cG g)) = some (.agg (cG g), H) := rfl
theorem okR (g : Rec) (H : Heap) : okCells H (some 11) (some (cR g)) = some (.agg (cR g), H) := rfl
theorem okQ (q : List Rec) (H : Heap) : okCells H none (some (cQ q)) = some (.arr (q.map cR), H) := rfl
theorem vZX {H : Heap} {zs cs : List V} {n : Nat} (hn : cs.length = n) (hz : zs.length = n) (hc : cs.all V.isCell = true) : evStoreV (H ++ [.cells zs]) n (.ptr H.length 0) (.agg cs) = some (V.non, H ++ [.cells cs]) := by
 have hsr : setRange zs 0 cs = some cs := by
  unfold setRange
  rw [if_pos (by omega), Nat.zero_add, List.drop_eq_nil_of_le (by omega)]
  simp
 simp only [evStoreV, V.cells, hn, hc, and_self, if_true, store_last, hsr, Option.map_some]
theorem cells_two (H : Heap) (a b : List V) (off : Nat) : cellsAt (H ++ [.cells a] ++ [.cells b]) (.ptr H.length off) = some (a.drop off) ∧ cellsAt (H ++ [.cells a] ++ [.cells b]) (.ptr (H ++ [Ob.cells a]).length off) = some (b.drop off) := by
 refine ⟨?_, wZi _ _ _⟩
 rw [List.append_assoc]
 simp [cellsAt]
theorem wZL (a b : Opt) (za : SzO a) (H : Heap) : callW Φ zZu [.agg (cO a), .agg (cO b)] H = some (.bool (decide (a = b)), H) := by
 have : ∃ hh, evBodyW (callW Φ) zZu.c [.agg (cO a), .agg (cO b)] [] = some (.bool (decide (a = b)), hh) := by
  refine jZa (Nat.le_of_ble_eq_true rfl) (fun env he h0 => ?_)
  have g0 := h0 0 (by simp)
  change eget env 0 = .agg (cO a) at g0
  have g1 := h0 1 (by simp)
  change eget env 1 = .agg (cO b) at g1
  clear h0
  simp [zZu.c] at he
  have c0 : ∀ off, cellsAt [.cells (cO a), .cells (cO b)] (.ptr 0 off) = some ((cO a).drop off) := fun off => rfl
  have c1 : ∀ off, cellsAt [.cells (cO a), .cells (cO b)] (.ptr 1 off) = some ((cO b).drop off) := fun off => rfl
  have b0 : evBox [] (cO a) = some (.ptr 0 0, [.cells (cO a)]) := wZc [] _ (by simp [V.isCell])
  have b1 : evBox [.cells (cO a)] (cO b) = some (.ptr 1 0, [.cells (cO a), .cells (cO b)]) := wZc [.cells (cO a)] _ (by simp [V.isCell])
  have hcc : ∀ c, (V.agg (cO c)).cells = cO c := fun c => rfl
  have U := jZ2 a.filt b.filt (by unfold SzO at za; omega) [.cells (cO a), .cells (cO b)]
  by_cases q_kids : (a.kids == b.kids) = false
  ·have hne : a ≠ b := fun e => by subst e; simp at q_kids
   simp [zZu.c, zZu.r0, zZu.r1, g0, g1, he, hcc, b0, b1, c0, c1, evPick, vZ8, q_kids, hne]
  have q_kidsf : (a.kids == b.kids) = true := by simpa using q_kids
  by_cases q_sub : (a.sub == b.sub) = false
  ·have hne : a ≠ b := fun e => by subst e; simp at q_sub
   simp [zZu.c, zZu.r0, zZu.r1, g0, g1, he, hcc, b0, b1, c0, c1, evPick, vZ8, q_kidsf, q_sub, hne]
  have q_subf : (a.sub == b.sub) = true := by simpa using q_sub
  by_cases q_at_ : ((a.at_ : Int) == b.at_) = false
  ·have hne : a ≠ b := fun e => by subst e; simp at q_at_
   simp [zZu.c, zZu.r0, zZu.r1, g0, g1, he, hcc, b0, b1, c0, c1, evPick, vZ8, q_kidsf, q_subf, q_at_, hne]
  have q_at_f : ((a.at_ : Int) == b.at_) = true := by simpa using q_at_
  by_cases q_da : ((a.da : Int) == b.da) = false
  ·have hne : a ≠ b := fun e => by subst e; simp at q_da
   simp [zZu.c, zZu.r0, zZu.r1, g0, g1, he, hcc, b0, b1, c0, c1, evPick, vZ8, q_kidsf, q_subf, q_at_f, q_da, hne]
  have q_daf : ((a.da : Int) == b.da) = true := by simpa using q_da
  by_cases q_oa : ((a.oa : Int) == b.oa) = false
  ·have hne : a ≠ b := fun e => by subst e; simp at q_oa
   simp [zZu.c, zZu.r0, zZu.r1, g0, g1, he, hcc, b0, b1, c0, c1, evPick, vZ8, q_kidsf, q_subf, q_at_f, q_daf, q_oa, hne]
  have q_oaf : ((a.oa : Int) == b.oa) = true := by simpa using q_oa
  by_cases q_od : ((a.od : Int) == b.od) = false
  ·have hne : a ≠ b := fun e => by subst e; simp at q_od
   simp [zZu.c, zZu.r0, zZu.r1, g0, g1, he, hcc, b0, b1, c0, c1, evPick, vZ8, q_kidsf, q_subf, q_at_f, q_daf, q_oaf, q_od, hne]
  have q_odf : ((a.od : Int) == b.od) = true := by simpa using q_od
  by_cases q_filt : decide (a.filt = b.filt) = false
  ·have hne : a ≠ b := fun e => by subst e; simp at q_filt
   rw [q_filt] at U
   simp [zZu.c, zZu.r0, zZu.r1, g0, g1, he, hcc, b0, b1, c0, c1, evPick, vZ8, q_kidsf, q_subf, q_at_f, q_daf, q_oaf, q_odf, U, hne]
  have q_filtf : decide (a.filt = b.filt) = true := by simpa using q_filt
  rw [q_filtf] at U
  by_cases q_fs : (a.fs == b.fs) = false
  ·have hne : a ≠ b := fun e => by subst e; simp at q_fs
   simp [zZu.c, zZu.r0, zZu.r1, g0, g1, he, hcc, b0, b1, c0, c1, evPick, vZ8, U, q_kidsf, q_subf, q_at_f, q_daf, q_oaf, q_odf, q_fs, hne]
  have q_fsf : (a.fs == b.fs) = true := by simpa using q_fs
  have heq : a = b := by
   cases a; cases b
   simp at *
   refine ⟨?_, ?_, ?_, ?_, ?_, ?_, ?_, ?_⟩ <;> first | assumption | omega
  subst heq
  simp [zZu.c, zZu.r0, zZu.r1, g0, g1, he, hcc, b0, b1, c0, c1, evPick, vZ8, q_kidsf, q_subf, q_at_f, q_daf, q_oaf, q_odf, q_fsf, U]
 obtain ⟨h', hb⟩ := this
 exact vZG (h := H) zZu.Φ rfl (args := [.agg (cO a), .agg (cO b)]) rfl hb rfl
end Go.Proofs.Ob
