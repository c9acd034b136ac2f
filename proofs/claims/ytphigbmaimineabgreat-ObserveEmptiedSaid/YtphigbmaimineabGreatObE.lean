/- Records and watches compared. No conditions. -/
import Derived.Test.YtphigbmaimineabGreatObD
set_option maxHeartbeats 16000000
set_option maxRecDepth 100000
set_option linter.unusedVariables false
set_option linter.unusedSimpArgs false
set_option linter.unusedSectionVars false
namespace Go.Proofs.Ob
open Go Go.Ev
theorem wZI {h : Heap} (x y : Bool) : evEqc h true (.leaf .b) (.bool x) (.bool y) = some (.bool (!(x == y)), h) := by cases x <;> cases y <;> rfl
abbrev zR : List V := [.int .u8 0, .int .i64 0, .str ⟨#[]⟩, .str ⟨#[]⟩, .bool false, .str ⟨#[]⟩, .nils, .nils, .nils, .int .i64 0, .int .i64 0]
abbrev zG : List V := [.int .i64 0, .int .i64 0, .int .i64 0, .bool false, .bool false, .int .u8 0, .int .u8 0, .int .u8 0, .int .u8 0, .nils, .bool false, .int .i64 0]
theorem vZY (a b : List Rec) (za : SzQ a) (H : Heap) : callW Φ zZg [.arr (a.map cR), .arr (b.map cR)] H = some (.bool (decide (a = b)), H) := by
 have : ∃ hh, evBodyW (callW Φ) zZg.c [.arr (a.map cR), .arr (b.map cR)] [] = some (.bool (decide (a = b)), hh) := by
  refine jZa (Nat.le_of_ble_eq_true rfl) (fun env he h0 => ?_)
  have g0 := h0 0 (by simp)
  change eget env 0 = .arr (a.map cR) at g0
  have g1 := h0 1 (by simp)
  change eget env 1 = .arr (b.map cR) at g1
  clear h0
  simp [zZg.c] at he
  have zl := za.1
  cases hlen : ((a.length : Int) != b.length)
  ·have hl2 : a.length = b.length := by simp at hlen; omega
   have hll : (a.length : Int) = b.length := by omega
   simp [zZg.c, zZg.r0, zZg.r1, zZg.r2, zZg.r3, zZg.r11, g0, g1, he, hlen, hll]
   refine kLoop (fun m s => ∃ i : Nat, m = a.length - i ∧ i ≤ a.length ∧ eget s.env 0 = .arr (a.map cR) ∧ eget s.env 1 = .arr (b.map cR) ∧ eget s.env 5 = .int .i64 i ∧ s.env.length = 105 ∧ s.marks = [] ∧ a.take i = b.take i) a.length
    ⟨0, rfl, by omega, by simpa using g0, by simpa using g1, by simp [he], by simpa using he, rfl, rfl⟩ ?_
   rintro m ⟨env, mk, Hh⟩ ⟨i, rfl, hi, k0, k1, k5, hl, hm, hw⟩
   simp only at k0 k1 k5 hl hm
   obtain rfl := hm
   by_cases c : i < a.length
   ·have c1 : (i : Int) < a.length := by omega
    obtain ⟨x, hx⟩ : ∃ x, a[i]? = some x := ⟨_, List.getElem?_eq_getElem c⟩
    obtain ⟨y, hy⟩ : ∃ y, b[i]? = some y := ⟨_, List.getElem?_eq_getElem (by omega)⟩
    have ia := fun H => iaddr_cR (h := H) (k := .i64) hx
    have ib := fun H => iaddr_cR (h := H) (k := .i64) hy
    have wr := wrap64 (n := (i : Int) + 1) (by omega) (by omega)
    obtain ⟨zx1, zx2, zx3⟩ := za.2 x (List.mem_of_getElem? hx)
    have sx : evStoreV (Hh ++ [.cells zR]) 11 (.ptr Hh.length 0) (.agg (cR x)) = some (V.non, Hh ++ [.cells (cR x)]) := vZX rfl rfl rfl
    simp [zZg.b10, zZg.r4, zZg.r5, k0, k1, k5, hl, c, ia, okR, sx]
    obtain ⟨H1, hH1⟩ : ∃ H1, H1 = Hh ++ [.cells (cR x)] := ⟨_, rfl⟩
    have e1 : Hh.length + 1 = H1.length := by rw [hH1]; simp
    have sy : evStoreV (H1 ++ [.cells zR]) 11 (.ptr H1.length 0) (.agg (cR y)) = some (V.non, H1 ++ [.cells (cR y)]) := vZX rfl rfl rfl
    have c0 : ∀ off, cellsAt (H1 ++ [.cells (cR y)]) (.ptr Hh.length off) = some ((cR x).drop off) := fun off => by rw [hH1]; exact (cells_two Hh _ _ off).1
    have cy : ∀ off, cellsAt (H1 ++ [.cells (cR y)]) (.ptr H1.length off) = some ((cR y).drop off) := fun off => wZi _ _ _
    rw [← hH1]
    simp [zZg.r6, k0, k1, k5, hl, ib, okR, sy]
    obtain ⟨H2, hH2⟩ : ∃ H2, H2 = H1 ++ [.cells (cR y)] := ⟨_, rfl⟩
    rw [← hH2]
    rw [← hH2] at c0 cy
    have U := jZ1 x.data y.data (by omega) H2
    have I1 := wZY x.added y.added (by omega) H2
    have I2 := wZY x.removed y.removed (by omega) H2
    have dx : ∀ off, (cR x).drop off = ([.int .u8 x.kind, .int .i64 x.target, T x.loc, T x.space, .bool x.has, T x.old, .arr (x.data.map cU), .arr (x.added.map cI), .arr (x.removed.map cI), .int .i64 x.prev, .int .i64 x.nxt] : List V).drop off := fun _ => rfl
    have dy : ∀ off, (cR y).drop off = ([.int .u8 y.kind, .int .i64 y.target, T y.loc, T y.space, .bool y.has, T y.old, .arr (y.data.map cU), .arr (y.added.map cI), .arr (y.removed.map cI), .int .i64 y.prev, .int .i64 y.nxt] : List V).drop off := fun _ => rfl
    simp only [dx] at c0
    simp only [dy] at cy
    by_cases q_kind : ((x.kind : Int) != y.kind) = true
    ·have hxy : x ≠ y := fun e => by subst e; simp at q_kind
     have hne := ne_at hx hy hxy
     simp [zZg.r7, zZg.r8, zZg.r9, k0, k1, k5, hl, c0, cy, evPick, T_beq, wZI, q_kind, hne]
    have q_kindf : ((x.kind : Int) != y.kind) = false := by simpa using q_kind
    by_cases q_target : (x.target != y.target) = true
    ·have hxy : x ≠ y := fun e => by subst e; simp at q_target
     have hne := ne_at hx hy hxy
     simp [zZg.r7, zZg.r8, zZg.r9, k0, k1, k5, hl, c0, cy, evPick, T_beq, wZI, q_kindf, q_target, hne]
    have q_targetf : (x.target != y.target) = false := by simpa using q_target
    by_cases q_loc : (x.loc == y.loc) = false
    ·have hxy : x ≠ y := fun e => by subst e; simp at q_loc
     have hne := ne_at hx hy hxy
     simp [zZg.r7, zZg.r8, zZg.r9, k0, k1, k5, hl, c0, cy, evPick, T_beq, wZI, q_kindf, q_targetf, q_loc, hne]
    have q_locf : (x.loc == y.loc) = true := by simpa using q_loc
    by_cases q_space : (x.space == y.space) = false
    ·have hxy : x ≠ y := fun e => by subst e; simp at q_space
     have hne := ne_at hx hy hxy
     simp [zZg.r7, zZg.r8, zZg.r9, k0, k1, k5, hl, c0, cy, evPick, T_beq, wZI, q_kindf, q_targetf, q_locf, q_space, hne]
    have q_spacef : (x.space == y.space) = true := by simpa using q_space
    by_cases q_has : (x.has == y.has) = false
    ·have hxy : x ≠ y := fun e => by subst e; simp at q_has
     have hne := ne_at hx hy hxy
     simp [zZg.r7, zZg.r8, zZg.r9, k0, k1, k5, hl, c0, cy, evPick, T_beq, wZI, q_kindf, q_targetf, q_locf, q_spacef, q_has, hne]
    have q_hasf : (x.has == y.has) = true := by simpa using q_has
    by_cases q_old : (x.old == y.old) = false
    ·have hxy : x ≠ y := fun e => by subst e; simp at q_old
     have hne := ne_at hx hy hxy
     simp [zZg.r7, zZg.r8, zZg.r9, k0, k1, k5, hl, c0, cy, evPick, T_beq, wZI, q_kindf, q_targetf, q_locf, q_spacef, q_hasf, q_old, hne]
    have q_oldf : (x.old == y.old) = true := by simpa using q_old
    by_cases q_data : decide (x.data = y.data) = false
    ·have hxy : x ≠ y := fun e => by subst e; simp at q_data
     rw [q_data] at U
     have hne := ne_at hx hy hxy
     simp [zZg.r7, zZg.r8, zZg.r9, k0, k1, k5, hl, c0, cy, evPick, T_beq, wZI, q_kindf, q_targetf, q_locf, q_spacef, q_hasf, q_oldf, U, hne]
    have q_dataf : decide (x.data = y.data) = true := by simpa using q_data
    rw [q_dataf] at U
    by_cases q_added : decide (x.added = y.added) = false
    ·have hxy : x ≠ y := fun e => by subst e; simp at q_added
     rw [q_added] at I1
     have hne := ne_at hx hy hxy
     simp [zZg.r7, zZg.r8, zZg.r9, k0, k1, k5, hl, c0, cy, evPick, T_beq, wZI, q_kindf, q_targetf, q_locf, q_spacef, q_hasf, q_oldf, U, I1, hne]
    have q_addedf : decide (x.added = y.added) = true := by simpa using q_added
    rw [q_addedf] at I1
    by_cases q_removed : decide (x.removed = y.removed) = false
    ·have hxy : x ≠ y := fun e => by subst e; simp at q_removed
     rw [q_removed] at I2
     have hne := ne_at hx hy hxy
     simp [zZg.r7, zZg.r8, zZg.r9, k0, k1, k5, hl, c0, cy, evPick, T_beq, wZI, q_kindf, q_targetf, q_locf, q_spacef, q_hasf, q_oldf, U, I1, I2, hne]
    have q_removedf : decide (x.removed = y.removed) = true := by simpa using q_removed
    rw [q_removedf] at I2
    by_cases q_prev : (x.prev != y.prev) = true
    ·have hxy : x ≠ y := fun e => by subst e; simp at q_prev
     have hne := ne_at hx hy hxy
     simp [zZg.r7, zZg.r8, zZg.r9, k0, k1, k5, hl, c0, cy, evPick, T_beq, wZI, q_kindf, q_targetf, q_locf, q_spacef, q_hasf, q_oldf, U, I1, I2, q_prev, hne]
    have q_prevf : (x.prev != y.prev) = false := by simpa using q_prev
    by_cases q_nxt : (x.nxt != y.nxt) = true
    ·have hxy : x ≠ y := fun e => by subst e; simp at q_nxt
     have hne := ne_at hx hy hxy
     simp [zZg.r7, zZg.r8, zZg.r9, k0, k1, k5, hl, c0, cy, evPick, T_beq, wZI, q_kindf, q_targetf, q_locf, q_spacef, q_hasf, q_oldf, U, I1, I2, q_prevf, q_nxt, hne]
    have q_nxtf : (x.nxt != y.nxt) = false := by simpa using q_nxt
    have hxy : x = y := by
     cases x; cases y
     simp at *
     refine ⟨?_, ?_, ?_, ?_, ?_, ?_, ?_, ?_, ?_, ?_, ?_⟩ <;> first | assumption | omega
    simp [zZg.r7, zZg.r8, zZg.r9, k0, k1, k5, hl, c0, cy, evPick, T_beq, wZI, q_kindf, q_targetf, q_locf, q_spacef, q_hasf, q_oldf, U, I1, I2, q_prevf, q_nxtf, wr]
    exact ⟨a.length - (i + 1), by omega, i + 1, rfl, by omega, by simp, wZp hw hx (by rw [hy, hxy])⟩
   ·have hab : a = b := by
     rw [List.take_of_length_le (by omega), List.take_of_length_le (by omega)] at hw
     exact hw
    subst hab
    simp [zZg.b10, zZg.r4, zZg.c, zZg.r0, zZg.r1, zZg.r2, zZg.r3, zZg.r11, k0, k5, hl, c]
  ·have hne : a ≠ b := fun e => by subst e; simp at hlen
   simp [zZg.c, zZg.r0, zZg.r1, zZg.r2, zZg.r3, zZg.r11, g0, g1, he, hlen, hne]
 obtain ⟨h', hb⟩ := this
 exact vZG (h := H) zZg.Φ rfl (args := [.arr (a.map cR), .arr (b.map cR)]) rfl hb rfl
end Go.Proofs.Ob
