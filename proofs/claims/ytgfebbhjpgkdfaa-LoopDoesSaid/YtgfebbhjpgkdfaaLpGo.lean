/- The book's loop: what comes next, its pieces. The book's loop: what comes next. The book's loop: what comes next, the rest. The book's loop: next. No conditions. -/
import Derived.Test.YtgfebbhjpgkdfaaLpGm
namespace Go.Proofs.Lp
open Go Go.Ev
set_option linter.unusedVariables false
set_option linter.unusedSimpArgs false

theorem RS.keep {h h' : Heap} {oT ep : Nat} {s : LS} {f : Nat → Option Nat} {v : Nat → V} (r : RS h oT ep s f v) {o : Option Nat} (hT : o ≠ some oT) (hf : ∀ i id, i < 10 → f i = some id → o ≠ some id)
    (hh : ∀ j, j < h.length → o ≠ some j → h'[j]? = h[j]?) : RS h' oT ep s f v :=
  ⟨by rw [hh oT (List.getElem?_eq_some_iff.1 r.row).1 hT]; exact r.row, fun i hi => (r.sl i hi).mono fun id hid => hh id ((r.sl i hi).lt hid) (hf i id hi hid), r.apart, r.ne⟩

/-- A microtask goes. -/
theorem RS.popM {h : Heap} {oT ep : Nat} {s : LS} {f : Nat → Option Nat} {v : Nat → V} (r : RS h oT ep s f v) {y : Int} {ys : List Int} (hq : s.q 0 = y :: ys) :
    ∃ v' p, iaddrV h 1 (v 0) (.int .i64 0) = some p ∧ cellsAt h p = some (cI y) ∧ sliceL h 1 (v 0) (some (.int .i64 1)) none = some v' ∧ v'.isCell = true ∧ v'.cells = [v'] ∧
      RS h oT ep (upq s 0 ys) (fun k => if k = 0 then f 0 else f k) (upv v 0 v') := by
  have hs0 := r.sq (i := 0) (by omega)
  rw [hq] at hs0
  obtain ⟨v', p, a1, a2, a3, hs2⟩ := hs0.tail
  obtain ⟨c1, c2⟩ := cont2_upq s 0 (by omega) ys
  obtain ⟨r2, _⟩ := r.upd (i := 0) (by omega) (h' := h) (v' := v') (o' := f 0) (s' := upq s 0 ys) (by rw [rowT_same v (.inl rfl)]; exact r.row) (by rw [c1]; exact hs2) c2 (Nat.le_refl _) (fun _ _ _ _ => rfl) (fun id hid => .inl hid)
  exact ⟨v', p, a1, a2, a3, hs2.cell.1, hs2.cell.2, r2⟩

/-- A task goes. -/
theorem RS.popQ {h : Heap} {oT ep : Nat} {s : LS} {f : Nat → Option Nat} {v : Nat → V} (r : RS h oT ep s f v) {n : Nat} (hn : n < 8) {y : Int} {ys : List Int} (hq : s.q (n + 1) = y :: ys) :
    ∃ v' p, iaddrV h 1 (.sl oT ep 0 8) (.int .i64 n) = some (.eptr oT ep n 0) ∧ cellsAt h (.eptr oT ep n 0) = some [v (n + 1)] ∧
      iaddrV h 1 (v (n + 1)) (.int .i64 0) = some p ∧ cellsAt h p = some (cI y) ∧ sliceL h 1 (v (n + 1)) (some (.int .i64 1)) none = some v' ∧
      evStoreV h 1 (.eptr oT ep n 0) v' = some (V.non, h.set oT (.row 1 (rowT (upv v (n + 1) v')) ep true)) ∧
      RS (h.set oT (.row 1 (rowT (upv v (n + 1) v')) ep true)) oT ep (upq s (n + 1) ys) (fun k => if k = n + 1 then f (n + 1) else f k) (upv v (n + 1) v') ∧ Kc h (h.set oT (.row 1 (rowT (upv v (n + 1) v')) ep true)) := by
  have hs0 := r.sq (i := n + 1) (by omega)
  rw [hq] at hs0
  obtain ⟨v', p, a1, a2, a3, hs2⟩ := hs0.tail
  have hT := (List.getElem?_eq_some_iff.1 r.row).1
  have ra := r.at' (n := n) (by omega) (by omega)
  rw [Int.toNat_natCast] at ra
  obtain ⟨c1, c2⟩ := cont2_upq s (n + 1) (by omega) ys
  obtain ⟨r2, K2⟩ := r.upd (i := n + 1) (by omega) (h' := h.set oT (.row 1 (rowT (upv v (n + 1) v')) ep true)) (v' := v') (o' := f (n + 1)) (s' := upq s (n + 1) ys)
    (by rw [List.getElem?_set_self hT]) (by rw [c1, szi_q (by omega)]; exact hs2.mono fun id hid => by rw [List.getElem?_set_ne (fun e => r.ne (n + 1) (by omega) (by rw [hid, e]))]) c2 (by simp)
    (fun j hj hjT _ => by rw [List.getElem?_set_ne (Ne.symm hjT)]) (fun id hid => .inl hid)
  exact ⟨v', p, ra.1, ra.2, a1, a2, a3, rowT_put r.row hn hs2.cell.1 hs2.cell.2, r2, K2⟩

/-- The boxes of next. -/
structure By (h H : Heap) (b : Nat) (D : List V) : Prop where
  kb : H[b]? = some (.cells D)
  kz : H[b + 1]? = some (.cells [.bool false, .int .i64 0, .int .i64 0, .nils, .nils, .nils])
  kt : H[b + 2]? = some (.cells [.int .u8 0, .int .i64 0, .int .i64 0])
  K : Kc h H
  hb : h.length ≤ b
theorem By.next {h H H2 : Heap} {b : Nat} {D : List V} (x : By h H b D) (k : Kc H H2) : By h H2 b D := ⟨k _ _ x.kb, k _ _ x.kz, k _ _ x.kt, x.K.trans k, x.hb⟩
theorem By.set {h H : Heap} {b : Nat} {D : List V} (x : By h H b D) (E : List V) : By h (H.set b (.cells E)) b E :=
  ⟨List.getElem?_set_self (List.getElem?_eq_some_iff.1 x.kb).1, by rw [List.getElem?_set_ne (by omega)]; exact x.kz, by rw [List.getElem?_set_ne (by omega)]; exact x.kt, x.K.set x.hb _, x.hb⟩
theorem By.fin {h H : Heap} {b : Nat} {D : List V} (x : By h H b D) (hD : D.length = 6) (hDc : D.all V.isCell = true) (t : Int × Int × Int) :
    ∃ H2 H3, List.take 6 D = D ∧ cellsAt H (.ptr b 0) = some D ∧ evStoreV H 6 (.ptr (b + 1) 0) (.agg D) = some (V.non, H2) ∧ evStoreV H2 3 (.ptr (b + 2) 0) (.agg (cN t)) = some (V.non, H3) ∧
      cellsAt H3 (.ptr (b + 1) 0) = some D ∧ cellsAt H3 (.ptr (b + 2) 0) = some (cN t) ∧ Kc h H3 ∧ (∀ {oT ep s f v}, RS H oT ep s f v → RS H3 oT ep s f v) ∧ (∀ k, cellsAt H2 (.ptr b k) = some (D.drop k)) ∧ ∀ {sz v o xs}, SL H sz v o xs → SL H2 sz v o xs := by
  have st := store6 (ds := D) x.kz (by rw [hD]; rfl) hDc
  rw [hD] at st
  have hl1 := (List.getElem?_eq_some_iff.1 x.kz).1
  have hl2 := (List.getElem?_eq_some_iff.1 x.kt).1
  have kt2 : (H.set (b + 1) (.cells D))[b + 2]? = some (.cells [.int .u8 0, .int .i64 0, .int .i64 0]) := by rw [List.getElem?_set_ne (by omega)]; exact x.kt
  have kz2 : (H.set (b + 1) (.cells D))[b + 1]? = some (.cells D) := List.getElem?_set_self hl1
  have st2 := store6 (ds := cN t) kt2 rfl rfl
  have hl3 : b + 2 < (H.set (b + 1) (.cells D)).length := by rw [List.length_set]; exact hl2
  have := x.hb
  refine ⟨_, _, by rw [← hD]; exact List.take_length, pt_at x.kb 0, st, st2, ?_, ?_, (x.K.set (by omega) _).set (by omega) _, fun r => (r.set x.kz).set kt2, fun k => pt_at (by rw [List.getElem?_set_ne (by omega)]; exact x.kb) k, fun sl => sl.mono fun id hid => by rw [List.getElem?_set_ne (fun e => sl.ne_cells x.kz (by rw [hid, e]))]⟩
  · exact pt_at (by rw [List.getElem?_set_ne (by omega)]; exact kz2) 0
  · exact pt_at (List.getElem?_set_self hl3) 0

theorem pick_eq {seed : Int} {n : Nat} (hn : 0 < n) : (if seed.tmod n < 0 then seed.tmod n + n else seed.tmod n) = (pick seed n : Int) := by
  obtain ⟨h1, h2, h3, h4⟩ := pick_lt (seed := seed) hn
  rw [h2]
  obtain ⟨a, ha⟩ : ∃ a, a = seed.tmod n := ⟨_, rfl⟩
  rw [← ha] at h3 h4 ⊢
  have e1 : (a + n).tmod n = (a + n) % n := Int.tmod_eq_emod_of_nonneg (by omega)
  rw [e1]
  by_cases h : a < 0
  · rw [if_pos h, Int.emod_eq_of_lt (by omega) (by omega)]
  · rw [if_neg h]
    have : (a + n) % n = a % n := by simp
    rw [this, Int.emod_eq_of_lt (by omega) h4]
end Go.Proofs.Lp

namespace Go.Proofs.Lp
open Go Go.Ev
set_option linter.unusedVariables false
set_option linter.unusedSimpArgs false

def NxP (h : Heap) (oT ep : Nat) (s : LS) (p : Int) (y : V) (h' : Heap) : Prop :=
  ∃ f' v', y = .tup [.agg (cellsS oT ep (nextR s p).2 v'), .agg (cN (nextR s p).1)] ∧ RS h' oT ep (nextR s p).2 f' v' ∧ Kc h h'

def cN1 (n : Nat) : List V := cI (n : Int)
/-- The sources that have a task, in the heap. -/
structure Rl (h : Heap) (oT : Nat) (f : Nat → Option Nat) (t7 : V) (o : Option Nat) (l : List Nat) : Prop where
  sl : SL h 1 t7 o (l.map cN1)
  nT : o ≠ some oT
  nf : ∀ k id, k < 10 → f k = some id → o ≠ some id

theorem Rl.push {h : Heap} {oT ep : Nat} {s : LS} {f : Nat → Option Nat} {v : Nat → V} (r : RS h oT ep s f v) {t7 : V} {o : Option Nat} {l : List Nat} (q : Rl h oT f t7 o l) (hl : l.length < 100) (n : Nat) :
    ∃ t7' o' h2, evApp (h ++ [Ob.row 1 [cI n] 0 true]) 1 8 t7 (.sl h.length 0 0 1) = some (t7', h2) ∧ Rl h2 oT f t7' o' (l ++ [n]) ∧ RS h2 oT ep s f v ∧ Kc h h2 := by
  have hs1 : SL (h ++ [Ob.row 1 [cI n] 0 true]) 1 t7 o (l.map cN1) := q.sl.mono (fun id ho => by rw [List.getElem?_append_left (q.sl.lt ho)])
  obtain ⟨v', o', h2, happ, hs2, hl2, hrest2, hnew2⟩ := hs1.app (by_ := 8) (e := cI n) (by intro e he; simp at he; subst he; exact ⟨rfl, rfl, rfl⟩) (q := .sl h.length 0 0 1) (by simp [elemsOf]) (by simp; unfold roomB; omega)
  have hl1 : (h ++ [Ob.row 1 [cI n] 0 true]).length = h.length + 1 := by simp
  rw [hl1] at hl2 hrest2 hnew2
  have hk : ∀ j, j < h.length → o ≠ some j → h2[j]? = h[j]? := fun j hj hne => by rw [hrest2 j (by omega) hne, List.getElem?_append_left hj]
  have hT := (List.getElem?_eq_some_iff.1 r.row).1
  refine ⟨v', o', h2, happ, ⟨by rw [List.map_append]; exact hs2, fun e => ?_, fun k id hk10 hid e => ?_⟩, r.keep q.nT q.nf hk, fun j cs hj => by rw [hk j (List.getElem?_eq_some_iff.1 hj).1 (q.sl.ne_cells hj)]; exact hj⟩
  · rcases hnew2 oT e with z | z
    · exact q.nT z
    · omega
  · rcases hnew2 id e with z | z
    · exact q.nf k id hk10 hid z
    · have := (r.sl k hk10).lt hid; omega

set_option maxHeartbeats 8000000 in
set_option maxRecDepth 8000 in
theorem nx_micro {h H : Heap} {oT ep : Nat} {s : LS} {f : Nat → Option Nat} {v : Nat → V} (r : RS H oT ep s f v) {b : Nat} (x : By h H b (cellsS oT ep s v)) (p : Int) {y : Int} {ys : List Int} (hq : s.q 0 = y :: ys) {k : Cc}
    {env : List V} (he : env.length = 92) (g2 : eget env 2 = .ptr b 0) (g4 : eget env 4 = .ptr (b + 1) 0) (g5 : eget env 5 = .ptr (b + 2) 0) :
    WK (callW Φ) none (FinX [.cell 4 (some 6), .cell 5 (some 3)] (NxP h oT ep s p)) [.c (fst (snd ref27_next.c.body)), .c k] { env := env, marks := [], heap := H } := by
  obtain ⟨v', p1, a1, a2, a3, i1, i2, r2⟩ := r.popM hq
  have hn : nextR s p = ((1, 0, y), upq s 0 ys) := by simp [nextR, hq]
  have q3 := pt_at x.kb 3
  have hm := r.rd.m H
  rw [hq] at hm
  have st := store_cell (off := 3) x.kb (by simp [cellsS]) i1 i2
  have ec : (cellsS oT ep s v).set 3 v' = cellsS oT ep (upq s 0 ys) (upv v 0 v') := rfl
  rw [ec] at st
  have r3 := r2.set (cs' := cellsS oT ep (upq s 0 ys) (upv v 0 v')) x.kb
  have x3 := x.set (cellsS oT ep (upq s 0 ys) (upv v 0 v'))
  obtain ⟨H1, hH1⟩ : ∃ H1, H1 = H.set b (.cells (cellsS oT ep (upq s 0 ys) (upv v 0 v'))) := ⟨_, rfl⟩
  rw [← hH1] at st r3 x3
  obtain ⟨H2, H3, z1, z2, z3, z4, z5, z6, z7, z8, z9, z10⟩ := x3.fin rfl (cellsS_cell r3 _ oT ep) (1, 0, y)
  have fin : NxP h oT ep s p (.tup [.agg (cellsS oT ep (upq s 0 ys) (upv v 0 v')), .agg (cN (1, 0, y))]) H3 := by
    unfold NxP
    rw [hn]
    exact ⟨_, _, rfl, z8 r3, z7⟩
  obtain ⟨D, hD⟩ : ∃ D, D = cellsS oT ep (upq s 0 ys) (upv v 0 v') := ⟨_, rfl⟩
  have hDl : D.length = 6 := by rw [hD]; rfl
  rw [← hD] at z1 z2 z3 z5 fin
  have hbd : evBuild H1 [.int .u8 0, .int .i64 0, .int .i64 0] [(0, 1, .int .u8 1), (2, 1, .int .i64 y)] = some (.agg [.int .u8 1, .int .i64 0, .int .i64 y], H1) := by
    simp [evBuild, placeParts, V.cells, V.isCell, setRange]
  simp only [cN, cI] at z4 z6 fin a2
  simp only [cellsS, List.drop_zero, List.drop_succ_cons] at q3
  have hz : (0 : Int) < (ys.length : Int) + 1 := by omega
  simp only [fst, snd, ref27_next.c]
  simp (config := { maxSteps := 5000000 }) [ref27_next.r1, ref27_next.r2, ref27_next.r3, ref27_next.r4, g2, g4, g5, he, okV, fV_eq, faddr_ptr, q3, hm, hz, a1, a2, a3, st, sliceV, z1, z2, z3, z4, z5, z6, hbd, hDl, fin, ofCells]

set_option maxHeartbeats 8000000 in
set_option maxRecDepth 8000 in
/-- The sources' list. -/
theorem nx_list {h H : Heap} {oT ep : Nat} {s : LS} {f : Nat → Option Nat} {v : Nat → V} (r : RS H oT ep s f v) {b : Nat} (x : By h H b (cellsS oT ep s v))
    {env : List V} (he : env.length = 92) (g2 : eget env 2 = .ptr b 0) :
    WK (callW Φ) none (fun e s' => e = .normal ∧ (∃ o, Rl s'.heap oT f (eget s'.env 7) o (rdy s 8)) ∧ RS s'.heap oT ep s f v ∧ By h s'.heap b (cellsS oT ep s v) ∧ s'.marks = [] ∧ s'.env.length = 92 ∧ eget s'.env 1 = eget env 1 ∧ eget s'.env 2 = .ptr b 0 ∧ eget s'.env 4 = eget env 4 ∧ eget s'.env 5 = eget env 5)
      [.c (.seq (.region ref27_next.r5) (fst (snd (snd (snd ref27_next.c.body)))))] { env := env, marks := [], heap := H } := by
  have q4 := pt_at x.kb 4
  have h8 := r.rd.t H
  simp only [cellsS, List.drop_zero, List.drop_succ_cons] at q4
  simp only [fst, snd, ref27_next.c]
  simp [ref27_next.r5, ref27_next.r6, g2, he, okV, fV_eq, faddr_ptr, q4, h8, ofCells]
  refine kLoop (fun m st => ∃ i : Nat, m = 8 - i ∧ i ≤ 8 ∧ st.env.length = 92 ∧ eget st.env 1 = eget env 1 ∧ eget st.env 2 = .ptr b 0 ∧ eget st.env 4 = eget env 4 ∧ eget st.env 5 = eget env 5 ∧ eget st.env 28 = .int .i64 8 ∧ eget st.env 29 = .int .i64 i ∧ st.marks = [] ∧
      ∃ o, Rl st.heap oT f (eget st.env 7) o (rdy s i) ∧ RS st.heap oT ep s f v ∧ By h st.heap b (cellsS oT ep s v)) 8 ⟨0, by
      simp [he, g2]
      exact ⟨⟨none, .inl ⟨rfl, rfl, rfl⟩, (by simp), fun k id _ _ => (by simp)⟩, r, x⟩⟩ ?_
  clear r x he g2 q4 h8
  rintro m ⟨e, mk, hq⟩ ⟨i, rfl, hi, he, k1, k2, k4, k5, k28, k29, hm, o, q, r, x⟩
  simp only at he k1 k2 k4 k5 k28 k29 hm q r x
  obtain rfl := hm
  obtain ⟨t7, k7⟩ : ∃ t7, eget e 7 = t7 := ⟨_, rfl⟩
  rw [k7] at q
  by_cases hlt : i < 8
  · have q4 := pt_at x.kb 4
    obtain ⟨p, w, a1, a2, a3⟩ := r.rd.ti [] i hlt
    rw [List.append_nil] at a1 a2
    have hi8 : (i : Int) < 8 := by omega
    have hw1 : IntKind.i64.wrap ((i : Int) + 1) = ((i + 1 : Nat) : Int) := by rw [Ev.wrap64] <;> omega
    simp only [cellsS, List.drop_zero, List.drop_succ_cons] at q4
    cases hqi : s.q (i + 1) with
    | nil =>
      have hr : rdy s (i + 1) = rdy s i := by simp [rdy, hqi]
      have a3' := a3 hq
      rw [hqi] at a3'
      simp only [List.length_nil, Int.ofNat_zero] at a3'
      simp [ref27_next.b12, ref27_next.r7, ref27_next.r8, ref27_next.r9, ref27_next.r11, k2, k7, k28, k29, he, okV, fV_eq, hi8, faddr_ptr, q4, a1, a2, a3', ofCells]
      refine ⟨8 - (i + 1), by omega, i + 1, rfl, by omega, k1, k4, k5, by simpa using hw1, ⟨o, by rw [hr]; exact q⟩, r, x⟩
    | cons y ys =>
      have hr : rdy s (i + 1) = rdy s i ++ [i] := by simp [rdy, hqi]
      have a3' := a3 hq
      rw [hqi] at a3'
      have hz : (0 : Int) < (ys.length : Int) + 1 := by omega
      simp only [List.length_cons, Int.natCast_add, Int.natCast_one] at a3'
      obtain ⟨t7', o', h2, b1, q2, r2, K2⟩ := q.push r (by have := rdy_len s i; omega) i
      have hbs := Own.bs hq i
      obtain ⟨H1, hH1⟩ : ∃ H1, H1 = hq ++ [Ob.row 1 [cI i] 0 true] := ⟨_, rfl⟩
      rw [← hH1] at b1 hbs
      simp [ref27_next.b12, ref27_next.r7, ref27_next.r8, ref27_next.r9, ref27_next.r10, ref27_next.r11, k2, k7, k28, k29, he, okV, fV_eq, hi8, faddr_ptr, q4, a1, a2, a3', hz, hbs, b1, ofCells]
      refine ⟨8 - (i + 1), by omega, i + 1, rfl, by omega, k1, k4, k5, by simpa using hw1, ⟨o', by rw [hr]; exact q2⟩, r2, x.next K2⟩
  · have h8 : i = 8 := by omega
    subst h8
    simp [ref27_next.b12, ref27_next.r7, k2, k28, k29, he, okV, fV_eq, k1, k4, k5]
    rw [k7]
    exact ⟨⟨o, q⟩, r, x⟩
end Go.Proofs.Lp

namespace Go.Proofs.Lp
open Go Go.Ev
set_option linter.unusedVariables false
set_option linter.unusedSimpArgs false

abbrev nxT : Cc := snd (snd (snd (snd ref27_next.c.body)))
abbrev nxU : Cc := snd (snd (snd nxT))

theorem bin_rem {a : Int} {n : Nat} (hn : 0 < n) : binV .rem (.int .i64 a) (.int .i64 n) = some (.int .i64 (a.tmod n)) := by
  have : ¬ ((n : Int) = 0) := by omega
  simp only [binV, if_true, if_neg this]

theorem iaddr_one {h h' : Heap} {sz : Nat} {v i p p' : V} (h1 : iaddrV h sz v i = some p) (h2 : iaddrV h' sz v i = some p') : p = p' := by
  cases i with
  | int k n =>
    cases v with
    | arr xs =>
      simp only [iaddrV] at h1 h2
      rw [h1] at h2
      exact Option.some.inj h2
    | sl id ep off len =>
      simp only [iaddrV] at h1 h2
      by_cases hn : 0 ≤ n ∧ n < (len : Int)
      · rw [if_pos hn] at h1 h2
        split at h1
        · split at h1
          · split at h2
            · split at h2
              · cases h1; cases h2; rfl
              · cases h2
            · cases h2
          · cases h1
        · cases h1
      · rw [if_neg hn] at h1
        cases h1
    | _ => simp only [iaddrV] at h1; cases h1
  | _ => simp only [iaddrV] at h1; cases h1

set_option maxHeartbeats 8000000 in
set_option maxRecDepth 8000 in
/-- Its last piece. -/
theorem nx_end {P : V → Heap → Prop} {H H2 H3 : Heap} {D : List V} {t7 : V} {b : Nat} {n src : Nat} {y : Int} {p1 p2 : V} (hD : D.length = 6)
    (z1 : List.take 6 D = D) (z2 : cellsAt H (.ptr b 0) = some D) (z3 : evStoreV H 6 (.ptr (b + 1) 0) (.agg D) = some (V.non, H2)) (z4 : evStoreV H2 3 (.ptr (b + 2) 0) (.agg [.int .u8 2, .int .i64 src, .int .i64 y]) = some (V.non, H3))
    (z5 : cellsAt H3 (.ptr (b + 1) 0) = some D) (z6 : cellsAt H3 (.ptr (b + 2) 0) = some [.int .u8 2, .int .i64 src, .int .i64 y])
    (a1 : iaddrV H 1 t7 (.int .i64 n) = some p1) (a2 : cellsAt H p1 = some [.int .i64 src]) (a3 : iaddrV H2 1 t7 (.int .i64 n) = some p2) (a4 : cellsAt H2 p2 = some [.int .i64 src]) (a5 : cellsAt H2 p1 = some [.int .i64 src]) (hpp : p1 = p2)
    (hP : P (.tup [.agg D, .agg [.int .u8 2, .int .i64 src, .int .i64 y]]) H3)
    {env : List V} (he : env.length = 92) (g2 : eget env 2 = .ptr b 0) (g4 : eget env 4 = .ptr (b + 1) 0) (g5 : eget env 5 = .ptr (b + 2) 0) (g7 : eget env 7 = t7) (g9 : eget env 9 = .int .i64 n) (g10 : eget env 10 = .int .i64 y) :
    WK (callW Φ) none (FinX [.cell 4 (some 6), .cell 5 (some 3)] P) [.c (fst (snd (snd nxU))), .c .ret] { env := env, marks := [], heap := H } := by
  subst hpp
  have hbd : ∀ H, evBuild H [.int .u8 0, .int .i64 0, .int .i64 0] [(0, 1, .int .u8 2), (1, 1, .int .i64 src), (2, 1, .int .i64 y)] = some (.agg [.int .u8 2, .int .i64 src, .int .i64 y], H) := fun H => by
    simp [evBuild, placeParts, V.cells, V.isCell, setRange]
  simp only [nxU, nxT, fst, snd, ref27_next.c]
  refine kDraw2 ref27_next.r20.ord ?_
  simp (config := { maxSteps := 5000000 }) [ref27_next.r20, List.filterMap_cons, g2, g4, g5, g7, g9, g10, he, okV, fV_eq, z1, z2, z3, z4, z5, z6, a1, a2, a3, a4, a5, hbd, hD, hP, ofCells]
  repeat' apply And.intro
  all_goals
    simp only [set_puts, puts_puts, List.cons_append, List.nil_append]
    exact puts_ext _ rfl rfl rfl rfl

set_option maxHeartbeats 8000000 in
set_option maxRecDepth 8000 in
/-- One of the sources is taken. -/
theorem nx_take {h H : Heap} {oT ep : Nat} {s : LS} {f : Nat → Option Nat} {v : Nat → V} (r : RS H oT ep s f v) {b : Nat} (x : By h H b (cellsS oT ep s v)) (p : Int) (hq0 : s.q 0 = []) {t7 : V} {o : Option Nat} (q : Rl H oT f t7 o (rdy s 8)) (hne : 0 < (rdy s 8).length)
    {env : List V} (he : env.length = 92) (g2 : eget env 2 = .ptr b 0) (g4 : eget env 4 = .ptr (b + 1) 0) (g5 : eget env 5 = .ptr (b + 2) 0) (g7 : eget env 7 = t7) (g9 : eget env 9 = .int .i64 (pick p (rdy s 8).length : Nat)) :
    WK (callW Φ) none (FinX [.cell 4 (some 6), .cell 5 (some 3)] (NxP h oT ep s p)) [.c (fst nxU), .c (snd nxU)] { env := env, marks := [], heap := H } := by
  obtain ⟨hpl, _⟩ := pick_lt (seed := p) hne
  obtain ⟨n, hn⟩ : ∃ n, n = pick p (rdy s 8).length := ⟨_, rfl⟩
  rw [← hn] at hpl g9
  obtain ⟨src, hsrc⟩ : ∃ src, (rdy s 8)[n]? = some src := ⟨_, List.getElem?_eq_getElem hpl⟩
  obtain ⟨hs8, hsq⟩ := rdy_mem (List.mem_of_getElem? hsrc)
  obtain ⟨y, ys, hy⟩ : ∃ y ys, s.q (src + 1) = y :: ys := by
    cases hh : s.q (src + 1) with
    | nil => exact (hsq hh).elim
    | cons y ys => exact ⟨y, ys, rfl⟩
  have hnx : nextR s p = ((2, (src : Int), y), upq s (src + 1) ys) := by
    rw [hn] at hsrc
    simp [nextR, hq0, hsrc, hy]
  obtain ⟨v', p1, a1, a2, a3, a4, a5, a6, r2, K2⟩ := r.popQ hs8 hy
  have ec : cellsS oT ep (upq s (src + 1) ys) (upv v (src + 1) v') = cellsS oT ep s v := cellsS_upq oT ep s v hs8 ys v'
  obtain ⟨H1, hH1⟩ : ∃ H1, H1 = H.set oT (.row 1 (rowT (upv v (src + 1) v')) ep true) := ⟨_, rfl⟩
  have sl1 : SL H1 1 t7 o ((rdy s 8).map cN1) := q.sl.mono fun id hid => by rw [hH1, List.getElem?_set_ne (fun e => q.nT (by rw [hid, e]))]
  rw [← hH1] at a6 r2 K2
  have x1 := x.next K2
  rw [← ec] at x1
  obtain ⟨H2, H3, z1, z2, z3, z4, z5, z6, z7, z8, z9, z10⟩ := x1.fin rfl (cellsS_cell r2 _ oT ep) (2, src, y)
  have fin : NxP h oT ep s p (.tup [.agg (cellsS oT ep (upq s (src + 1) ys) (upv v (src + 1) v')), .agg (cN (2, src, y))]) H3 := by
    unfold NxP
    rw [hnx]
    exact ⟨_, _, rfl, z8 r2, z7⟩
  have hat : ((rdy s 8).map cN1)[n]? = some [.int .i64 src] := by rw [List.getElem?_map, hsrc]; rfl
  obtain ⟨i0, e0, k0, b1, bo, b2⟩ := q.sl.at (i := n) hat
  obtain ⟨i1, e1, k1, c1, co, c2⟩ := sl1.at (i := n) hat
  obtain ⟨i2, e2, k2, d1, do', d2⟩ := (z10 sl1).at (i := n) hat
  have b20 := b2 0
  have c20 := c2 0
  have d20 := d2 0
  have epp : (V.eptr i1 e1 k1 0) = V.eptr i2 e2 k2 0 := iaddr_one c1 d1
  have c2H2 : cellsAt H2 (.eptr i1 e1 k1 0) = some [.int .i64 src] := by rw [epp]; simpa using d20
  have q4 := pt_at x.kb 4
  simp only [cN, cI] at z4 z6 fin a4
  simp only [cellsS, List.drop_zero, List.drop_succ_cons] at q4 b20 c20 d20
  have nd := fun (e : List V) he g2 g4 g5 g7 g9 g10 => nx_end (P := NxP h oT ep s p) rfl z1 z2 z3 z4 z5 z6 c1 c20 d1 d20 c2H2 epp fin (env := e) he g2 g4 g5 g7 g9 g10
  simp only [nxU, nxT, fst, snd, ref27_next.c] at nd ⊢
  refine kDraw1 ref27_next.r18.ord ?_
  simp (config := { maxSteps := 5000000 }) [ref27_next.r18, List.filterMap_cons, g2, g4, g5, g7, g9, he, okV, fV_eq, faddr_ptr, q4, b1, b20, a1, a2, a3, a4, ofCells]
  refine kDraw1 ref27_next.r19.ord ?_
  simp (config := { maxSteps := 5000000 }) [ref27_next.r19, List.filterMap_cons, g2, g4, g5, g7, g9, he, okV, fV_eq, faddr_ptr, q4, b1, b20, a1, a2, a3, a4, a5, a6, sliceV, ofCells]
  refine nd _ ?_ ?_ ?_ ?_ ?_ ?_ ?_ <;> simp [he, g2, g4, g5, g7, g9]
end Go.Proofs.Lp

namespace Go.Proofs.Lp
open Go Go.Ev
set_option linter.unusedVariables false
set_option linter.unusedSimpArgs false

set_option maxHeartbeats 8000000 in
set_option maxRecDepth 8000 in
theorem nx_tail {h H : Heap} {oT ep : Nat} {s : LS} {f : Nat → Option Nat} {v : Nat → V} (r : RS H oT ep s f v) {b : Nat} (x : By h H b (cellsS oT ep s v)) (p : Int) (hq0 : s.q 0 = []) {t7 : V} {o : Option Nat} (q : Rl H oT f t7 o (rdy s 8))
    {env : List V} (he : env.length = 92) (g1 : eget env 1 = .int .i64 p) (g2 : eget env 2 = .ptr b 0) (g4 : eget env 4 = .ptr (b + 1) 0) (g5 : eget env 5 = .ptr (b + 2) 0) (g7 : eget env 7 = t7) :
    WK (callW Φ) none (FinX [.cell 4 (some 6), .cell 5 (some 3)] (NxP h oT ep s p)) [.c nxT] { env := env, marks := [], heap := H } := by
  have hln := q.sl.len H
  rw [List.length_map] at hln
  by_cases hne : 0 < (rdy s 8).length
  · have tk := fun (e : List V) he g2 g4 g5 g7 g9 => nx_take r x p hq0 q hne (env := e) he g2 g4 g5 g7 g9
    obtain ⟨n, hn⟩ : ∃ n, n = (rdy s 8).length := ⟨_, rfl⟩
    rw [← hn] at hln hne tk
    have hz : (((n : Nat) : Int) == 0) = false := by simp; omega
    have hz' : ¬ n = 0 := by omega
    have hrem := bin_rem (a := p) hne
    have hl8 := rdy_len s 8
    have pe := pick_eq (seed := p) hne
    obtain ⟨_, _, hb1, hb2⟩ := pick_lt (seed := p) hne
    obtain ⟨T, hT⟩ : ∃ T, T = p.tmod n := ⟨_, rfl⟩
    rw [← hT] at hrem pe hb1 hb2
    simp only [nxU, nxT, fst, snd, ref27_next.c, kSeq] at tk ⊢
    by_cases hneg : T < 0
    · rw [if_pos hneg] at pe
      have hw : IntKind.i64.wrap (T + n) = ((pick p n : Nat) : Int) := by rw [Ev.wrap64] <;> omega
      simp [ref27_next.r13, ref27_next.r15, ref27_next.r16, ref27_next.r17, g1, g2, g7, he, okV, fV_eq, hln, hz, hz', hrem, hneg]
      refine tk _ ?_ ?_ ?_ ?_ ?_ ?_
      all_goals simp [he, g2, g4, g5, g7, hw]
    · rw [if_neg hneg] at pe
      simp [ref27_next.r13, ref27_next.r15, ref27_next.r16, g1, g2, g7, he, okV, fV_eq, hln, hz, hz', hrem, hneg]
      refine tk _ ?_ ?_ ?_ ?_ ?_ ?_
      all_goals simp [he, g2, g4, g5, g7, pe]
  · have hz : rdy s 8 = [] := List.eq_nil_of_length_eq_zero (by omega)
    rw [hz] at hln
    simp only [List.length_nil, Int.ofNat_zero] at hln
    have hnx : nextR s p = ((0, 0, 0), s) := by simp [nextR, hq0, hz]
    obtain ⟨H2, H3, z1, z2, z3, z4, z5, z6, z7, z8, z9, z10⟩ := x.fin rfl (cellsS_cell r s oT ep) (0, 0, 0)
    have fin : NxP h oT ep s p (.tup [.agg (cellsS oT ep s v), .agg (cN (0, 0, 0))]) H3 := by
      unfold NxP
      rw [hnx]
      exact ⟨f, v, rfl, z8 r, z7⟩
    obtain ⟨D, hD⟩ : ∃ D, D = cellsS oT ep s v := ⟨_, rfl⟩
    have hDl : D.length = 6 := by rw [hD]; rfl
    rw [← hD] at z1 z2 z3 z5 fin
    have hbd : evBuild H [.int .u8 0, .int .i64 0, .int .i64 0] [] = some (.agg [.int .u8 0, .int .i64 0, .int .i64 0], H) := rfl
    simp only [cN, cI] at z4 z6 fin
    simp only [nxT, snd, ref27_next.c]
    simp (config := { maxSteps := 5000000 }) [ref27_next.r13, ref27_next.r14, g2, g4, g5, g7, he, okV, fV_eq, hln, z1, z2, z3, z4, z5, z6, hbd, hDl, fin, ofCells]

theorem kAssoc {call : CallF} {rnd : Option Nat} {Q : Ex → St → Prop} {s : St} {k : List It} {a b c : Cc} (h : WK call rnd Q (.c a :: .c b :: .c c :: k) s) : WK call rnd Q (.c a :: .c (.seq b c) :: k) s := by
  rw [WK] at h ⊢
  refine WC.mono h fun e s' hq => ?_
  cases e with
  | normal =>
    simp only at hq ⊢
    rw [kSeq]
    exact hq
  | exit i => simpa only [WX] using hq
  | ret => exact hq

set_option maxHeartbeats 8000000 in
set_option maxRecDepth 8000 in
theorem next_spec2 {h : Heap} {oT ep : Nat} {s : LS} {f : Nat → Option Nat} {v : Nat → V} (r : RS h oT ep s f v) (p : Int) :
    ∃ f' v' h', callW Φ ref27_next [.agg (cellsS oT ep s v), .int .i64 p] h = some (.tup [.agg (cellsS oT ep (nextR s p).2 v'), .agg (cN (nextR s p).1)], h') ∧ RS h' oT ep (nextR s p).2 f' v' ∧ Kc h h' := by
  suffices hgo : ∃ y h', callW Φ ref27_next [.agg (cellsS oT ep s v), .int .i64 p] h = some (y, h') ∧ NxP h oT ep s p y h' by
    obtain ⟨y, h', h1, f', v', rfl, h2⟩ := hgo
    exact ⟨f', v', h', h1, h2⟩
  obtain ⟨b, hb⟩ : ∃ b, b = h.length := ⟨_, rfl⟩
  have hbx1 : evBox h (cellsS oT ep s v) = some (.ptr b 0, h ++ [Ob.cells (cellsS oT ep s v)]) := by
    rw [hb]
    simp [evBox, cellsS_cell r s oT ep]
  obtain ⟨Ha, hHa⟩ : ∃ Ha, Ha = h ++ [Ob.cells (cellsS oT ep s v)] := ⟨_, rfl⟩
  have hla : Ha.length = b + 1 := by rw [hHa, hb]; simp
  obtain ⟨Hb, hHb⟩ : ∃ Hb, Hb = Ha ++ [Ob.cells [.bool false, .int .i64 0, .int .i64 0, .nils, .nils, .nils]] := ⟨_, rfl⟩
  have hlb : Hb.length = b + 2 := by rw [hHb]; simp; omega
  obtain ⟨H, hH⟩ : ∃ H, H = Hb ++ [Ob.cells [.int .u8 0, .int .i64 0, .int .i64 0]] := ⟨_, rfl⟩
  have hext : H = h ++ [Ob.cells (cellsS oT ep s v), Ob.cells [.bool false, .int .i64 0, .int .i64 0, .nils, .nils, .nils], Ob.cells [.int .u8 0, .int .i64 0, .int .i64 0]] := by rw [hH, hHb, hHa]; simp
  have rH : RS H oT ep s f v := by rw [hext]; exact r.ext _
  have x : By h H b (cellsS oT ep s v) := ⟨by rw [hext, hb]; simp, by rw [hext, hb]; simp, by rw [hext, hb]; simp, by rw [hext]; exact .ext _ _, by omega⟩
  rw [← hHa] at hbx1
  have hcc : (V.agg (cellsS oT ep s v)).cells = cellsS oT ep s v := rfl
  refine call_x ref27_next.Φ rfl (Nat.le_of_ble_eq_true rfl) (fun env he g => ?_)
  have g0 := g 0 (by simp)
  have g1 := g 1 (by simp)
  change eget env 0 = .agg (cellsS oT ep s v) at g0
  change eget env 1 = .int .i64 p at g1
  clear g
  simp [ref27_next.c] at he
  cases hq0 : s.q 0 with
  | cons y ys =>
    have mi := fun (k : Cc) (e : List V) he g2 g4 g5 => nx_micro (h := h) rH x p hq0 (k := k) (env := e) he g2 g4 g5
    obtain ⟨D, hD⟩ : ∃ D, D = cellsS oT ep s v := ⟨_, rfl⟩
    rw [← hD] at g0 hcc hbx1
    simp only [fst, snd, ref27_next.c, kSeq, kRegion] at mi ⊢
    simp [ref27_next.r0, g0, g1, he, okV, fV_eq, hcc, hbx1, hla, ← hHb, hlb, ← hH]
    have mi2 := mi (snd (snd ref27_next.c.body))
    simp only [snd, ref27_next.c, kSeq, kRegion] at mi2
    refine mi2 _ ?_ ?_ ?_ ?_ <;> simp [he]
  | nil =>
    have main : ∀ e : List V, e.length = 92 → eget e 1 = .int .i64 p → eget e 2 = .ptr b 0 → eget e 4 = .ptr (b + 1) 0 → eget e 5 = .ptr (b + 2) 0 →
        WK (callW Φ) none (FinX [.cell 4 (some 6), .cell 5 (some 3)] (NxP h oT ep s p)) [.c (.region ref27_next.r5), .c (.seq (fst (snd (snd (snd ref27_next.c.body)))) nxT)] { env := e, marks := [], heap := H } := by
      intro e he g1 g2 g4 g5
      refine kAssoc ?_
      rw [← kSeq]
      refine kNormal (nx_list rH x he g2) ?_
      rintro ⟨e', mk, H'⟩ ⟨⟨o, q⟩, r', x', hmk, he', k1, k2, k4, k5⟩
      simp only at q r' x' hmk he' k1 k2 k4 k5
      obtain rfl := hmk
      exact nx_tail r' x' p hq0 q he' (k1.trans g1) k2 (k4.trans g4) (k5.trans g5) rfl
    have q3 := pt_at x.kb 3
    have hm := rH.rd.m H
    rw [hq0] at hm
    simp only [List.length_nil, Int.ofNat_zero] at hm
    simp only [cellsS, List.drop_zero, List.drop_succ_cons] at q3
    obtain ⟨D, hD⟩ : ∃ D, D = cellsS oT ep s v := ⟨_, rfl⟩
    rw [← hD] at g0 hcc hbx1
    simp only [nxT, fst, snd, ref27_next.c, kSeq, kRegion] at main ⊢
    simp [ref27_next.r0, ref27_next.r1, g0, g1, he, okV, fV_eq, hcc, hbx1, hla, ← hHb, hlb, ← hH, faddr_ptr, q3, hm, ofCells]
    refine main _ ?_ ?_ ?_ ?_ ?_ <;> simp [he, g1]
end Go.Proofs.Lp
