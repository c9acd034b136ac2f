/- The program's loop: timers. No conditions. -/
import Derived.Test.YtgfebbhjpgkdfaaLpB
import Derived.Test.YtgfebbhjpgkdfaaE07
namespace Go.Proofs.Lp
open Go Go.Ev
set_option linter.unusedVariables false
set_option linter.unusedSimpArgs false

/-- An element of a slice. -/
theorem SL.at {h : Heap} {sz : Nat} {v : V} {o : Option Nat} {xs : List (List V)} (hs : SL h sz v o xs) {i : Nat} {e : List V} (he : xs[i]? = some e) :
    ∃ id ep k, iaddrV h sz v (.int .i64 i) = some (.eptr id ep k 0) ∧ o = some id ∧ ∀ off, cellsAt h (.eptr id ep k off) = some (e.drop off) := by
  have hi := (List.getElem?_eq_some_iff.1 he).1
  rcases hs with ⟨_, rfl, _⟩ | ⟨id, ep, pre, post, ho, rfl, hr, hp⟩
  · simp at he
  · have h1 : (pre ++ xs ++ post)[pre.length + i]? = some e := by
      rw [List.append_assoc, List.getElem?_append_right (by omega), List.getElem?_append_left (by omega)]
      simpa using he
    refine ⟨id, ep, pre.length + i, ?_, ho, fun off => by simp only [cellsAt, hr, if_true, h1, Option.map_some]⟩
    have h2 : (i : Int) < (xs.length : Int) := by omega
    simp only [iaddrV, hr, Int.toNat_natCast, true_and]
    rw [if_pos ⟨by omega, h2⟩, if_pos (by simp; omega)]

/-- One more, put in at its place. -/
theorem SL.ins {h : Heap} {sz by_ : Nat} {v : V} {o : Option Nat} {xs : List (List V)} (hs : SL h sz v o xs) {e : List V} (he : plain sz [e]) {jd : Nat} (hj : h[jd]? = some (.row sz [e] 0 true)) (hjo : o ≠ some jd)
    (hroom : (xs.length + 1) * by_ ≤ roomB) {i : Nat} (hi : i ≤ xs.length) :
    ∃ v' o' h', evIns h sz by_ v (.int .i64 i) (.sl jd 0 0 1) = some (v', h') ∧ SL h' sz v' o' (xs.take i ++ [e] ++ xs.drop i) ∧ h.length ≤ h'.length ∧ (∀ j, j < h.length → o ≠ some j → j ≠ jd → h'[j]? = h[j]?) ∧
      ∀ id, o' = some id → o = some id ∨ h.length ≤ id := by
  have hq : elemsOf h (.sl jd 0 0 1) = some [e] := by simp [elemsOf, hj]
  have hlen : lenV .l h v = some xs.length := by
    rcases hs with ⟨rfl, rfl, _⟩ | ⟨id, ep, pre, post, _, rfl, _, _⟩ <;> rfl
  by_cases hlt : i = xs.length
  · subst hlt
    obtain ⟨v', o', h', ha, hs', f1, f2, f3⟩ := hs.app he hq hroom
    refine ⟨v', o', h', ?_, by simpa using hs', f1, fun j hj ho _ => f2 j hj ho, f3⟩
    have hlx : lenV .l h (.sl jd 0 0 1) = some (0 + 1) := rfl
    simp only [evIns, hlen, hlx, if_true, ha]
  · rcases hs with ⟨rfl, rfl, _⟩ | ⟨id, ep, pre, post, rfl, rfl, hr, hp⟩
    · simp at hi hlt; omega
    · have hne : jd ≠ id := fun e => hjo (by rw [e])
      have hid : id < h.length := (List.getElem?_eq_some_iff.1 hr).1
      have hjl : jd < h.length := (List.getElem?_eq_some_iff.1 hj).1
      have e1 : (pre ++ xs ++ post).take (pre.length + i) = pre ++ xs.take i := by
        rw [List.append_assoc, List.take_append, List.take_of_length_le (by omega)]
        rw [show pre.length + i - pre.length = i by omega, List.take_append_of_le_length (by omega)]
      have e2 : ((pre ++ xs ++ post).drop (pre.length + i)).take (xs.length - i) = xs.drop i := by
        rw [List.append_assoc, List.drop_append, List.drop_eq_nil_of_le (by omega), List.nil_append]
        rw [show pre.length + i - pre.length = i by omega, List.drop_append_of_le_length (by omega), List.take_append_of_le_length (by simp), List.take_of_length_le (by simp)]
      have hpx : ∀ y, y ∈ pre ++ (xs.take i ++ [e] ++ xs.drop i) ++ [] → y.length = sz ∧ y.all V.isCell = true ∧ y.all scal = true := by
        intro y hy
        simp only [List.append_nil, List.mem_append, List.mem_singleton] at hy
        rcases hy with hy | (hy | hy) | hy
        · exact hp y (by simp [hy])
        · exact hp y (by simp [List.mem_of_mem_take hy])
        · exact he y (by simp [hy])
        · exact hp y (by simp [List.mem_of_mem_drop hy])
      refine ⟨.sl id (ep + 1) pre.length (xs.length + 1), some id, (h.set jd (.row sz [e] 0 false)).set id (.row sz (pre ++ (xs.take i ++ [e] ++ xs.drop i) ++ []) (ep + 1) true), ?_,
        .inr ⟨id, ep + 1, pre, [], rfl, (by first | (simp; done) | (simp; omega)), by simp [hid], hpx⟩, by simp, fun j hj ho hnj => ?_, fun i hi => .inl hi⟩
      · have c1 : ¬ ((i : Int) = (xs.length : Int)) := by omega
        have c2 : (i : Int) < (xs.length : Int) := by omega
        have a1 : ((pre ++ xs ++ post).all fun e => e.all scal) = true := by
          rw [List.all_eq_true]
          exact fun e he => (hp e he).2.2
        have a2 : (([e] : List (List V)).all fun e => e.all scal) = true := by
          rw [List.all_eq_true]
          exact fun y hy => (he y hy).2.2
        have a3 : e.length = sz := (he e (by simp)).1
        have a4 : pre.length + xs.length ≤ (pre ++ xs ++ post).length := by simp
        simp only [evIns, hlen, if_neg c1, hr, hj, List.getElem?_cons_zero]
        rw [if_pos ⟨⟨by omega, c2, trivial, trivial, a4, hroom⟩, a3, hne, trivial, a1, a2⟩]
        simp only [setOb_eq, Int.toNat_natCast]
        rw [e1, e2]
        simp only [List.append_assoc, List.append_nil]
      · rw [List.getElem?_set_ne (fun e => ho (by rw [e])), List.getElem?_set_ne (Ne.symm hnj)]

/-- What comes behind, in code. -/
def snd : Cc → Cc
  | .seq _ b => b
  | c => c

/-- What comes first. -/
def fst : Cc → Cc
  | .seq a _ => a
  | c => c

/-- Where a new timer goes. -/
def spot (l : List Tm) (due : Int) : Nat → Nat
  | 0 => 0
  | i + 1 =>
    match l[i]? with
    | some t => if t.due > due then spot l due i else i + 1
    | none => i + 1
theorem spot_le (l : List Tm) (due : Int) : ∀ i, spot l due i ≤ i
  | 0 => Nat.le_refl _
  | i + 1 => by
    simp only [spot]
    split
    · split
      · exact Nat.le_succ_of_le (spot_le l due i)
      · exact Nat.le_refl _
    · exact Nat.le_refl _

def waitV (ms level : Int) : Int := if level > 5 then max (max ms 0) 4 else max ms 0
def afterOk (ms level : Int) : Bool := decide (ms ≤ 1125899906842624 ∧ 0 ≤ level)
def afterT (L : LS) (ms level id : Int) : Tm := ⟨L.given + 1, min (L.clock + waitV ms level) 1125899906842624, id⟩
def afterL (L : LS) (ms level id : Int) : LS :=
  if faultV L (afterOk ms level) = 0 then
    { L with given := L.given + 1, tm := L.tm.take (spot L.tm (afterT L ms level id).due L.tm.length) ++ [afterT L ms level id] ++ L.tm.drop (spot L.tm (afterT L ms level id).due L.tm.length) }
  else L
def afterV (L : LS) (ms level : Int) : Int × Int := if faultV L (afterOk ms level) = 0 then (L.given + 1, 0) else (0, faultV L (afterOk ms level))

theorem len_ins (l : List Tm) (i : Nat) (t : Tm) : (l.take i ++ [t] ++ l.drop i).map cT = (l.map cT).take i ++ [cT t] ++ (l.map cT).drop i := by simp [List.map_take, List.map_drop]

theorem max_int (k : IntKind) (a b : Int) : foldInt (fun x y => if y > x then y else x) [.int k a, .int k b] = some (.int k (max a b)) := by
  simp only [foldInt, foldInt.go, if_true, Option.some.injEq, V.int.injEq, true_and]
  split <;> omega
theorem min_int (k : IntKind) (a b : Int) : foldInt (fun x y => if y < x then y else x) [.int k a, .int k b] = some (.int k (min a b)) := by
  simp only [foldInt, foldInt.go, if_true, Option.some.injEq, V.int.injEq, true_and]
  split <;> omega

/-- (*atomic.Int64).Add -/
theorem add_spec {h : Heap} {l off : Nat} {cs : List V} {m : Int} (hl : h[l]? = some (.cells cs)) (hv : cs[off]? = some (.int .i64 m)) (n : Int) :
    callW Φ sync_atomic_Int64_Add [.ptr l off, .int .i64 n] h = some (.int .i64 (IntKind.i64.wrap (m + n)), h.set l (.cells (cs.set off (.int .i64 (IntKind.i64.wrap (m + n)))))) := by
  have hoff : off < cs.length := (List.getElem?_eq_some_iff.1 hv).1
  have hd : cs.drop off = .int .i64 m :: cs.drop (off + 1) := by
    obtain ⟨h1, h2⟩ := List.getElem?_eq_some_iff.1 hv
    rw [← h2]
    exact List.drop_eq_getElem_cons h1
  refine callW_rough sync_atomic_Int64_Add.Φ rfl (body_q (Nat.le_of_ble_eq_true rfl) (fun env he h0 => ?_))
  have g0 := h0 0 (by simp)
  have g1 := h0 1 (by simp)
  change eget env 0 = .ptr l off at g0
  change eget env 1 = .int .i64 n at g1
  clear h0
  simp [primAdd] at he
  have hst := store_cell hl hoff (x := .int .i64 (IntKind.i64.wrap (m + n))) rfl rfl
  simp [primAdd, g0, g1, he, evAtadd, cellsAt, hl, hd, hst]

theorem ins_call {h h' : Heap} {s i x z : V} (hi : evIns h 3 24 s i x = some (z, h')) : callW Φ slices_Insert_loop_timer_loop_timer [s, i, x] h = some (z, h') := by
  refine callW_rough slices_Insert_loop_timer_loop_timer.Φ rfl (body_q (Nat.le_of_ble_eq_true rfl) (fun env he h0 => ?_))
  have g0 := h0 0 (by simp)
  have g1 := h0 1 (by simp)
  have g2 := h0 2 (by simp)
  change eget env 0 = s at g0
  change eget env 1 = i at g1
  change eget env 2 = x at g2
  clear h0
  simp [primIns] at he
  simp [primIns, g0, g1, g2, he, hi]

theorem cT_plain (t : Tm) : plain 3 [cT t] := by
  intro e he
  simp only [List.mem_singleton] at he
  subst he
  exact ⟨rfl, rfl, rfl⟩

set_option maxHeartbeats 8000000 in
theorem after_spec {h : Heap} {l : Nat} {L : LS} {f : Nat → Option Nat} (hr : Rep h l L f) (ht : tot L < 2 ^ 40) (hg0 : 0 ≤ L.given) (hg : L.given < 2 ^ 62) (hc0 : 0 ≤ L.clock) (hcm : L.clock ≤ 1125899906842624) (ms level id : Int) :
    ∃ h' f', callW Φ loop_Loop_After [.ptr l 0, .int .i64 ms, .int .i64 level, .int .i64 id] h = some (.tup [.int .i64 (afterV L ms level).1, .int .i64 (afterV L ms level).2], h') ∧ Rep h' l (afterL L ms level id) f' ∧ Fr h h' l f f' := by
  obtain ⟨v, hr⟩ := hr
  have hf := fault_spec hr ht (afterOk ms level)
  by_cases hz : faultV L (afterOk ms level) = 0
  · have hok : ms ≤ 1125899906842624 ∧ 0 ≤ level := by
      unfold faultV at hz
      split at hz
      · cases hz
      · split at hz
        · cases hz
        · rename_i hd; simpa [afterOk] using hd
    have hf1 : callW Φ loop_Loop_fault [.ptr l 0, .bool true] h = some (.int .i64 0, h) := by
      have : afterOk ms level = true := by simp [afterOk, hok]
      rw [this] at hf hz
      rw [hz] at hf
      exact hf
    obtain ⟨hl, hs, hd⟩ := hr
    have hll : l < h.length := (List.getElem?_eq_some_iff.1 hl).1
    obtain ⟨D, hD⟩ : ∃ D, D = min (L.clock + waitV ms level) 1125899906842624 := ⟨_, rfl⟩
    obtain ⟨t, htd⟩ : ∃ t, t = afterT L ms level id := ⟨_, rfl⟩
    have ect : cT t = [.int .i64 (L.given + 1), .int .i64 D, .int .i64 id] := by rw [htd, hD]; rfl
    obtain ⟨L1, hL1⟩ : ∃ L1, L1 = { L with given := L.given + 1 } := ⟨_, rfl⟩
    obtain ⟨C', hC'⟩ : ∃ C', C' = cellsL v L1 := ⟨_, rfl⟩
    have hwg : IntKind.i64.wrap (L.given + 1) = L.given + 1 := by rw [Ev.wrap64] <;> omega
    have hset : (cellsL v L).set 11 (.int .i64 (IntKind.i64.wrap (L.given + 1))) = C' := by rw [hwg, hC', hL1]; rfl
    have hadd0 : callW Φ sync_atomic_Int64_Add [.ptr l 11, .int .i64 1] h = some (.int .i64 (L.given + 1), h.set l (.cells C')) := by
      have := add_spec (off := 11) hl rfl 1
      rw [hset, hwg] at this
      exact this
    have hl1 : (h ++ [Ob.cells [.int .i64 0, .int .i64 0, .int .i64 0]])[l]? = some (.cells (cellsL v L)) := by rw [List.getElem?_append_left hll]; exact hl
    have hadd1 : callW Φ sync_atomic_Int64_Add [.ptr l 11, .int .i64 1] (h ++ [Ob.cells [.int .i64 0, .int .i64 0, .int .i64 0]]) = some (.int .i64 (L.given + 1), h.set l (.cells C') ++ [Ob.cells [.int .i64 0, .int .i64 0, .int .i64 0]]) := by
      have := add_spec (off := 11) hl1 rfl 1
      rw [hset, hwg, List.set_append_left _ _ hll] at this
      exact this
    have ck : ∀ (H : Heap) (L' : LS) (vv : Nat → V), H[l]? = some (.cells (cellsL vv L')) → cellsAt H (.ptr l 10) = some [.int .i64 L'.clock, .int .i64 L'.given, .int .u32 (if L'.closed then 1 else 0), .int .i32 0, .int .u32 0, .bool L'.closed] := fun H L' vv hH => by simp [cellsAt, hH, cellsL]
    have ck0 := ck h L v hl
    have ck1 := ck _ L v hl1
    have hl2 : (h.set l (.cells C'))[l]? = some (.cells C') := List.getElem?_set_self hll
    have hl3 : ∀ o : Ob, (h.set l (.cells C') ++ [o])[l]? = some (.cells C') := fun o => by rw [List.getElem?_append_left (by simpa using hll)]; exact hl2
    have ck2 := ck (h.set l (.cells C')) L1 v (by rw [← hC']; exact hl2)
    have ck3 := ck (h.set l (.cells C') ++ [Ob.cells [.int .i64 0, .int .i64 0, .int .i64 0]]) L1 v (by rw [← hC']; exact hl3 _)
    have hw : IntKind.i64.wrap (L.clock + waitV ms level) = L.clock + waitV ms level := by
      have : 0 ≤ waitV ms level ∧ waitV ms level ≤ 1125899906842624 := by unfold waitV; split <;> omega
      rw [Ev.wrap64] <;> omega
    have hmn := min_int .i64 (L.clock + waitV ms level) 1125899906842624
    rw [← hD] at hmn
    have hL1c : L1.clock = L.clock := by rw [hL1]
    have hst : evStoreV (h.set l (.cells C') ++ [Ob.cells [.int .i64 0, .int .i64 0, .int .i64 0]]) 3 (.ptr h.length 0) (.agg [.int .i64 (L.given + 1), .int .i64 D, .int .i64 id]) = some (V.non, h.set l (.cells C') ++ [.cells [.int .i64 (L.given + 1), .int .i64 D, .int .i64 id]]) := by
      simp [evStoreV, V.cells, V.isCell, evStore, setRange]
    obtain ⟨H, hHd⟩ : ∃ H, H = h.set l (.cells C') ++ [.cells [.int .i64 (L.given + 1), .int .i64 D, .int .i64 id]] := ⟨_, rfl⟩
    have hHl : H.length = h.length + 1 := by simp [hHd]
    have hHold : ∀ j, j < h.length → j ≠ l → H[j]? = h[j]? := fun j hj hne => by
      rw [hHd, List.getElem?_append_left (by simpa using hj), List.getElem?_set_ne (Ne.symm hne)]
    have hHx : H[h.length]? = some (.cells (cT t)) := by
      rw [hHd, List.getElem?_append_right (by simp), ect]
      simp
    have hH : H[l]? = some (.cells C') := by rw [hHd]; exact hl3 _
    have c9 : cellsAt H (.ptr l 9) = some [v 9, .int .i64 L1.clock, .int .i64 L1.given, .int .u32 (if L1.closed then 1 else 0), .int .i32 0, .int .u32 0, .bool L1.closed] := by simp [cellsAt, hH, hC', cellsL]
    have cx : ∀ off, cellsAt H (.ptr h.length off) = some (([.int .i64 (L.given + 1), .int .i64 D, .int .i64 id] : List V).drop off) := fun off => by
      rw [← ect]
      simp [cellsAt, hHx]
    have hfl : ∀ id, f 9 = some id → id < h.length := fun id hid => (hs 9 (by decide)).lt hid
    have hnl : ∀ id, f 9 = some id → id ≠ l := fun id hid e => by
      subst e
      rcases hs 9 (by decide) with ⟨_, _, q⟩ | ⟨id', ep, pre, post, q, _, q2, _⟩
      · rw [q] at hid; cases hid
      · rw [q] at hid; cases hid
        rw [hl] at q2; cases q2
    have hs9 : SL H 3 (v 9) (f 9) (L.tm.map cT) := by
      have := hs 9 (by decide)
      simp only [szi, cont, if_true] at this
      exact this.mono (fun id hid => hHold id (hfl id hid) (hnl id hid))
    have hlen9 := hs9.len H
    rw [List.length_map] at hlen9
    have htm : L.tm.length < 2 ^ 40 := by unfold tot at ht; omega
    -- the row of one
    obtain ⟨H2, hH2d⟩ : ∃ H2, H2 = H ++ [Ob.row 3 [[.int .i64 (L.given + 1), .int .i64 D, .int .i64 id]] 0 true] := ⟨_, rfl⟩
    have hH2l : H2.length = h.length + 2 := by simp [hH2d, hHl]
    have hH2old : ∀ j, j < H.length → H2[j]? = H[j]? := fun j hj => by rw [hH2d, List.getElem?_append_left hj]
    have hs9' : SL H2 3 (v 9) (f 9) (L.tm.map cT) := hs9.mono (fun id hid => hH2old id (by have := hfl id hid; omega))
    obtain ⟨v', o', h3, hin, hs3, f1, f2, f3⟩ := hs9'.ins (by_ := 24) (cT_plain t) (jd := H.length) (by rw [hH2d, ect]; simp) (fun e => by have := hfl _ e; omega) (by simp; unfold roomB; omega) (i := spot L.tm t.due L.tm.length) (by simp; exact spot_le _ _ _)
    have hic := ins_call hin
    have hl4 : h3[l]? = some (.cells C') := by
      rw [f2 l (by omega) (fun e => hnl _ e rfl) (by omega), hH2old l (by omega)]
      exact hH
    have hll3 : l < h3.length := (List.getElem?_eq_some_iff.1 hl4).1
    have hstf := store_cell hl4 (off := 9) (x := v') (by rw [hC']; exact Nat.lt_of_lt_of_eq (by decide : 9 < 16) rfl) hs3.cell.1 hs3.cell.2
    have hC9 : C'.set 9 v' = cellsL (upv v 9 v') (afterL L ms level id) := by
      rw [hC', hL1, cells_set v _ v' (i := 9) (by decide)]
      simp only [afterL, if_pos hz]
      rfl
    have hfin : ∀ off, cellsAt (h3.set l (.cells (C'.set 9 v'))) (.ptr h.length off) = some (([.int .i64 (L.given + 1), .int .i64 D, .int .i64 id] : List V).drop off) := fun off => by
      have hne : l ≠ h.length := by omega
      have hno : f 9 ≠ some h.length := fun e => by have := hfl _ e; omega
      have : h3[h.length]? = some (.cells (cT t)) := by
        rw [f2 h.length (by omega) hno (by omega), hH2old _ (by omega)]
        exact hHx
      simp only [cellsAt]
      rw [List.getElem?_set_ne hne, this, ect]
    have hrep := RepV.upd (h' := h3.set l (.cells (cellsL (upv v 9 v') (afterL L ms level id)))) ⟨hl, hs, hd⟩ (i := 9) (by decide) (L' := afterL L ms level id) (v' := v') (o' := o') (by simp [hll3])
      (by
        have e1 : cont (afterL L ms level id) 9 = (L.tm.map cT).take (spot L.tm t.due L.tm.length) ++ [cT t] ++ (L.tm.map cT).drop (spot L.tm t.due L.tm.length) := by
          simp only [cont, if_true, afterL, if_pos hz]
          rw [htd]
          exact len_ins _ _ _
        rw [e1]
        refine hs3.mono (fun id' hid => ?_)
        have : id' ≠ l := by
          rintro rfl
          rcases hs3 with ⟨_, _, q⟩ | ⟨id2, ep, pre, post, q, _, q2, _⟩
          · rw [q] at hid; cases hid
          · rw [q] at hid; cases hid
            rw [hl4] at q2; cases q2
        rw [List.getElem?_set_ne (Ne.symm this)])
      (fun k hk hne => by simp [cont, hne, afterL, if_pos hz])
      (by rw [List.length_set]; omega)
      (fun j hj hjl hjf => by
        rw [List.getElem?_set_ne (Ne.symm hjl), f2 j (by omega) hjf (by omega), hH2old j (by omega)]
        exact hHold j hj hjl)
      (fun id' hid => by
        rcases f3 id' hid with q | q
        · exact .inl q
        · right; omega)
    rw [← hC9] at hrep
    refine ⟨_, _, ?_, ⟨_, hrep.1⟩, hrep.2⟩
    have hav : afterV L ms level = (L.given + 1, 0) := by simp [afterV, hz]
    rw [hav]
    refine callW_rough loop_Loop_After.Φ rfl (body_q (Nat.le_of_ble_eq_true rfl) (fun env he h0 => ?_))
    have g0 := h0 0 (by simp)
    have g1 := h0 1 (by simp)
    have g2 := h0 2 (by simp)
    have g3 := h0 3 (by simp)
    change eget env 0 = .ptr l 0 at g0
    change eget env 1 = .int .i64 ms at g1
    change eget env 2 = .int .i64 level at g2
    change eget env 3 = .int .i64 id at g3
    clear h0
    simp [loop_Loop_After.c] at he
    have hm0 := max_int .i64 ms 0
    have hm4 := max_int .i64 (max ms 0) 4
    have tdue : t.due = D := by rw [htd, hD]; rfl
    have rest : ∀ env : List V, env.length = 80 → eget env 0 = .ptr l 0 → eget env 12 = .ptr h.length 0 →
        WK (callW Φ) none (FinQ [.tmp 8, .tmp 9] (.tup [.int .i64 (L.given + 1), .int .i64 0], h3.set l (.cells (C'.set 9 v'))))
          [.o loop_Loop_After.r8, .c (snd (snd (snd (snd (snd (snd loop_Loop_After.c.body))))))] { env := env, marks := [], heap := H } := by
      intro env he g0 g12
      simp only [snd, loop_Loop_After.c]
      simp [loop_Loop_After.r8, g0, he, okV, fV_eq, evNilchk, c9, hlen9]
      refine kLoop (fun m s => ∃ i : Nat, m = i ∧ i ≤ L.tm.length ∧ s.env.length = 80 ∧ eget s.env 0 = .ptr l 0 ∧ eget s.env 12 = .ptr h.length 0 ∧ eget s.env 13 = .int .i64 i ∧ spot L.tm t.due i = spot L.tm t.due L.tm.length ∧ s.marks = [] ∧ s.heap = H) L.tm.length ⟨L.tm.length, by simp [g0, g12, he]⟩ ?_
      rintro m ⟨e, mk, hp⟩ ⟨i, hmi, hi, he, k0, k12, k13, ksp, hm, hh⟩
      simp only at he k0 k12 k13 hm hh
      obtain rfl := hm
      obtain rfl := hh
      simp only [loop_Loop_After.b11, kSeq]
      refine kDraw1 loop_Loop_After.r9.ord ?_
      have stop : spot L.tm t.due i = i → ∀ e : List V, e.length = 80 → eget e 0 = .ptr l 0 → eget e 12 = .ptr h.length 0 → eget e 13 = .int .i64 i →
          WK (callW Φ) none (FinQ [.tmp 8, .tmp 9] (.tup [.int .i64 (L.given + 1), .int .i64 0], h3.set l (.cells (C'.set 9 v'))))
            [.c (fst (snd (snd (snd (snd (snd (snd (snd loop_Loop_After.c.body)))))))), .c (snd (snd (snd (snd (snd (snd (snd (snd loop_Loop_After.c.body))))))))] { env := e, marks := [], heap := hp } := by
        intro hsp e he k0 k12 k13
        have hii : spot L.tm t.due L.tm.length = i := by omega
        rw [hii] at hic
        simp only [fst, snd, loop_Loop_After.c]
        refine kDraw1 loop_Loop_After.r12.ord ?_
        have hbs : evBslice hp [V.int IntKind.i64 0, V.int IntKind.i64 0, V.int IntKind.i64 0] 1 3 [(0, V.agg [V.int IntKind.i64 (L.given + 1), V.int IntKind.i64 D, V.int IntKind.i64 id])] = some (.sl hp.length 0 0 1, H2) := by
          rw [hH2d]
          simp [evBslice, V.cells, V.isCell, okV, fV_eq, fNat_eq, placeParts, setRange, chunks]
        simp [loop_Loop_After.r12, loop_Loop_After.r13, List.filterMap_cons, k0, k12, k13, he, okV, fV_eq, evNilchk, c9, cx, hbs, hic, hstf, hfin]
      cases i with
      | zero =>
        simp [loop_Loop_After.r9, List.filterMap_cons, k0, k12, k13, he, okV, fV_eq, evNilchk, evPick]
        refine stop rfl _ ?_ ?_ ?_ ?_ <;> simp [he, k0, k12, k13]
      | succ j =>
        have hj1 : IntKind.i64.wrap (j : Int) = (j : Int) := by rw [Ev.wrap64] <;> omega
        obtain ⟨tj, htj⟩ : ∃ tj, L.tm[j]? = some tj := ⟨_, List.getElem?_eq_getElem (by omega)⟩
        obtain ⟨id1, ep1, k1, ha, ho, hcl⟩ := hs9.at (i := j) (e := cT tj) (by rw [List.getElem?_map, htj]; rfl)
        have hcd := hcl 1
        simp only [cT, List.drop_succ_cons, List.drop_zero] at hcd
        have hspj : spot L.tm t.due (j + 1) = if tj.due > t.due then spot L.tm t.due j else j + 1 := by simp only [spot, htj]
        have hj0 : (0 : Int) < (j : Int) + 1 := by omega
        by_cases hgt : tj.due > D
        · simp [loop_Loop_After.r9, loop_Loop_After.r10, List.filterMap_cons, k0, k12, k13, he, okV, fV_eq, evNilchk, evPick, c9, cx, ha, hcd, hgt, hj0, hj1, faddrV]
          refine ⟨j, by omega, by omega, rfl, ?_⟩
          rw [← ksp, hspj, tdue, if_pos hgt]
        · simp [loop_Loop_After.r9, loop_Loop_After.r10, List.filterMap_cons, k0, k12, k13, he, okV, fV_eq, evNilchk, evPick, c9, cx, ha, hcd, hgt, hj0, hj1, faddrV]
          refine stop (by rw [hspj, tdue, if_neg hgt]) _ ?_ ?_ ?_ ?_ <;> simp [he, k0, k12, k13]
    have key : ∀ env : List V, env.length = 80 → eget env 0 = .ptr l 0 → eget env 3 = .int .i64 id → eget env 11 = .int .i64 (waitV ms level) →
        WK (callW Φ) none (FinQ [.tmp 8, .tmp 9] (.tup [.int .i64 (L.given + 1), .int .i64 0], h3.set l (.cells (C'.set 9 v')))) [.c (snd (snd (snd (snd loop_Loop_After.c.body))))] { env := env, marks := [], heap := h } := by
      intro env he g0 g3 g11
      simp only [snd, loop_Loop_After.c]
      rw [kSeq]
      refine kDraw2 loop_Loop_After.r7.ord ?_
      simp [loop_Loop_After.r7, List.filterMap_cons, g0, g3, g11, he, evNilchk, okV, fV_eq, hadd0, hadd1, ck0, ck1, ck2, ck3, hL1c, hw, hmn, evBuild, placeParts, V.cells, V.isCell, setRange, hst]
      refine ⟨⟨?_, ?_, ?_, ?_⟩, ?_⟩
      · simp only [set_puts, puts_puts, List.cons_append, List.nil_append]; exact puts_ext _ rfl rfl rfl rfl
      · simp only [set_puts, puts_puts, List.cons_append, List.nil_append]; exact puts_ext _ rfl rfl rfl rfl
      · simp only [set_puts, puts_puts, List.cons_append, List.nil_append]; exact puts_ext _ rfl rfl rfl rfl
      · simp only [set_puts, puts_puts, List.cons_append, List.nil_append]; exact puts_ext _ rfl rfl rfl rfl
      rw [← hHd]
      exact rest _ (by simp [he]) (by simp [g0]) (by simp [he])
    by_cases h5 : level > 5
    · have hwv : waitV ms level = max ms (max 0 4) := by simp only [waitV, if_pos h5]; omega
      simp [loop_Loop_After.c, loop_Loop_After.r0, loop_Loop_After.r1, loop_Loop_After.r2, loop_Loop_After.r4, loop_Loop_After.r5, loop_Loop_After.r6, g0, g1, g2, he, okV, fV_eq, evNilchk, evPick, hok.1, hok.2, hf1, hm0, hm4, h5]
      rw [← kSeq]
      exact key _ (by simp [he]) (by simp [g0]) (by simp [g3]) (by simp [he, hwv])
    · have hwv : waitV ms level = max ms 0 := by simp only [waitV, if_neg h5]
      simp [loop_Loop_After.c, loop_Loop_After.r0, loop_Loop_After.r1, loop_Loop_After.r2, loop_Loop_After.r4, loop_Loop_After.r5, loop_Loop_After.r6, g0, g1, g2, he, okV, fV_eq, evNilchk, evPick, hok.1, hok.2, hf1, hm0, hm4, h5]
      rw [← kSeq]
      exact key _ (by simp [he]) (by simp [g0]) (by simp [g3]) (by simp [he, hwv])
  · refine ⟨h, f, ?_, by simp only [afterL, if_neg hz]; exact ⟨v, hr⟩, .refl _ _ _⟩
    refine callW_rough loop_Loop_After.Φ rfl (body_q (Nat.le_of_ble_eq_true rfl) (fun env he h0 => ?_))
    have g0 := h0 0 (by simp)
    have g1 := h0 1 (by simp)
    have g2 := h0 2 (by simp)
    change eget env 0 = .ptr l 0 at g0
    change eget env 1 = .int .i64 ms at g1
    change eget env 2 = .int .i64 level at g2
    clear h0
    simp [loop_Loop_After.c] at he
    have hzb : (faultV L (afterOk ms level) != 0) = true := by simpa using hz
    have hv : afterV L ms level = (0, faultV L (afterOk ms level)) := by simp [afterV, hz]
    rw [hv]
    by_cases a : ms ≤ 1125899906842624
    · have e1 : afterOk ms level = decide (0 ≤ level) := by simp [afterOk, a]
      rw [e1] at hf hzb ⊢
      have hzb' : (faultV L (decide (0 ≤ level)) == 0) = false := by simpa using hzb
      simp [loop_Loop_After.c, loop_Loop_After.r0, loop_Loop_After.r1, loop_Loop_After.r2, loop_Loop_After.r3, g0, g1, g2, he, okV, fV_eq, evNilchk, evPick, a, hf, hzb, hzb']
    · have e1 : afterOk ms level = false := by simp [afterOk, a]
      rw [e1] at hf hzb ⊢
      have hzb' : (faultV L false == 0) = false := by simpa using hzb
      simp [loop_Loop_After.c, loop_Loop_After.r0, loop_Loop_After.r1, loop_Loop_After.r2, loop_Loop_After.r3, g0, g1, g2, he, okV, fV_eq, evNilchk, evPick, a, hf, hzb, hzb']
end Go.Proofs.Lp
