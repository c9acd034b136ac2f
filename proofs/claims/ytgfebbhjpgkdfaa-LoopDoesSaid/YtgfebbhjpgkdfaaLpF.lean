/- The program's loop: what is asked of it; a timer that is cleared. No conditions. -/
import Derived.Test.YtgfebbhjpgkdfaaLpE
namespace Go.Proofs.Lp
open Go Go.Ev
set_option linter.unusedVariables false
set_option linter.unusedSimpArgs false

theorem ld_spec {h : Heap} {l off : Nat} {cs : List V} {m : Int} (hl : h[l]? = some (.cells cs)) (hv : cs[off]? = some (.int .i64 m)) :
    callW Φ sync_atomic_Int64_Load [.ptr l off] h = some (.int .i64 m, h) := by
  have hd : cs.drop off = .int .i64 m :: cs.drop (off + 1) := by
    obtain ⟨h1, h2⟩ := List.getElem?_eq_some_iff.1 hv
    rw [← h2]
    exact List.drop_eq_getElem_cons h1
  refine callW_rough sync_atomic_Int64_Load.Φ rfl (body_q (Nat.le_of_ble_eq_true rfl) (fun env he h0 => ?_))
  have g0 := h0 0 (by simp)
  change eget env 0 = .ptr l off at g0
  clear h0
  simp [primLoad] at he
  simp [primLoad, g0, he, evAtld, cellsAt, hl, hd]

theorem now_spec {h : Heap} {l : Nat} {L : LS} {f : Nat → Option Nat} (hr : Rep h l L f) : callW Φ loop_Loop_Now [.ptr l 0] h = some (.int .i64 L.clock, h) := by
  obtain ⟨v, hl, hs, hd⟩ := hr
  have hc : cellsAt h (.ptr l 10) = some [.int .i64 L.clock, .int .i64 L.given, .int .u32 (if L.closed then 1 else 0), .int .i32 0, .int .u32 0, .bool L.closed] := by simp [cellsAt, hl, cellsL]
  refine callW_rough loop_Loop_Now.Φ rfl (body_q (Nat.le_of_ble_eq_true rfl) (fun env he h0 => ?_))
  have g0 := h0 0 (by simp)
  change eget env 0 = .ptr l 0 at g0
  clear h0
  simp [loop_Loop_Now.c] at he
  simp [loop_Loop_Now.c, loop_Loop_Now.r0, loop_Loop_Now.r1, loop_Loop_Now.r3, g0, he, okV, fV_eq, evNilchk, evEqn, eqnV, nilOf, hc]

theorem given_spec {h : Heap} {l : Nat} {L : LS} {f : Nat → Option Nat} (hr : Rep h l L f) : callW Φ loop_Loop_Given [.ptr l 0] h = some (.int .i64 L.given, h) := by
  obtain ⟨v, hl, hs, hd⟩ := hr
  have hc := ld_spec (off := 11) (m := L.given) hl rfl
  refine callW_rough loop_Loop_Given.Φ rfl (body_q (Nat.le_of_ble_eq_true rfl) (fun env he h0 => ?_))
  have g0 := h0 0 (by simp)
  change eget env 0 = .ptr l 0 at g0
  clear h0
  simp [loop_Loop_Given.c] at he
  simp [loop_Loop_Given.c, loop_Loop_Given.r0, loop_Loop_Given.r1, loop_Loop_Given.r3, g0, he, okV, fV_eq, evNilchk, evEqn, eqnV, nilOf, hc]

def dueV (L : LS) : Int × Bool :=
  match L.tm with
  | [] => (0, false)
  | t :: _ => (t.due, true)

theorem due_spec {h : Heap} {l : Nat} {L : LS} {f : Nat → Option Nat} (hr : Rep h l L f) : callW Φ loop_Loop_Due [.ptr l 0] h = some (.tup [.int .i64 (dueV L).1, .bool (dueV L).2], h) := by
  obtain ⟨v, hl, hs, hd⟩ := hr
  have hs9 : SL h 3 (v 9) (f 9) (L.tm.map cT) := by
    have := hs 9 (by decide)
    simpa only [szi, cont, if_true] using this
  have hlen := hs9.len h
  rw [List.length_map] at hlen
  have hc : cellsAt h (.ptr l 9) = some [v 9, .int .i64 L.clock, .int .i64 L.given, .int .u32 (if L.closed then 1 else 0), .int .i32 0, .int .u32 0, .bool L.closed] := by simp [cellsAt, hl, cellsL]
  refine callW_rough loop_Loop_Due.Φ rfl (body_q (Nat.le_of_ble_eq_true rfl) (fun env he h0 => ?_))
  have g0 := h0 0 (by simp)
  change eget env 0 = .ptr l 0 at g0
  clear h0
  simp [loop_Loop_Due.c] at he
  cases htm : L.tm with
  | nil =>
    rw [htm] at hlen
    simp [loop_Loop_Due.c, loop_Loop_Due.r0, loop_Loop_Due.r1, loop_Loop_Due.r2, g0, he, okV, fV_eq, evNilchk, evEqn, eqnV, nilOf, evPick, hc, hlen, dueV, htm]
  | cons t tl =>
    rw [htm] at hlen hs9
    obtain ⟨id1, ep1, k1, ha, ho, hcl⟩ := hs9.at (i := 0) (e := cT t) rfl
    have hcd := hcl 1
    simp only [cT, List.drop_succ_cons, List.drop_zero] at hcd
    have hne : ¬ ((tl.length : Int) + 1 = 0) := by omega
    have hneb : (((tl.length : Int) + 1) == 0) = false := by simpa using hne
    have ha' : iaddrV h 3 (v 9) (.int .i64 0) = some (.eptr id1 ep1 k1 0) := ha
    simp [loop_Loop_Due.c, loop_Loop_Due.r0, loop_Loop_Due.r1, loop_Loop_Due.r3, g0, he, okV, fV_eq, evNilchk, evEqn, eqnV, nilOf, evPick, hc, hlen, ha', hcd, hne, hneb, faddrV, dueV, htm]

/-- Clear's closure. -/
theorem clear1_spec {h : Heap} {b : Nat} {n : Int} (hb : h[b]? = some (.cells [.int .i64 n])) (t : Tm) :
    callW Φ (.fn (.func 31) [] [.ptr b 0]) [.agg (cT t)] h = some (.bool (t.num == n), h ++ [.cells (cT t)]) := by
  have hlt : b < h.length := (List.getElem?_eq_some_iff.1 hb).1
  have c1 : cellsAt (h ++ [Ob.cells (cT t)]) (.ptr b 0) = some [.int .i64 n] := by
    simp only [cellsAt]
    rw [List.getElem?_append_left hlt, hb]
    rfl
  have c2 : cellsAt (h ++ [Ob.cells (cT t)]) (.ptr h.length 0) = some (cT t) := by
    simp only [cellsAt]
    rw [List.getElem?_append_right (Nat.le_refl _)]
    simp
  have hbx : evBox h (cT t) = some (.ptr h.length 0, h ++ [.cells (cT t)]) := by simp [evBox, cT, V.isCell]
  simp only [cT] at c1 c2 hbx ⊢
  refine callW_rough loop_Loop_Clear_1.Φ rfl (body_q (Nat.le_of_ble_eq_true rfl) (fun env he h0 => ?_))
  have g0 := h0 0 (by simp)
  have g1 := h0 1 (by simp)
  change eget env 0 = .agg [V.int IntKind.i64 t.num, V.int IntKind.i64 t.due, V.int IntKind.i64 t.id] at g0
  change eget env 1 = .ptr b 0 at g1
  clear h0
  simp [loop_Loop_Clear_1.c] at he
  simp [loop_Loop_Clear_1.c, loop_Loop_Clear_1.r0, loop_Loop_Clear_1.r1, g0, g1, he, okV, fV_eq, c1, c2, hbx, V.cells, faddrV]

/-- The place of the first that has this number. -/
def place (n : Int) : List Tm → Option Nat
  | [] => none
  | t :: l => if t.num = n then some 0 else (place n l).map (· + 1)

theorem place_lt {n : Int} : ∀ {l : List Tm} {i : Nat}, place n l = some i → i < l.length
  | [], i, h => by cases h
  | t :: l, i, h => by
    simp only [place] at h
    split at h
    · cases h; simp
    · cases hp : place n l with
      | none => rw [hp] at h; cases h
      | some j =>
        rw [hp] at h; cases h
        have := place_lt hp
        simp; omega
theorem place_step {n : Int} : ∀ {l : List Tm} {i : Nat} {t : Tm}, l[i]? = some t → place n (l.take i) = none → place n (l.take (i + 1)) = if t.num = n then some i else none
  | [], i, t, h, _ => by simp at h
  | x :: l, 0, t, h, _ => by
    simp at h
    subst h
    simp [place]
  | x :: l, i + 1, t, h, hp => by
    simp only [List.take_succ_cons, place] at hp ⊢
    split at hp
    · cases hp
    · rename_i hx
      rw [if_neg hx]
      have h2 : place n (l.take i) = none := by
        cases hq : place n (l.take i) with
        | none => rfl
        | some j => rw [hq] at hp; cases hp
      rw [place_step (by simpa using h) h2]
      split <;> rfl
theorem place_mono {n : Int} : ∀ {l : List Tm} {i k : Nat}, place n (l.take i) = some k → place n l = some k
  | [], i, k, h => by simp [place] at h
  | x :: l, 0, k, h => by simp [place] at h
  | x :: l, i + 1, k, h => by
    simp only [List.take_succ_cons, place] at h ⊢
    split at h
    · rename_i hx; rw [if_pos hx]; exact h
    · rename_i hx
      rw [if_neg hx]
      cases hq : place n (l.take i) with
      | none => rw [hq] at h; cases h
      | some j => rw [hq] at h; rw [place_mono hq]; exact h

def placeI (o : Option Nat) : Int :=
  match o with
  | some i => i
  | none => -1

def boxes (l : List Tm) : List Ob := l.map fun t => Ob.cells (cT t)

set_option maxHeartbeats 2000000 in
theorem index_spec {h : Heap} {v : V} {o : Option Nat} {l : List Tm} (hs : SL h 3 v o (l.map cT)) (hlen : l.length < 2 ^ 40) {b : Nat} {n : Int} (hb : h[b]? = some (.cells [.int .i64 n])) :
    callW Φ slices_IndexFunc_loop_timer_loop_timer [v, .fn (.func 31) [] [.ptr b 0]] h = some (.int .i64 (placeI (place n l)), h ++ boxes (l.take (match place n l with | some k => k + 1 | none => l.length))) := by
  have hln := hs.len h
  rw [List.length_map] at hln
  have hbl : b < h.length := (List.getElem?_eq_some_iff.1 hb).1
  refine callW_rough slices_IndexFunc_loop_timer_loop_timer.Φ rfl (body_q (Nat.le_of_ble_eq_true rfl) (fun env he h0 => ?_))
  have g0 := h0 0 (by simp)
  have g1 := h0 1 (by simp)
  change eget env 0 = v at g0
  change eget env 1 = .fn (.func 31) [] [.ptr b 0] at g1
  clear h0
  simp [slices_IndexFunc_loop_timer_loop_timer.c] at he
  simp [slices_IndexFunc_loop_timer_loop_timer.c, slices_IndexFunc_loop_timer_loop_timer.r0, slices_IndexFunc_loop_timer_loop_timer.r1, g0, g1, he, okV, fV_eq, hln]
  refine kLoop (fun m s => ∃ i : Nat, m = l.length - i ∧ i ≤ l.length ∧ s.env.length = 19 ∧ eget s.env 0 = v ∧ eget s.env 1 = .fn (.func 31) [] [.ptr b 0] ∧ eget s.env 7 = .int .i64 l.length ∧ eget s.env 8 = .int .i64 i ∧ place n (l.take i) = none ∧ s.marks = [] ∧ s.heap = h ++ boxes (l.take i)) l.length ⟨0, by simp [g0, g1, he, place, boxes]⟩ ?_
  rintro m ⟨e, mk, hp⟩ ⟨i, rfl, hi, he, k0, k1, k7, k8, hnone, hm, hh⟩
  simp only at he k0 k1 k7 k8 hm hh
  subst hm
  by_cases hlt : i < l.length
  · obtain ⟨t, ht⟩ : ∃ t, l[i]? = some t := ⟨_, List.getElem?_eq_getElem hlt⟩
    have hsp : SL hp 3 v o (l.map cT) := hs.mono (fun id hid => by rw [hh, List.getElem?_append_left (hs.lt hid)])
    obtain ⟨id1, ep1, k2, ha, ho, hcl⟩ := hsp.at (i := i) (e := cT t) (by rw [List.getElem?_map, ht]; rfl)
    have hcd := hcl 0
    simp only [cT, List.drop_zero] at hcd
    have hbp : hp[b]? = some (.cells [.int .i64 n]) := by rw [hh, List.getElem?_append_left hbl]; exact hb
    have hc := clear1_spec hbp t
    simp only [cT] at hc
    have hi1 : (i : Int) < (l.length : Int) := by omega
    have hw : IntKind.i64.wrap ((i : Int) + 1) = ((i + 1 : Nat) : Int) := by rw [Ev.wrap64] <;> omega
    have hps := place_step ht hnone
    have hbx : hp ++ [Ob.cells [V.int IntKind.i64 t.num, V.int IntKind.i64 t.due, V.int IntKind.i64 t.id]] = h ++ boxes (l.take (i + 1)) := by
      rw [hh, List.append_assoc]
      congr 1
      rw [List.take_add_one, ht]
      simp [boxes, cT]
    by_cases hn : t.num = n
    · rw [if_pos hn] at hps
      have hpl := place_mono hps
      have hnb : (t.num == n) = true := by simpa using hn
      rw [hnb] at hc
      simp [slices_IndexFunc_loop_timer_loop_timer.b7, slices_IndexFunc_loop_timer_loop_timer.r2, slices_IndexFunc_loop_timer_loop_timer.r3, slices_IndexFunc_loop_timer_loop_timer.r4, slices_IndexFunc_loop_timer_loop_timer.r5, k0, k1, k7, k8, he, okV, fV_eq, hi1, ha, hcd, hc, hbx, hpl, placeI]
    · rw [if_neg hn] at hps
      have hnb : (t.num == n) = false := by simpa using hn
      rw [hnb] at hc
      simp [slices_IndexFunc_loop_timer_loop_timer.b7, slices_IndexFunc_loop_timer_loop_timer.r2, slices_IndexFunc_loop_timer_loop_timer.r3, slices_IndexFunc_loop_timer_loop_timer.r4, slices_IndexFunc_loop_timer_loop_timer.r6, k0, k1, k7, k8, he, okV, fV_eq, hi1, ha, hcd, hc, hbx]
      exact ⟨l.length - (i + 1), by omega, i + 1, rfl, by omega, by simpa using hw, hps, rfl⟩
  · have : i = l.length := by omega
    subst this
    rw [List.take_length] at hnone
    have : ¬ ((l.length : Int) < (l.length : Int)) := by omega
    simp [slices_IndexFunc_loop_timer_loop_timer.b7, slices_IndexFunc_loop_timer_loop_timer.r2, slices_IndexFunc_loop_timer_loop_timer.r8, k0, k1, k7, k8, he, okV, fV_eq, hnone, placeI, hh]

/-- One less. -/
theorem delete_spec {h : Heap} {v : V} {o : Option Nat} {xs : List (List V)} (hs : SL h 3 v o xs) (hlen : xs.length < 2 ^ 40) {i : Nat} (hi : i < xs.length) :
    ∃ v' h', callW Φ slices_Delete_loop_timer_loop_timer [v, .int .i64 i, .int .i64 (i + 1)] h = some (v', h') ∧ SL h' 3 v' o (xs.take i ++ xs.drop (i + 1)) ∧ h'.length = h.length ∧ ∀ j, o ≠ some j → h'[j]? = h[j]? := by
  have hln := hs.len h
  rcases hs with ⟨_, rfl, _⟩ | ⟨id, ep, pre, post, rfl, rfl, hr, hp⟩
  · simp at hi
  · have hid : id < h.length := (List.getElem?_eq_some_iff.1 hr).1
    obtain ⟨a, ha⟩ : ∃ a, xs.drop (xs.length - 1) = [a] := by
      have : (xs.drop (xs.length - 1)).length = 1 := by simp; omega
      match xs.drop (xs.length - 1), this with
      | [a], _ => exact ⟨a, rfl⟩
    obtain ⟨ys, hys⟩ : ∃ ys, ys = xs.take i ++ xs.drop (i + 1) := ⟨_, rfl⟩
    have hyl : ys.length = xs.length - 1 := by rw [hys]; simp; omega
    obtain ⟨h1, hh1⟩ : ∃ h1, h1 = h.set id (.row 3 (pre ++ ys ++ [a] ++ post) ep true) := ⟨_, rfl⟩
    obtain ⟨h2, hh2⟩ : ∃ h2, h2 = h.set id (.row 3 (pre ++ ys ++ ([[.int .i64 0, .int .i64 0, .int .i64 0]] ++ post)) ep true) := ⟨_, rfl⟩
    have q1 : (i : Int) ≤ (xs.length : Int) := by omega
    have q2 : (i : Int) + 1 ≤ (xs.length : Int) := by omega
    have q3 : (0 : Int) ≤ (i : Int) + 1 := by omega
    have q4 : ((i : Int) + 1).toNat = i + 1 := by omega
    have q5 : (i : Int) ≤ (i : Int) + 1 := by omega
    have hrow : pre ++ ys ++ [a] ++ post = (pre ++ xs ++ post).take (pre.length + i) ++ xs.drop (i + 1) ++ (pre ++ xs ++ post).drop (pre.length + i + (xs.length - (i + 1))) := by
      have e1 : (pre ++ xs ++ post).take (pre.length + i) = pre ++ xs.take i := by
        rw [List.append_assoc, List.take_append, List.take_of_length_le (by omega)]
        rw [show pre.length + i - pre.length = i by omega, List.take_append_of_le_length (by omega)]
      have e2 : (pre ++ xs ++ post).drop (pre.length + i + (xs.length - (i + 1))) = xs.drop (xs.length - 1) ++ post := by
        rw [List.append_assoc, List.drop_append, List.drop_eq_nil_of_le (by omega), List.nil_append]
        rw [show pre.length + i + (xs.length - (i + 1)) - pre.length = xs.length - 1 by omega, List.drop_append_of_le_length (by omega)]
      rw [e1, e2, ha, hys]
      simp only [List.append_assoc]
    have hel : elemsOf h (.sl id ep (pre.length + (i + 1)) (xs.length - (i + 1))) = some (xs.drop (i + 1)) := by
      have e3 : ((pre ++ xs ++ post).drop (pre.length + (i + 1))).take (xs.length - (i + 1)) = xs.drop (i + 1) := by
        rw [List.append_assoc, List.drop_append, List.drop_eq_nil_of_le (by omega), List.nil_append]
        rw [show pre.length + (i + 1) - pre.length = i + 1 by omega, List.drop_append_of_le_length (by omega), List.take_append_of_le_length (by simp), List.take_of_length_le (by simp)]
      simp only [elemsOf, hr]
      rw [if_pos ⟨trivial, by simp; omega⟩, e3]
    have hs3 : evSl3 h (.sl id ep pre.length xs.length) (some (.int .i64 i)) (.int .i64 (i + 1)) (.int .i64 xs.length) = some (.undef, h) := by
      simp [evSl3, lenV, bound, lohi, q1, q2, q3, q4, q5]
    have hsa : sliceL h 3 (.sl id ep pre.length xs.length) none (some (.int .i64 i)) = some (.sl id ep pre.length i) := by
      have : (i : Int) ≤ ((max xs.length ((pre ++ xs ++ post).length - pre.length) : Nat) : Int) := by omega
      have b1 : bound (.int .i64 i) (max xs.length ((pre ++ xs ++ post).length - pre.length)) = some i := by
        rw [bound, if_pos ⟨by omega, this⟩, Int.toNat_natCast]
      have l1 : lohi xs.length (max xs.length ((pre ++ xs ++ post).length - pre.length)) none (some (.int .i64 i)) = some (0, i) := by simp only [lohi, b1]
      simp only [sliceL, hr, if_pos (And.intro rfl rfl : ep = ep ∧ 3 = 3), l1, Nat.add_zero, Nat.sub_zero]
      rfl
    have hsb : sliceL h 3 (.sl id ep pre.length xs.length) (some (.int .i64 (i + 1))) none = some (.sl id ep (pre.length + (i + 1)) (xs.length - (i + 1))) := by
      simp [sliceL, hr, lohi, bound, q2, q3, q4]
    have happ : evApp h 3 24 (.sl id ep pre.length i) (.sl id ep (pre.length + (i + 1)) (xs.length - (i + 1))) = some (.sl id ep pre.length (xs.length - 1), h1) := by
      by_cases hl : i + 1 = xs.length
      · have hd : xs.drop (i + 1) = [] := List.drop_eq_nil_of_le (by omega)
        rw [hd] at hel
        have hsame : h1 = h := by
          rw [hh1, hrow, hd, List.append_nil]
          have : xs.length - (i + 1) = 0 := by omega
          rw [this, Nat.add_zero, List.take_append_drop]
          apply List.ext_getElem?
          intro j
          by_cases hj : j = id
          · subst hj; rw [List.getElem?_set_self hid, hr]
          · rw [List.getElem?_set_ne (Ne.symm hj)]
        rw [hsame]
        have : i = xs.length - 1 := by omega
        simp only [evApp, hel, hr]
        rw [← this]
      · obtain ⟨y, tl, hyt⟩ : ∃ y tl, xs.drop (i + 1) = y :: tl := by
          match hq : xs.drop (i + 1) with
          | [] => rw [List.drop_eq_nil_iff] at hq; omega
          | y :: tl => exact ⟨y, tl, rfl⟩
        have hyl2 : (y :: tl).length = xs.length - (i + 1) := by rw [← hyt]; simp
        have hsz : szOk 3 (y :: tl) = true := by
          rw [szOk, List.all_eq_true]
          intro e he
          have := (hp e (by rw [← hyt] at he; simp [List.mem_of_mem_drop he])).1
          simpa using this
        rw [hyt] at hel
        have c1 : ¬ (pre.length + i = (pre ++ xs ++ post).length) := by simp; omega
        have c2 : pre.length + i + (y :: tl).length ≤ (pre ++ xs ++ post).length ∧ true = true := ⟨by rw [hyl2]; simp; omega, rfl⟩
        have c3 : (i + (y :: tl).length) * 24 ≤ roomB := by rw [hyl2]; unfold roomB; omega
        simp only [evApp, hel, hr, if_pos (And.intro rfl (And.intro rfl (And.intro c3 hsz)) : ep = ep ∧ 3 = 3 ∧ (i + (y :: tl).length) * 24 ≤ roomB ∧ szOk 3 (y :: tl) = true), if_neg c1, if_pos c2, setOb_eq, fNat_eq]
        rw [hh1, hrow, hyt, hyl2]
        have e4 : i + (xs.length - (i + 1)) = xs.length - 1 := by omega
        rw [e4]
        rw [hyl2, e4] at c3
        rw [hyl2] at c2
        rw [if_pos ⟨trivial, trivial, c3, hsz⟩, if_pos ⟨c2.1, trivial⟩]
    have hr1 : h1[id]? = some (.row 3 (pre ++ ys ++ [a] ++ post) ep true) := by rw [hh1, List.getElem?_set_self hid]
    have hsc : sliceL h1 3 (.sl id ep pre.length (xs.length - 1)) (some (.int .i64 ((xs.length - 1 : Nat) : Int))) (some (.int .i64 xs.length)) = some (.sl id ep (pre.length + (xs.length - 1)) (xs.length - (xs.length - 1))) := by
      have : (xs.length : Int) ≤ ((max (xs.length - 1) ((pre ++ ys ++ [a] ++ post).length - pre.length) : Nat) : Int) := by
        have : (pre ++ ys ++ [a] ++ post).length - pre.length ≥ xs.length := by simp [hyl]; omega
        omega
      have b1 : bound (.int .i64 xs.length) (max (xs.length - 1) ((pre ++ ys ++ [a] ++ post).length - pre.length)) = some xs.length := by
        rw [bound, if_pos ⟨by omega, this⟩, Int.toNat_natCast]
      have b2 : bound (.int .i64 ((xs.length - 1 : Nat) : Int)) xs.length = some (xs.length - 1) := by
        rw [bound, if_pos ⟨by omega, by omega⟩, Int.toNat_natCast]
      have l1 : lohi (xs.length - 1) (max (xs.length - 1) ((pre ++ ys ++ [a] ++ post).length - pre.length)) (some (.int .i64 ((xs.length - 1 : Nat) : Int))) (some (.int .i64 xs.length)) = some (xs.length - 1, xs.length) := by simp only [lohi, b1, b2]
      simp only [sliceL, hr1, if_pos (And.intro rfl rfl : ep = ep ∧ 3 = 3), l1]
      rfl
    have hclr : evClr h1 3 [.int .i64 0, .int .i64 0, .int .i64 0] (.sl id ep (pre.length + (xs.length - 1)) (xs.length - (xs.length - 1))) = some (V.non, h2) := by
      have c1 : xs.length - (xs.length - 1) = 1 := by omega
      have e1 : (pre ++ ys ++ [a] ++ post).take (pre.length + (xs.length - 1)) = pre ++ ys := by
        rw [List.append_assoc]
        exact List.take_left' (by simp [hyl])
      have e2 : (pre ++ ys ++ [a] ++ post).drop (pre.length + (xs.length - 1) + 1) = post := List.drop_left' (by simp [hyl]; omega)
      simp only [evClr, c1, if_neg (by decide : ¬ (1 = 0)), hr1]
      rw [if_pos ⟨trivial, trivial, by simp [hyl]; omega, rfl⟩, e1, e2, hh2, hh1]
      simp [setOb_eq]
    refine ⟨.sl id ep pre.length (xs.length - 1), h2, ?_, .inr ⟨id, ep, pre, [[.int .i64 0, .int .i64 0, .int .i64 0]] ++ post, rfl, by rw [← hys, hyl], by rw [hh2, hys]; simp [hid], ?_⟩, by simp [hh2], fun j hj => ?_⟩
    · have hne : (((i : Int)) == (i : Int) + 1) = false := by rw [beq_eq_false_iff_ne]; omega
      have hln2 : evLen h1 .l (.sl id ep pre.length (xs.length - 1)) = some (.int .i64 ((xs.length - 1 : Nat) : Int), h1) := by simp [evLen, lenV, fNat_eq]
      refine callW_rough slices_Delete_loop_timer_loop_timer.Φ rfl (body_q (Nat.le_of_ble_eq_true rfl) (fun env he h0 => ?_))
      have g0 := h0 0 (by simp)
      have g1 := h0 1 (by simp)
      have g2 := h0 2 (by simp)
      change eget env 0 = .sl id ep pre.length xs.length at g0
      change eget env 1 = .int .i64 i at g1
      change eget env 2 = .int .i64 (i + 1) at g2
      clear h0
      simp [slices_Delete_loop_timer_loop_timer.c] at he
      simp [slices_Delete_loop_timer_loop_timer.c, slices_Delete_loop_timer_loop_timer.r0, slices_Delete_loop_timer_loop_timer.r1, slices_Delete_loop_timer_loop_timer.r2, slices_Delete_loop_timer_loop_timer.r4, g0, g1, g2, he, okV, fV_eq, hln, hs3, hne]
      refine kDraw1 slices_Delete_loop_timer_loop_timer.r5.ord ?_
      simp [slices_Delete_loop_timer_loop_timer.r5, slices_Delete_loop_timer_loop_timer.r6, slices_Delete_loop_timer_loop_timer.r7, List.filterMap_cons, g0, g1, g2, he, okV, fV_eq, hln, hsa, hsb, happ, hln2, hsc, hclr, sliceV]
    · intro e he
      rw [← hys] at he
      simp only [List.mem_append, List.mem_singleton] at he
      rcases he with (he | he) | he
      · exact hp e (by simp [he])
      · rw [hys] at he
        rcases List.mem_append.1 he with he | he
        · exact hp e (by simp [List.mem_of_mem_take he])
        · exact hp e (by simp [List.mem_of_mem_drop he])
      · rcases he with he | he
        · subst he; exact ⟨rfl, rfl, rfl⟩
        · exact hp e (by simp [he])
    · rw [hh2, List.getElem?_set_ne (fun e => hj (by rw [e]))]
end Go.Proofs.Lp
