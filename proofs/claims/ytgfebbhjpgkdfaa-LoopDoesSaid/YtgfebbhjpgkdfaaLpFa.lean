/- The program's loop: Fork. The program's loop: Fork, walked. The program's loop: Fork, the sources, the front. The program's loop: Fork. No conditions. -/
import Derived.Test.YtgfebbhjpgkdfaaLpW
import Derived.Test.YtgfebbhjpgkdfaaLpRw
namespace Go.Proofs.Lp
open Go Go.Ev
set_option linter.unusedVariables false
set_option linter.unusedSimpArgs false

/-- What is not seen of a loop is no matter. -/
theorem Rep.congr {h : Heap} {l : Nat} {L L' : LS} {f : Nat → Option Nat} (hr : Rep h l L f) (hq : ∀ k, k < 9 → L'.q k = L.q k) (ht : L'.tm = L.tm) (hc : L'.clock = L.clock) (hg : L'.given = L.given) (hx : L'.closed = L.closed) : Rep h l L' f := by
  obtain ⟨v, h1, h2, h3⟩ := hr
  refine ⟨v, ?_, fun i hi => ?_, h3⟩
  · rw [h1]
    simp only [cellsL, hc, hg, hx]
  · have := h2 i hi
    have e : cont L' i = cont L i := by
      unfold cont
      by_cases e : i = 9
      · rw [if_pos e, if_pos e, ht]
      · rw [if_neg e, if_neg e, hq i (by omega)]
    rw [e]
    exact this

/-- queue.own: a copy of what waits. -/
theorem own_spec {h : Heap} {l off : Nat} {cs : List V} {v : V} {o : Option Nat} {xs : List (List V)} (hl : h[l]? = some (.cells cs)) (hv : cs[off]? = some v) (hs : SL h 1 v o xs) (hlen : xs.length < 2 ^ 40) :
    ∃ v' o' h', callW Φ loop_queue_int_own [.ptr l off] h = some (.agg [v'], h') ∧ SL h' 1 v' o' xs ∧ h.length ≤ h'.length ∧ (∀ j, j < h.length → h'[j]? = h[j]?) ∧ ∀ id, o' = some id → h.length ≤ id := by
  obtain ⟨P, hP⟩ : ∃ P : V → Heap → Prop, P = fun r h' => ∃ v' o', r = .agg [v'] ∧ SL h' 1 v' o' xs ∧ h.length ≤ h'.length ∧ (∀ j, j < h.length → h'[j]? = h[j]?) ∧ ∀ id, o' = some id → h.length ≤ id := ⟨_, rfl⟩
  suffices hgo : ∃ r h', callW Φ loop_queue_int_own [.ptr l off] h = some (r, h') ∧ P r h' by
    obtain ⟨r, h', h1, h2⟩ := hgo
    rw [hP] at h2
    obtain ⟨v', o', rfl, h3⟩ := h2
    exact ⟨v', o', h', h1, h3⟩
  have hd : cs.drop off = v :: cs.drop (off + 1) := by
    obtain ⟨h1, rfl⟩ := List.getElem?_eq_some_iff.1 hv
    exact List.drop_eq_getElem_cons h1
  have hll := (List.getElem?_eq_some_iff.1 hl).1
  obtain ⟨H0, hH0⟩ : ∃ H0, H0 = h ++ [Ob.cells [.nils]] := ⟨_, rfl⟩
  have hs0 : SL H0 1 v o xs := hs.mono (fun id ho => by rw [hH0, List.getElem?_append_left (hs.lt ho)])
  have hl0 : H0.length = h.length + 1 := by rw [hH0]; simp
  obtain ⟨v', o', H1, c1, s1, n1, r1, w1⟩ := clone1_spec hs0 hlen
  have hc0 : ∀ k, cellsAt H0 (.ptr l k) = some (cs.drop k) := fun k => by simp [cellsAt, hH0, List.getElem?_append_left hll, hl]
  have e1 : H1[h.length]? = some (.cells [.nils]) := by rw [r1 _ (by omega), hH0]; simp
  have hb : evBuild H1 [.nils] [(0, 1, v')] = some (.agg [v'], H1) := by simp [evBuild, placeParts, s1.cell.2, s1.cell.1, setRange]
  have hst : evStoreV H1 1 (.ptr h.length 0) (.agg [v']) = some (V.non, H1.set h.length (.cells [v'])) := by
    simp [evStoreV, evStore, e1, V.cells, s1.cell.1, setRange]
  have hlt : h.length < H1.length := by omega
  have hfin : P (.agg [v']) (H1.set h.length (.cells [v'])) := by
    rw [hP]
    refine ⟨v', o', rfl, s1.mono fun id hid => ?_, by simp; omega, fun j hj => ?_, fun id hid => ?_⟩
    · have := w1 id hid
      rw [List.getElem?_set_ne (by omega)]
    · rw [List.getElem?_set_ne (by omega), r1 j (by omega), hH0, List.getElem?_append_left hj]
    · have := w1 id hid
      omega
  refine call_x loop_queue_int_own.Φ rfl (Nat.le_of_ble_eq_true rfl) (fun env he g => ?_)
  have g0 := g 0 (by simp)
  change eget env 0 = .ptr l off at g0
  clear g
  simp [loop_queue_int_own.c] at he
  have hcr : cellsAt (H1.set h.length (.cells [v'])) (.ptr h.length 0) = some [v'] := by simp [cellsAt, hlt]
  simp [loop_queue_int_own.c, loop_queue_int_own.r0, loop_queue_int_own.r1, g0, he, okV, fV_eq, evNilchk, ← hH0, hc0, hd, c1, hb, hst, faddrV, ofCells, hcr]
  exact hfin

/-- (*atomic.Int64).Store -/
theorem st_spec {h : Heap} {l off : Nat} {cs : List V} {m : Int} (hl : h[l]? = some (.cells cs)) (hv : cs[off]? = some (.int .i64 m)) (n : Int) :
    callW Φ sync_atomic_Int64_Store [.ptr l off, .int .i64 n] h = some (.tup [], h.set l (.cells (cs.set off (.int .i64 n)))) := by
  have hoff : off < cs.length := (List.getElem?_eq_some_iff.1 hv).1
  have hd : cs.drop off = .int .i64 m :: cs.drop (off + 1) := by
    obtain ⟨h1, h2⟩ := List.getElem?_eq_some_iff.1 hv
    rw [← h2]
    exact List.drop_eq_getElem_cons h1
  refine callW_rough sync_atomic_Int64_Store.Φ rfl (body_q (Nat.le_of_ble_eq_true rfl) (fun env he h0 => ?_))
  have g0 := h0 0 (by simp)
  have g1 := h0 1 (by simp)
  change eget env 0 = .ptr l off at g0
  change eget env 1 = .int .i64 n at g1
  clear h0
  simp [primStore] at he
  have hst := store_cell hl hoff (x := .int .i64 n) rfl rfl
  simp [primStore, g0, g1, he, okV, fV_eq, evAtst, cellsAt, hl, hd, hst]

/-- A fork on its way: what it has of the sources. -/
def forkL (L : LS) (i : Nat) : LS := ⟨fun k => if k ≤ i then L.q k else [], L.tm, L.clock, 0, false⟩
theorem forkL_cont (L : LS) (i : Nat) : ∀ k, k < 10 → k ≠ i + 1 → cont (forkL L (i + 1)) k = cont (forkL L i) k := fun k hk hne => by
  unfold cont forkL
  by_cases e : k = 9
  · rw [if_pos e, if_pos e]
  · rw [if_neg e, if_neg e]
    by_cases h : k ≤ i
    · have : k ≤ i + 1 := by omega
      simp only [if_pos h, if_pos this]
    · have : ¬ k ≤ i + 1 := by omega
      simp only [if_neg h, if_neg this]
end Go.Proofs.Lp

namespace Go.Proofs.Lp
open Go Go.Ev
set_option linter.unusedVariables false
set_option linter.unusedSimpArgs false

/-- Its end: the numbers given, and Close. -/
def FkP (h : Heap) (L : LS) (r : V) (h' : Heap) : Prop := ∃ m g, r = .ptr m 0 ∧ h.length ≤ m ∧ Rep h' m L g ∧ (∀ j, j < h.length → h'[j]? = h[j]?) ∧ ∀ j, own m g j → h.length ≤ j

set_option maxHeartbeats 8000000 in
set_option maxRecDepth 8000 in
theorem fork3 {P : V → Heap → Prop} {h : Heap} {l : Nat} {L : LS} {f : Nat → Option Nat} (hP : ∀ r h', FkP h L r h' → P r h') (hr : Rep h l L f) (hsh : L.closed = true → L.tm = [] ∧ idle L)
    {hp : Heap} {m : Nat} {fm : Nat → Option Nat} (hm : Rep hp m (forkL L 8) fm) (hk : ∀ j, j < h.length → hp[j]? = h[j]?) (ho : ∀ j, own m fm j → h.length ≤ j)
    {env : List V} (he : env.length = 52) (g0 : eget env 0 = .ptr l 0) (g3 : eget env 3 = .ptr m 0) :
    WK (callW Φ) none (FinX [.tmp 2] P) [.c (fst (snd (snd (snd (snd loop_Loop_Fork.c.body))))), .c (snd (snd (snd (snd (snd loop_Loop_Fork.c.body)))))] { env := env, marks := [], heap := hp } := by
  obtain ⟨vm, hm⟩ := hm
  have hrp : Rep hp l L f := hr.mono fun j hj => hk j (hr.lt hj)
  obtain ⟨v, hl, _, _⟩ := hrp
  have hld := ld_spec (off := 11) (m := L.given) hl rfl
  have hst := st_spec (off := 11) (m := 0) hm.1 rfl L.given
  have hlm : h.length ≤ m := ho m (.inl rfl)
  have hne : m ≠ l := fun e => by have := hr.lt (j := l) (.inl rfl); omega
  obtain ⟨L2, hL2⟩ : ∃ L2 : LS, L2 = { forkL L 8 with given := L.given } := ⟨_, rfl⟩
  obtain ⟨r2, f2⟩ := hm.scal (L' := L2) (fun k hk => by rw [hL2]; rfl)
  have hcs : (cellsL vm (forkL L 8)).set 11 (.int .i64 L.given) = cellsL vm L2 := by rw [hL2]; rfl
  rw [hcs] at hst
  obtain ⟨H, hH⟩ : ∃ H, H = hp.set m (.cells (cellsL vm L2)) := ⟨_, rfl⟩
  rw [← hH] at hst r2 f2
  have hkH : ∀ j, j < h.length → H[j]? = h[j]? := fun j hj => by rw [hH, List.getElem?_set_ne (by omega)]; exact hk j hj
  have hcl : cellsAt H (.ptr l 15) = some [.bool L.closed] := by
    have : H[l]? = hp[l]? := by rw [hH, List.getElem?_set_ne hne]
    simp [cellsAt, this, hl, cellsL]
  have rep2 : Rep H m L2 fm := ⟨_, r2⟩
  simp only [fst, snd, loop_Loop_Fork.c]
  refine kDraw1 loop_Loop_Fork.r10.ord ?_
  cases hc : L.closed with
  | false =>
    rw [hc] at hcl
    have rep3 : Rep H m L fm := rep2.congr (fun k hk => (by have h8 : k ≤ 8 := (by omega); rw [hL2]; simp [forkL, h8])) (by rw [hL2]; rfl) (by rw [hL2]; rfl) (by rw [hL2]) (by rw [hL2, hc]; rfl)
    simp [loop_Loop_Fork.r10, loop_Loop_Fork.r11, loop_Loop_Fork.r13, List.filterMap_cons, g0, g3, he, okV, fV_eq, evNilchk, faddrV, hld, hst, hcl, ofCells]
    exact hP _ _ ⟨m, fm, rfl, hlm, rep3, hkH, ho⟩
  | true =>
    rw [hc] at hcl
    obtain ⟨h3, f3, c3, r3, fr3⟩ := close_spec rep2
    have e2 : L2.closed = false := by rw [hL2]; rfl
    rw [e2] at c3
    obtain ⟨t1, t2⟩ := hsh hc
    have rep3 : Rep h3 m L f3 := r3.congr (fun k hk => by rw [t2 k]; simp [closeL, e2]) (by rw [t1]; simp [closeL, e2]) (by simp [closeL, e2]; rw [hL2]; rfl) (by simp [closeL, e2]; rw [hL2]) (by simp [closeL, e2, hc])
    simp [loop_Loop_Fork.r10, loop_Loop_Fork.r11, loop_Loop_Fork.r12, loop_Loop_Fork.r13, List.filterMap_cons, g0, g3, he, okV, fV_eq, evNilchk, faddrV, hld, hst, hcl, ofCells, c3]
    refine hP _ _ ⟨m, f3, rfl, hlm, rep3, fun j hj => ?_, fun j hj => ?_⟩
    · rw [fr3.rest j (by have := f2.len; have := hm.1; have := (List.getElem?_eq_some_iff.1 r2.1).1; omega) (fun hh => by have := ho j hh; omega)]
      exact hkH j hj
    · rcases fr3.new j hj with q | q
      · exact ho j q
      · have := (List.getElem?_eq_some_iff.1 r2.1).1
        omega
end Go.Proofs.Lp

namespace Go.Proofs.Lp
open Go Go.Ev
set_option linter.unusedVariables false
set_option linter.unusedSimpArgs false

theorem agg1_store {h : Heap} {p v r : V} {h' : Heap} (hv : v.cells = [v]) (hs : evStoreV h 1 p v = some (r, h')) : evStoreV h 1 p (.agg [v]) = some (r, h') := by
  rw [← hs]
  simp only [evStoreV, hv]
  rfl

set_option maxHeartbeats 8000000 in
set_option maxRecDepth 8000 in
theorem fork2 {P : V → Heap → Prop} {h : Heap} {l : Nat} {L : LS} {f : Nat → Option Nat} (hP : ∀ r h', FkP h L r h' → P r h') (hr : Rep h l L f) (ht : tot L < 2 ^ 40) (hsh : L.closed = true → L.tm = [] ∧ idle L)
    {hp : Heap} {m : Nat} {fm : Nat → Option Nat} (hm : Rep hp m (forkL L 0) fm) (hk : ∀ j, j < h.length → hp[j]? = h[j]?) (ho : ∀ j, own m fm j → h.length ≤ j)
    {env : List V} (he : env.length = 52) (g0 : eget env 0 = .ptr l 0) (g3 : eget env 3 = .ptr m 0) :
    WK (callW Φ) none (FinX [.tmp 2] P) [.o loop_Loop_Fork.r4, .c (snd (fst (snd (snd (snd loop_Loop_Fork.c.body))))), .c (snd (snd (snd (snd loop_Loop_Fork.c.body))))] { env := env, marks := [], heap := hp } := by
  have hlm : h.length ≤ m := ho m (.inl rfl)
  simp only [fst, snd, loop_Loop_Fork.c]
  simp [loop_Loop_Fork.r4, he, okV, fV_eq]
  refine kLoop (fun k s => ∃ i : Nat, k = 8 - i ∧ i ≤ 8 ∧ s.env.length = 52 ∧ eget s.env 0 = .ptr l 0 ∧ eget s.env 3 = .ptr m 0 ∧ eget s.env 22 = .int .i64 i ∧ s.marks = [] ∧
      ∃ fm, Rep s.heap m (forkL L i) fm ∧ (∀ j, j < h.length → s.heap[j]? = h[j]?) ∧ ∀ j, own m fm j → h.length ≤ j) 8 ⟨0, by simp [g0, g3, he]; exact ⟨fm, hm, hk, ho⟩⟩ ?_
  clear hm hk ho he g0 g3
  rintro k ⟨e, mk, hq⟩ ⟨i, rfl, hi, he, k0, k3, k22, hmk, fm, ⟨vm, hm⟩, hk, ho⟩
  simp only at he k0 k3 k22 hmk hm hk
  obtain rfl := hmk
  by_cases hlt : i < 8
  · have hi8 : (i : Int) < 8 := by omega
    have h0i : (0 : Int) ≤ (i : Int) := by omega
    have hw1 : IntKind.i64.wrap ((i : Int) + 1) = ((i + 1 : Nat) : Int) := by rw [Ev.wrap64] <;> omega
    obtain ⟨v, hl, hs, hd⟩ : Rep hq l L f := hr.mono fun j hj => hk j (hr.lt hj)
    have hsi : SL hq 1 (v (i + 1)) (f (i + 1)) ((L.q (i + 1)).map cI) := RepV.sq ⟨hl, hs, hd⟩ (by omega)
    have hql := q_le L (i := i) (by omega)
    obtain ⟨v', o', h2, c2, s2, n2, r2, w2⟩ := own_spec hl (cells_get v L (i := i + 1) (by omega)) hsi (by rw [List.length_map]; unfold tot at ht; omega)
    have hia : ∀ H a, evIaddrA H 8 1 (.ptr a 1) (.int .i64 i) = some (.ptr a (i + 1), H) := fun H a => by
      simp [evIaddrA, hi8, okV, fV_eq, Nat.add_comm]
    have hml := (List.getElem?_eq_some_iff.1 hm.1).1
    have hcell : cont (forkL L (i + 1)) (i + 1) = (L.q (i + 1)).map cI := by
      have h9 : ¬ (i + 1 = 9) := by omega
      simp [cont, forkL, h9]
    have hsz : szi (i + 1) = 1 := by simp [szi]; omega
    obtain ⟨st, r3, f3⟩ := hm.put (i := i + 1) (L' := forkL L (i + 1)) (h2 := h2) (v' := v') (o' := o') (by omega) (by rw [r2 m hml]; exact hm.1) (by rw [hcell, hsz]; exact s2)
      (fun e => by have := w2 m e; omega) (forkL_cont L i) (fun w => rfl) n2 (fun j hj _ _ => r2 j hj) (fun id hid => .inr (w2 id hid))
    have st' := agg1_store s2.cell.2 st
    obtain ⟨H, hH⟩ : ∃ H, H = h2.set m (.cells (cellsL (upv vm (i + 1) v') (forkL L i))) := ⟨_, rfl⟩
    rw [← hH] at st' r3 f3
    simp [loop_Loop_Fork.b9, loop_Loop_Fork.r5, loop_Loop_Fork.r6, k0, k3, k22, he, okV, fV_eq, hi8]
    refine kDraw1 loop_Loop_Fork.r7.ord ?_
    simp [loop_Loop_Fork.r7, loop_Loop_Fork.r8, List.filterMap_cons, k0, k3, k22, he, okV, fV_eq, evNilchk, faddrV, hia, c2, st']
    refine ⟨8 - (i + 1), by omega, i + 1, rfl, by omega, by simpa using hw1, _, ⟨_, r3⟩, fun j hj => ?_, fun j hj => ?_⟩
    · have hjq : j < hq.length := by omega
      rw [hH, List.getElem?_set_ne (by omega), r2 j hjq]
      exact hk j hj
    · rcases f3.new j hj with q | q
      · exact ho j q
      · omega
  · have h8 : i = 8 := by omega
    subst h8
    simp [loop_Loop_Fork.b9, loop_Loop_Fork.r5, k0, k3, k22, he, okV, fV_eq]
    have := fork3 hP hr hsh ⟨vm, hm⟩ hk ho (env := e.set 23 (.bool false)) (by simp [he]) (by simp [k0]) (by simp [k3])
    simpa only [fst, snd, loop_Loop_Fork.c, kSeq] using this
end Go.Proofs.Lp

namespace Go.Proofs.Lp
open Go Go.Ev
set_option linter.unusedVariables false
set_option linter.unusedSimpArgs false

theorem isC_nils : V.isCell .nils = true := rfl
theorem isC_int (k : IntKind) (n : Int) : V.isCell (.int k n) = true := rfl
theorem isC_bool (b : Bool) : V.isCell (.bool b) = true := rfl
theorem cel_agg (l : List V) : V.cells (.agg l) = l := rfl
theorem cel_int (k : IntKind) (n : Int) : V.cells (.int k n) = [.int k n] := rfl

set_option maxHeartbeats 8000000 in
set_option maxRecDepth 8000 in
theorem fork1 {h : Heap} {l : Nat} {L : LS} {f : Nat → Option Nat} (hr : Rep h l L f) (ht : tot L < 2 ^ 40)
    {env : List V} (he : env.length = 52) (g0 : eget env 0 = .ptr l 0) :
    WK (callW Φ) none (fun e s' => e = .normal ∧ (∃ m fm, eget s'.env 3 = .ptr m 0 ∧ Rep s'.heap m (forkL L 0) fm ∧ (∀ j, j < h.length → s'.heap[j]? = h[j]?) ∧ ∀ j, own m fm j → h.length ≤ j) ∧ s'.marks = [] ∧ s'.env.length = 52 ∧ eget s'.env 0 = .ptr l 0)
      [.c (fst (snd (snd loop_Loop_Fork.c.body)))] { env := env, marks := [], heap := h } := by
  obtain ⟨v, hr⟩ := hr
  have hq0 : (L.q 0).length ≤ tot L := by unfold tot; omega
  have hqt : L.tm.length ≤ tot L := by unfold tot; omega
  have hll := (List.getElem?_eq_some_iff.1 hr.1).1
  obtain ⟨v0, o0, h1, c0, s0, n0, r0, w0⟩ := own_spec (off := 0) hr.1 (cells_get v L (i := 0) (by decide)) (hr.sq (i := 0) (by decide)) (by rw [List.length_map]; omega)
  have hr1 := hr.mono r0
  obtain ⟨v9, o9, h2, c9, s9, n9, r9, w9⟩ := clone3_spec hr1.s9 (by rw [List.length_map]; omega)
  have hr2 := hr1.mono r9
  have t0 := hr.c9
  have t1 := hr1.c9
  have k0 : cellsAt h (.ptr l 10) = some [.int .i64 L.clock, .int .i64 L.given, .int .u32 (if L.closed then 1 else 0), .int .i32 0, .int .u32 0, .bool L.closed] := by simp [cellsAt, hr.1, cellsL]
  have k1 : cellsAt h1 (.ptr l 10) = some [.int .i64 L.clock, .int .i64 L.given, .int .u32 (if L.closed then 1 else 0), .int .i32 0, .int .u32 0, .bool L.closed] := by simp [cellsAt, hr1.1, cellsL]
  have k2 : cellsAt h2 (.ptr l 10) = some [.int .i64 L.clock, .int .i64 L.given, .int .u32 (if L.closed then 1 else 0), .int .i32 0, .int .u32 0, .bool L.closed] := by simp [cellsAt, hr2.1, cellsL]
  obtain ⟨C, hC⟩ : ∃ C : List V, C = [v0, .nils, .nils, .nils, .nils, .nils, .nils, .nils, .nils, v9, .int .i64 L.clock, .int .i64 0, .int .u32 0, .int .i32 0, .int .u32 0, .bool false] := ⟨_, rfl⟩
  have hb : evBuild h2 [.nils, .nils, .nils, .nils, .nils, .nils, .nils, .nils, .nils, .nils, .int .i64 0, .int .i64 0, .int .u32 0, .int .i32 0, .int .u32 0, .bool false] [(0, 1, .agg [v0]), (9, 1, v9), (10, 1, .int .i64 L.clock)] = some (.agg C, h2) := by
    rw [hC]
    simp [evBuild, placeParts, cel_agg, cel_int, isC_nils, isC_int, isC_bool, s0.cell.1, s9.cell.1, s9.cell.2, setRange]
  have hx : evBox h2 C = some (.ptr h2.length 0, h2 ++ [Ob.cells C]) := by
    rw [hC]
    simp [evBox, isC_nils, isC_int, isC_bool, s0.cell.1, s9.cell.1]
  have hCc : (V.agg C).cells = C := rfl
  have hrep : Rep (h2 ++ [Ob.cells C]) h2.length (forkL L 0) (fun k => if k = 0 then o0 else if k = 9 then o9 else none) := by
    refine ⟨fun k => if k = 0 then v0 else if k = 9 then v9 else .nils, by rw [hC]; simp [cellsL, forkL], fun i hi => ?_, fun i j id hi hj hfi hfj => ?_⟩
    · have keep : ∀ {sz v o xs}, SL h2 sz v o xs → SL (h2 ++ [Ob.cells C]) sz v o xs := fun s => s.mono fun id hid => by rw [List.getElem?_append_left (s.lt hid)]
      by_cases e0 : i = 0
      · subst e0
        simp only [if_true]
        exact keep (s0.mono fun id hid => r9 id (s0.lt hid))
      · by_cases e9 : i = 9
        · subst e9
          simp only [if_true]
          exact keep s9
        · simp only [if_neg e0, if_neg e9]
          have : ¬ i ≤ 0 := by omega
          exact .inl ⟨rfl, by simp [cont, e9, forkL, e0], rfl⟩
    · have key : ∀ i id, (if i = 0 then o0 else if i = 9 then o9 else none) = some id → (i = 0 ∧ o0 = some id) ∨ (i = 9 ∧ o9 = some id) := fun i id h => by
        by_cases e0 : i = 0
        · rw [if_pos e0] at h; exact .inl ⟨e0, h⟩
        · rw [if_neg e0] at h
          by_cases e9 : i = 9
          · rw [if_pos e9] at h; exact .inr ⟨e9, h⟩
          · rw [if_neg e9] at h; cases h
      rcases key i id hfi with ⟨a1, a2⟩ | ⟨a1, a2⟩ <;> rcases key j id hfj with ⟨b1, b2⟩ | ⟨b1, b2⟩
      · omega
      · have := s0.lt a2; have := w9 id b2; omega
      · have := s0.lt b2; have := w9 id a2; omega
      · omega
  have hfin : (∀ j, j < h.length → (h2 ++ [Ob.cells C])[j]? = h[j]?) ∧ ∀ j, own h2.length (fun k => if k = 0 then o0 else if k = 9 then o9 else none) j → h.length ≤ j := by
    refine ⟨fun j hj => by rw [List.getElem?_append_left (by omega), r9 j (by omega), r0 j hj], fun j hj => ?_⟩
    rcases hj with rfl | ⟨i, hi, hf⟩
    · omega
    · simp only at hf
      by_cases e0 : i = 0
      · rw [if_pos e0] at hf; exact w0 j hf
      · rw [if_neg e0] at hf
        by_cases e9 : i = 9
        · rw [if_pos e9] at hf; have := w9 j hf; omega
        · rw [if_neg e9] at hf; cases hf
  simp only [fst, snd, loop_Loop_Fork.c]
  refine kDraw2 loop_Loop_Fork.r3.ord ?_
  simp (config := { maxSteps := 5000000 }) [loop_Loop_Fork.r3, List.filterMap_cons, g0, he, okV, fV_eq, evNilchk, faddrV, c0, c9, t0, t1, k0, k1, k2, hb, hx, hCc, ofCells]
  refine ⟨?_, _, hrep, hfin.1, hfin.2⟩
  repeat' apply And.intro
  all_goals
    simp only [set_puts, puts_puts, List.cons_append, List.nil_append]
    exact puts_ext _ rfl rfl rfl rfl

set_option maxHeartbeats 8000000 in
set_option maxRecDepth 8000 in
theorem fork_spec {h : Heap} {l : Nat} {L : LS} {f : Nat → Option Nat} (hr : Rep h l L f) (ht : tot L < 2 ^ 40) (hsh : L.closed = true → L.tm = [] ∧ idle L) :
    ∃ m h' g, callW Φ loop_Loop_Fork [.ptr l 0] h = some (.ptr m 0, h') ∧ h.length ≤ m ∧ Rep h' m L g ∧ (∀ j, j < h.length → h'[j]? = h[j]?) ∧ ∀ j, own m g j → h.length ≤ j := by
  suffices hgo : ∃ r h', callW Φ loop_Loop_Fork [.ptr l 0] h = some (r, h') ∧ FkP h L r h' by
    obtain ⟨r, h', h1, m, g, rfl, h2⟩ := hgo
    exact ⟨m, h', g, h1, h2⟩
  refine call_x loop_Loop_Fork.Φ rfl (Nat.le_of_ble_eq_true rfl) (fun env he g => ?_)
  have g0 := g 0 (by simp)
  change eget env 0 = .ptr l 0 at g0
  clear g
  simp [loop_Loop_Fork.c] at he
  simp [loop_Loop_Fork.c, loop_Loop_Fork.r0, loop_Loop_Fork.r1, g0, he, okV, fV_eq, evEqn, eqnV, nilOf]
  refine kNormal (fork1 hr ht ?_ ?_) ?_
  · simp [he]
  · simp [g0]
  rintro ⟨e', mk, H⟩ ⟨⟨m, fm, k3, hm, hk, ho⟩, hmk, he', k0⟩
  simp only at k3 hm hk hmk he' k0
  obtain rfl := hmk
  have := fork2 (P := FkP h L) (fun r h' q => q) hr ht hsh hm hk ho he' k0 k3
  simpa only [fst, snd, loop_Loop_Fork.c, kSeq, kRegion] using this
end Go.Proofs.Lp
