/- The program's loop: Next. No conditions. -/
import Derived.Test.YtgfebbhjpgkdfaaLpI
namespace Go.Proofs.Lp
open Go Go.Ev
set_option linter.unusedVariables false
set_option linter.unusedSimpArgs false

theorem RepV.mono {h h' : Heap} {l : Nat} {L : LS} {f : Nat → Option Nat} {v : Nat → V} (hr : RepV h l L f v) (hh : ∀ j, j < h.length → h'[j]? = h[j]?) : RepV h' l L f v := by
  obtain ⟨h1, h2, h3⟩ := hr
  exact ⟨by rw [hh l (List.getElem?_eq_some_iff.1 h1).1]; exact h1, fun i hi => (h2 i hi).mono (fun id hid => hh id ((h2 i hi).lt hid)), h3⟩

theorem RepV.sq {h : Heap} {l : Nat} {L : LS} {f : Nat → Option Nat} {v : Nat → V} (hr : RepV h l L f v) {i : Nat} (hi : i < 9) : SL h 1 (v i) (f i) ((L.q i).map cI) := by
  have := hr.2.1 i (by omega)
  have hne : ¬ i = 9 := by omega
  simpa only [szi, cont, if_neg hne] using this

/-- take, where nothing is. -/
theorem take0_rep {h : Heap} {l : Nat} {L : LS} {f : Nat → Option Nat} {v : Nat → V} (hr : RepV h l L f v) {i : Nat} (hi : i < 9) (hq : L.q i = []) :
    callW Φ loop_queue_int_take [.ptr l i] h = some (.tup [.int .i64 0, .bool false], h) := by
  have hs := hr.sq hi
  rw [hq] at hs
  exact take_none hr.1 (cells_get v L (by omega)) hs
theorem take1_rep {h : Heap} {l : Nat} {L : LS} {f : Nat → Option Nat} {v : Nat → V} (hr : RepV h l L f v) {i : Nat} (hi : i < 9) {x : Int} {xs : List Int} (hq : L.q i = x :: xs) :
    ∃ h', callW Φ loop_queue_int_take [.ptr l i] h = some (.tup [.int .i64 x, .bool true], h') ∧ Rep h' l (upq L i xs) f ∧ Fr h h' l f f ∧ h'.length = h.length ∧ ∀ j, j ≠ l → h'[j]? = h[j]? := by
  have hs := hr.sq hi
  rw [hq] at hs
  have hll := (List.getElem?_eq_some_iff.1 hr.1).1
  obtain ⟨v', h1, h2⟩ := take_some hr.1 (cells_get v L (by omega)) hs
  rw [cells_set v L v' (by omega)] at h1 h2
  have hne : ¬ i = 9 := by omega
  obtain ⟨r1, r2⟩ := RepV.upd (h' := h.set l (.cells (cellsL (upv v i v') L))) hr (i := i) (by omega) (L' := upq L i xs) (v' := v') (o' := f i) (by simp [hll]; rfl)
    (by simp only [cont, szi, if_neg hne, upq, if_true]; exact h2) (fun k _ hk => by simp [cont, upq, hk]) (by simp) (fun j hj hjl _ => by rw [List.getElem?_set_ne (Ne.symm hjl)]) (fun id hid => .inl hid)
  have hf : (fun k => if k = i then f i else f k) = f := by
    funext k
    split
    · rename_i e; rw [e]
    · rfl
  rw [hf] at r1 r2
  exact ⟨_, h1, ⟨_, r1⟩, r2, by simp, fun j hj => by rw [List.getElem?_set_ne (Ne.symm hj)]⟩

/-- The sources that have a task. -/
def rdy (L : LS) : Nat → List Nat
  | 0 => []
  | i + 1 => rdy L i ++ (if L.q (i + 1) = [] then [] else [i])
theorem rdy_mem {L : LS} : ∀ {i s : Nat}, s ∈ rdy L i → s < i ∧ L.q (s + 1) ≠ []
  | 0, s, h => by cases h
  | i + 1, s, h => by
    simp only [rdy, List.mem_append] at h
    rcases h with h | h
    · obtain ⟨a, b⟩ := rdy_mem h
      exact ⟨by omega, b⟩
    · split at h
      · cases h
      · rename_i hq
        simp at h
        subst h
        exact ⟨by omega, hq⟩
theorem rdy_len (L : LS) : ∀ i, (rdy L i).length ≤ i
  | 0 => Nat.le_refl _
  | i + 1 => by
    have := rdy_len L i
    simp only [rdy, List.length_append]
    split <;> simp <;> omega

def pick (seed n : Int) : Nat := ((seed.tmod n + n).tmod n).toNat
theorem pick_lt {seed : Int} {n : Nat} (hn : 0 < n) : pick seed n < n ∧ ((pick seed n : Nat) : Int) = (seed.tmod n + n).tmod n ∧ -n < seed.tmod n ∧ seed.tmod n < n := by
  have h1 : -(n : Int) < seed.tmod n := by
    have := Int.lt_tmod_of_pos seed (b := n) (by omega)
    omega
  have h2 : seed.tmod n < n := Int.tmod_lt_of_pos seed (by omega)
  have h3 : 0 ≤ (seed.tmod n + n).tmod n := Int.tmod_nonneg _ (by omega)
  have h4 : (seed.tmod n + n).tmod n < n := Int.tmod_lt_of_pos _ (by omega)
  unfold pick
  omega

/-- What runs next: its kind, its source, its number; and what is left. -/
def nextR (L : LS) (seed : Int) : (Int × Int × Int) × LS :=
  match L.q 0 with
  | x :: xs => ((1, 0, x), upq L 0 xs)
  | [] =>
    match (rdy L 8)[pick seed (rdy L 8).length]? with
    | none => ((0, 0, 0), L)
    | some s =>
      match L.q (s + 1) with
      | [] => ((0, 0, 0), L)
      | x :: xs => ((2, s, x), upq L (s + 1) xs)

def cN (t : Int × Int × Int) : List V := [.int .u8 t.1, .int .i64 t.2.1, .int .i64 t.2.2]

set_option maxHeartbeats 4000000 in
theorem next_spec {h : Heap} {l : Nat} {L : LS} {f : Nat → Option Nat} (hr : Rep h l L f) (ht : tot L < 2 ^ 40) (seed : Int) :
    ∃ h' f', callW Φ loop_Loop_Next [.ptr l 0, .int .i64 seed] h = some (.agg (cN (nextR L seed).1), h') ∧ Rep h' l (nextR L seed).2 f' ∧ Fr h h' l f f' := by
  obtain ⟨v, hr⟩ := hr
  obtain ⟨P, hP⟩ : ∃ P : V → Heap → Prop, P = fun r h' => r = .agg (cN (nextR L seed).1) ∧ ∃ f', Rep h' l (nextR L seed).2 f' ∧ Fr h h' l f f' := ⟨_, rfl⟩
  suffices hgo : ∃ r h', callW Φ loop_Loop_Next [.ptr l 0, .int .i64 seed] h = some (r, h') ∧ P r h' by
    obtain ⟨r, h', h1, h2⟩ := hgo
    rw [hP] at h2
    obtain ⟨rfl, f', h3, h4⟩ := h2
    exact ⟨h', f', h1, h3, h4⟩
  have hll := (List.getElem?_eq_some_iff.1 hr.1).1
  obtain ⟨h0, hh0⟩ : ∃ h0, h0 = h ++ [Ob.cells [.int .u8 0, .int .i64 0, .int .i64 0]] := ⟨_, rfl⟩
  have hr0 := hr.ext [Ob.cells [.int .u8 0, .int .i64 0, .int .i64 0]]
  have hf0 := Fr.ext h l f [Ob.cells [.int .u8 0, .int .i64 0, .int .i64 0]]
  rw [← hh0] at hr0 hf0
  have hl0 : h0.length = h.length + 1 := by rw [hh0]; simp
  have hc0 : h0[h.length]? = some (.cells [.int .u8 0, .int .i64 0, .int .i64 0]) := by rw [hh0]; simp
  -- the end: the result is written
  have fin : ∀ (hp : Heap) (a b c : Int), hp[h.length]? = some (.cells [.int .u8 0, .int .i64 0, .int .i64 0]) →
      evStoreV hp 3 (.ptr h.length 0) (.agg (cN (a, b, c))) = some (V.non, hp.set h.length (.cells (cN (a, b, c)))) ∧
      cellsAt (hp.set h.length (.cells (cN (a, b, c)))) (.ptr h.length 0) = some (cN (a, b, c)) := by
    intro hp a b c hc
    have hlt : h.length < hp.length := (List.getElem?_eq_some_iff.1 hc).1
    refine ⟨by simp [evStoreV, evStore, hc, V.cells, V.isCell, setRange, cN], by simp [cellsAt, hlt]⟩
  have fin2 : ∀ (hp : Heap) (L' : LS) (f' : Nat → Option Nat) (t : Int × Int × Int), Rep hp l L' f' → Fr h hp l f f' → ¬ own l f' h.length → nextR L seed = (t, L') →
      P (.agg (cN t)) (hp.set h.length (.cells (cN t))) := by
    intro hp L' f' t hr' hfr hno hn
    rw [hP]
    refine ⟨by rw [hn], f', ?_, ?_⟩
    · rw [hn]
      exact hr'.mono (fun j hj => by rw [List.getElem?_set_ne (fun e => hno (by rw [e]; exact hj))])
    · exact ⟨by simpa using hfr.len, fun j hj hnj => by rw [List.getElem?_set_ne (by omega)]; exact hfr.rest j hj hnj, hfr.new⟩
  have hnown : ¬ own l f h.length := fun ho => by
    have := Rep.lt ⟨v, hr⟩ ho
    omega
  refine call_x loop_Loop_Next.Φ rfl (Nat.le_of_ble_eq_true rfl) (fun env he g => ?_)
  have g0 := g 0 (by simp)
  have g1 := g 1 (by simp)
  change eget env 0 = .ptr l 0 at g0
  change eget env 1 = .int .i64 seed at g1
  clear g
  simp [loop_Loop_Next.c] at he
  have hal : evBox h [.int .u8 0, .int .i64 0, .int .i64 0] = some (.ptr h.length 0, h0) := by simp [evBox, V.isCell, hh0]
  cases hq0 : L.q 0 with
  | cons x xs =>
    obtain ⟨h1, hc, hr1, hfr1, hl1, hsame1⟩ := take1_rep hr0 (i := 0) (by decide) hq0
    have hn : nextR L seed = ((1, 0, x), upq L 0 xs) := by simp only [nextR, hq0]
    obtain ⟨s1, s2⟩ := fin h1 1 0 x (by rw [hsame1 _ (by omega)]; exact hc0)
    have hp := fin2 h1 _ f (1, 0, x) hr1 (hf0.trans hfr1) hnown hn
    simp only [cN] at s1 s2 hp
    simp [loop_Loop_Next.c, loop_Loop_Next.r0, loop_Loop_Next.r1, loop_Loop_Next.r3, loop_Loop_Next.r4, loop_Loop_Next.r5, g0, g1, he, okV, fV_eq, evNilchk, evEqn, eqnV, nilOf, ← hh0, hc, evExt, evBuild, placeParts, setRange, V.cells, V.isCell, s1, s2, hp, ofCells]
  | nil =>
    have hc := take0_rep hr0 (i := 0) (by decide) hq0
    simp [loop_Loop_Next.c, loop_Loop_Next.r0, loop_Loop_Next.r1, loop_Loop_Next.r3, loop_Loop_Next.r4, loop_Loop_Next.r6, loop_Loop_Next.r7, g0, g1, he, okV, fV_eq, evNilchk, evEqn, eqnV, nilOf, ← hh0, hc, evExt]
    refine kLoop (fun m s => ∃ i : Nat, m = 8 - i ∧ i ≤ 8 ∧ s.env.length = 68 ∧ eget s.env 0 = .ptr l 0 ∧ eget s.env 1 = .int .i64 seed ∧ eget s.env 4 = .ptr h.length 0 ∧ eget s.env 26 = .int .i64 i ∧ s.marks = [] ∧
      (∃ v7 o7, eget s.env 7 = v7 ∧ SL s.heap 1 v7 o7 ((rdy L i).map fun n : Nat => cI (n : Int)) ∧ ∀ id, o7 = some id → h0.length ≤ id) ∧ h0.length ≤ s.heap.length ∧ ∀ j, j < h0.length → s.heap[j]? = h0[j]?) 8 ⟨0, by
        simp [g0, g1, he]
        exact ⟨none, .inl ⟨rfl, rfl, rfl⟩, fun id h => by cases h⟩⟩ ?_
    rintro m ⟨e, mk, hp⟩ ⟨i, rfl, hi, he, k0, k1, k4, k26, hm, ⟨v7, o7, k7, hs7, ho7⟩, hlen, hsame⟩
    simp only at he k0 k1 k4 k26 hm k7 hs7 hlen hsame
    subst hm
    have hrp := hr0.mono hsame
    have hfp : Fr h hp l f f := by
      refine hf0.trans ⟨hlen, fun j hj _ => hsame j hj, fun j h => .inl h⟩
    have hcp : hp[h.length]? = some (.cells [.int .u8 0, .int .i64 0, .int .i64 0]) := by rw [hsame _ (by omega)]; exact hc0
    by_cases hlt : i < 8
    · have hi8 : (i : Int) < 8 := by omega
      have hia : evIaddrA hp 8 1 (.ptr l 1) (.int .i64 i) = some (.ptr l (i + 1), hp) := by simp [evIaddrA, hi8, okV, fV_eq, Nat.add_comm]
      have hw1 : IntKind.i64.wrap ((i : Int) + 1) = ((i + 1 : Nat) : Int) := by rw [Ev.wrap64] <;> omega
      have hln := len_spec hrp.1 (cells_get v L (i := i + 1) (by omega)) (hrp.sq (i := i + 1) (by omega))
      rw [List.length_map] at hln
      by_cases hqi : L.q (i + 1) = []
      · rw [hqi] at hln
        have hrd : rdy L (i + 1) = rdy L i := by simp [rdy, hqi]
        simp [loop_Loop_Next.b13, loop_Loop_Next.r8, loop_Loop_Next.r9, loop_Loop_Next.r10, loop_Loop_Next.r12, k0, k1, k4, k7, k26, he, okV, fV_eq, evNilchk, hi8, hia, hln]
        exact ⟨8 - (i + 1), by omega, i + 1, rfl, by omega, by simpa using hw1, ⟨o7, by rw [hrd]; exact hs7, ho7⟩, hlen, hsame⟩
      · have hpos : (0 : Int) < ((L.q (i + 1)).length : Int) := by
          have : 0 < (L.q (i + 1)).length := List.length_pos_iff.2 hqi
          omega
        have hpos' : 0 < (L.q (i + 1)).length := List.length_pos_iff.2 hqi
        have hrd : rdy L (i + 1) = rdy L i ++ [i] := by simp [rdy, hqi]
        obtain ⟨h1, hh1⟩ : ∃ h1, h1 = hp ++ [Ob.row 1 [cI (i : Int)] 0 true] := ⟨_, rfl⟩
        have hbs : evBslice hp [.int .i64 0] 1 1 [(0, .int .i64 i)] = some (.sl hp.length 0 0 1, h1) := by
          simp [evBslice, placeParts, V.cells, V.isCell, setRange, chunks, hh1, cI]
        have hs71 : SL h1 1 v7 o7 ((rdy L i).map fun n : Nat => cI (n : Int)) := hs7.mono (fun id ho => by rw [hh1, List.getElem?_append_left (hs7.lt ho)])
        have hrl := rdy_len L i
        obtain ⟨v', o', h2, happ, hs2, hl2, hrest2, hnew2⟩ := hs71.app (by_ := 8) (e := cI (i : Int)) (by intro e he; simp at he; subst he; exact ⟨rfl, rfl, rfl⟩) (q := .sl hp.length 0 0 1) (by simp [elemsOf, hh1]) (by simp; unfold roomB; omega)
        have hl1 : h1.length = hp.length + 1 := by rw [hh1]; simp
        simp [loop_Loop_Next.b13, loop_Loop_Next.r8, loop_Loop_Next.r9, loop_Loop_Next.r10, loop_Loop_Next.r11, loop_Loop_Next.r12, k0, k1, k4, k7, k26, he, okV, fV_eq, evNilchk, hi8, hia, hln, hpos, hpos', hbs, happ]
        refine ⟨8 - (i + 1), by omega, i + 1, rfl, by omega, by simpa using hw1, ⟨o', by rw [hrd, List.map_append]; exact hs2, fun id hid => ?_⟩, by omega, fun j hj => ?_⟩
        · rcases hnew2 id hid with q | q
          · exact ho7 id q
          · omega
        · rw [hrest2 j (by omega) (fun e => by have := ho7 j e; omega), hh1, List.getElem?_append_left (by omega)]
          exact hsame j hj
    · have : i = 8 := by omega
      subst this
      have hln := hs7.len hp
      rw [List.length_map] at hln
      have hrl := rdy_len L 8
      cases hrd : rdy L 8 with
      | nil =>
        rw [hrd] at hln
        have hn : nextR L seed = ((0, 0, 0), L) := by simp only [nextR, hq0, hrd, List.getElem?_nil]
        obtain ⟨s1, s2⟩ := fin hp 0 0 0 hcp
        have hpp := fin2 hp _ f (0, 0, 0) ⟨v, hrp⟩ hfp hnown hn
        simp only [cN] at s1 s2 hpp
        simp [loop_Loop_Next.b13, loop_Loop_Next.r8, loop_Loop_Next.r14, loop_Loop_Next.r15, loop_Loop_Next.r16, k0, k1, k4, k7, k26, he, okV, fV_eq, evNilchk, hln, evBuild, placeParts, s1, s2, hpp, ofCells]
      | cons s0 ss =>
        obtain ⟨n, hn⟩ : ∃ n, n = (rdy L 8).length := ⟨_, rfl⟩
        have hn0 : 0 < n := by rw [hn, hrd]; simp
        rw [← hn] at hln hrl
        obtain ⟨p1, p2, p3, p4⟩ := pick_lt (seed := seed) hn0
        obtain ⟨s, hs⟩ : ∃ s, (rdy L 8)[pick seed n]? = some s := ⟨_, List.getElem?_eq_getElem (by omega)⟩
        obtain ⟨m1, m2⟩ := rdy_mem (List.mem_of_getElem? hs)
        obtain ⟨id1, ep1, k, ha, ho, hcl⟩ := hs7.at (i := pick seed n) (e := cI (s : Int)) (by rw [List.getElem?_map, hs]; rfl)
        have hcd := hcl 0
        simp only [cI, List.drop_zero] at hcd
        rw [p2] at ha
        have hnn : ¬ (n : Int) = 0 := by omega
        have hnb : ((n : Int) == 0) = false := by simpa using hnn
        have hwn : IntKind.i64.wrap (seed.tmod n + n) = seed.tmod n + n := by rw [Ev.wrap64] <;> omega
        have hb1 : binV .rem (.int .i64 seed) (.int .i64 n) = some (.int .i64 (seed.tmod n)) := by simp only [binV, if_true, if_neg hnn]
        have hb2 : binV .rem (.int .i64 (seed.tmod n + n)) (.int .i64 n) = some (.int .i64 ((seed.tmod n + n).tmod n)) := by simp only [binV, if_true, if_neg hnn]
        obtain ⟨x, xs, hx⟩ : ∃ x xs, L.q (s + 1) = x :: xs := by
          cases hq : L.q (s + 1) with
          | nil => exact absurd hq m2
          | cons x xs => exact ⟨x, xs, rfl⟩
        have hi8 : (s : Int) < 8 := by omega
        have hia : evIaddrA hp 8 1 (.ptr l 1) (.int .i64 s) = some (.ptr l (s + 1), hp) := by simp [evIaddrA, hi8, okV, fV_eq, Nat.add_comm]
        obtain ⟨h1, hc1, hr1, hfr1, hl1, hsame1⟩ := take1_rep hrp (i := s + 1) (by omega) hx
        have hnx : nextR L seed = ((2, (s : Int), x), upq L (s + 1) xs) := by simp only [nextR, hq0, ← hn, hs, hx]
        obtain ⟨s1, s2⟩ := fin h1 2 s x (by rw [hsame1 _ (by omega)]; exact hcp)
        have hpp := fin2 h1 _ f (2, (s : Int), x) hr1 (hfp.trans hfr1) hnown hnx
        simp only [cN] at s1 s2 hpp
        simp [loop_Loop_Next.b13, loop_Loop_Next.r8, loop_Loop_Next.r14, loop_Loop_Next.r15, loop_Loop_Next.r17, loop_Loop_Next.r18, loop_Loop_Next.r19, k0, k1, k4, k7, k26, he, okV, fV_eq, evNilchk, hln, hnn, hnb, hb1, hb2, hwn, ha, hcd, hia, hc1, evExt, evBuild, placeParts, setRange, V.cells, V.isCell, s1, s2, hpp, ofCells]
end Go.Proofs.Lp
