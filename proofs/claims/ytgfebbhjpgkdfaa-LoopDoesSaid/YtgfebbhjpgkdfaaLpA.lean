/- Slices in the heap; queues. No conditions. -/
import Derived.Test.YtgfebbhjpgkdfaaLpC
import Derived.Test.YtgfebbhjpgkdfaaE07
namespace Go.Proofs.Lp
open Go Go.Ev
set_option linter.unusedVariables false
set_option linter.unusedSimpArgs false

def cI (n : Int) : List V := [.int .i64 n]
structure Tm where
  num : Int
  due : Int
  id : Int
def cT (t : Tm) : List V := [.int .i64 t.num, .int .i64 t.due, .int .i64 t.id]

/-- A row of plain cells. -/
def plain (sz : Nat) (xs : List (List V)) : Prop := ∀ e ∈ xs, e.length = sz ∧ e.all V.isCell = true ∧ e.all scal = true

/-- What a slice shows, and where it lies. -/
def SL (h : Heap) (sz : Nat) (v : V) (o : Option Nat) (xs : List (List V)) : Prop :=
  (v = .nils ∧ xs = [] ∧ o = none) ∨
  ∃ id ep pre post, o = some id ∧ v = .sl id ep pre.length xs.length ∧ h[id]? = some (.row sz (pre ++ xs ++ post) ep true) ∧ plain sz (pre ++ xs ++ post)

theorem SL.mono {h h' : Heap} {sz : Nat} {v : V} {o : Option Nat} {xs : List (List V)} (hs : SL h sz v o xs) (hh : ∀ id, o = some id → h'[id]? = h[id]?) : SL h' sz v o xs := by
  rcases hs with hs | ⟨id, ep, pre, post, ho, hv, hr, hp⟩
  · exact .inl hs
  · exact .inr ⟨id, ep, pre, post, ho, hv, by rw [hh id ho]; exact hr, hp⟩

theorem SL.lt {h : Heap} {sz : Nat} {v : V} {o : Option Nat} {xs : List (List V)} (hs : SL h sz v o xs) {id : Nat} (ho : o = some id) : id < h.length := by
  rcases hs with ⟨_, _, h1⟩ | ⟨id', ep, pre, post, h1, hv, hr, hp⟩
  · rw [h1] at ho; cases ho
  · rw [h1] at ho; cases ho
    exact (List.getElem?_eq_some_iff.1 hr).1

theorem SL.len {h : Heap} {sz : Nat} {v : V} {o : Option Nat} {xs : List (List V)} (hs : SL h sz v o xs) (h2 : Heap) : evLen h2 .l v = some (.int .i64 xs.length, h2) := by
  rcases hs with ⟨rfl, rfl, _⟩ | ⟨id, ep, pre, post, _, rfl, _, _⟩ <;> simp [evLen, lenV, fNat_eq]

theorem SL.pl {h : Heap} {sz : Nat} {v : V} {o : Option Nat} {xs : List (List V)} (hs : SL h sz v o xs) : plain sz xs := by
  rcases hs with ⟨_, rfl, _⟩ | ⟨id, ep, pre, post, _, _, _, hp⟩
  · intro e he; cases he
  · exact fun e he => hp e (by simp [he])

/-- The heap but for one row: as it was; what is new lies behind. -/
def Same1 (h h' : Heap) (o o' : Option Nat) : Prop := h.length ≤ h'.length ∧ (∀ j, j < h.length → o ≠ some j → h'[j]? = h[j]?) ∧ ∀ id, o' = some id → o = some id ∨ h.length ≤ id

/-- One more element, behind. -/
theorem SL.app {h : Heap} {sz by_ : Nat} {v : V} {o : Option Nat} {xs : List (List V)} (hs : SL h sz v o xs) {e : List V} (he : plain sz [e]) {q : V} (hq : elemsOf h q = some [e]) (hroom : (xs.length + 1) * by_ ≤ roomB) :
    ∃ v' o' h', evApp h sz by_ v q = some (v', h') ∧ SL h' sz v' o' (xs ++ [e]) ∧ Same1 h h' o o' := by
  have hsz : szOk sz [e] = true := by simp [szOk]; exact (he e (by simp)).1
  rcases hs with ⟨rfl, rfl, rfl⟩ | ⟨id, ep, pre, post, rfl, rfl, hr, hp⟩
  · refine ⟨.sl h.length 0 0 1, some h.length, h ++ [.row sz [e] 0 true], ?_, .inr ⟨h.length, 0, [], [], rfl, rfl, by simp, by simpa using he⟩, by simp, fun j hj _ => by rw [List.getElem?_append_left hj], fun id hid => by cases hid; exact .inr (Nat.le_refl _)⟩
    simp only [List.length_nil, Nat.zero_add, Nat.one_mul] at hroom
    simp [evApp, hq, hroom, hsz, fNat_eq]
  · have hlt : id < h.length := (List.getElem?_eq_some_iff.1 hr).1
    have hpe : plain sz (pre ++ (xs ++ [e]) ++ []) := by
      intro y hy
      simp only [List.append_nil, List.mem_append, List.mem_singleton] at hy
      rcases hy with hy | hy | hy
      · exact hp y (by simp [hy])
      · exact hp y (by simp [hy])
      · exact he y (by simp [hy])
    cases post with
    | nil =>
      refine ⟨.sl id (ep + 1) pre.length (xs.length + 1), some id, h.set id (.row sz (pre ++ xs ++ [] ++ [e]) (ep + 1) true), ?_,
        .inr ⟨id, ep + 1, pre, [], rfl, by simp, by simp [hlt], hpe⟩, by simp, fun j hj hne => by rw [List.getElem?_set_ne (fun e => hne (by rw [e]))], fun i hi => .inl hi⟩
      simp [evApp, hq, hr, hroom, hsz, fNat_eq]
    | cons y post =>
      have h1 : ¬ (pre.length + xs.length = (pre ++ xs ++ y :: post).length) := by simp
      have h2 : pre.length + xs.length + 1 ≤ (pre ++ xs ++ y :: post).length := by simp; omega
      have h3 : (pre ++ xs ++ y :: post).take (pre.length + xs.length) ++ [e] ++ (pre ++ xs ++ y :: post).drop (pre.length + xs.length + 1) = pre ++ (xs ++ [e]) ++ post := by
        have t1 : (pre ++ xs ++ y :: post).take (pre.length + xs.length) = pre ++ xs := List.take_left' (by simp)
        have t2 : (pre ++ xs ++ y :: post).drop (pre.length + xs.length + 1) = post := by
          rw [← List.drop_drop, List.drop_left' (by simp)]
          rfl
        rw [t1, t2]
        simp
      refine ⟨.sl id ep pre.length (xs.length + 1), some id, h.set id (.row sz (pre ++ (xs ++ [e]) ++ post) ep true), ?_,
        .inr ⟨id, ep, pre, post, rfl, by simp, by simp [hlt], fun z hz => ?_⟩, by simp, fun j hj hne => by rw [List.getElem?_set_ne (fun e => hne (by rw [e]))], fun i hi => .inl hi⟩
      · rw [← h3]
        simp only [evApp, hq, hr, List.length_singleton, hsz, true_and, hroom, and_true, if_true, if_neg h1, if_pos h2, setOb_eq, fNat_eq, if_pos (And.intro h2 trivial)]
      · rcases List.mem_append.1 hz with hz | hz
        · exact hpe z (by simpa using hz)
        · exact hp z (by simp [hz])

/-- The first one is away. -/
theorem SL.tail {h : Heap} {sz : Nat} {v : V} {o : Option Nat} {e : List V} {xs : List (List V)} (hs : SL h sz v o (e :: xs)) :
    ∃ v' p, iaddrV h sz v (.int .i64 0) = some p ∧ cellsAt h p = some e ∧ sliceL h sz v (some (.int .i64 1)) none = some v' ∧ SL h sz v' o xs := by
  rcases hs with ⟨_, h1, _⟩ | ⟨id, ep, pre, post, rfl, rfl, hr, hp⟩
  · cases h1
  · refine ⟨.sl id ep (pre.length + 1) xs.length, .eptr id ep pre.length 0, ?_, ?_, ?_, .inr ⟨id, ep, pre ++ [e], post, rfl, by simp, by simpa using hr, fun y hy => hp y (by simpa using hy)⟩⟩
    · simp [iaddrV, hr]
    · simp [cellsAt, hr]
    · have : (1 : Int) ≤ (xs.length : Int) + 1 := by omega
      simp [sliceL, hr, lohi, bound, this]

/-- A body, its end told with the heap. -/
theorem body_q {call : CallF} {cf : Cf} {args : List V} {h : Heap} {r : V × Heap} (hn : args.length ≤ cf.ntmps)
    (hw : ∀ env : List V, env.length = cf.ntmps → (∀ i, i < args.length → eget env i = eget args i) → WK call none (FinQ cf.results r) [.c cf.body] { env := env, marks := [], heap := h }) :
    evBodyW call cf args h = some r := by
  have he := hw (args ++ List.replicate (cf.ntmps - args.length) V.non) (by simp; omega) (fun i hi => by simp [eget, List.getD_eq_getElem?_getD, List.getElem?_append_left hi])
  obtain ⟨e, s', h1, h2, ha, vs, h3, h4, h5⟩ := WC_of_WK he
  exact body_of hn ⟨e, s', h1, h2, ha, vs, h3, h4, h5⟩

attribute [simp] FinQ

/-- A cell that is written. -/
theorem store_cell {h : Heap} {l off : Nat} {cs : List V} {x : V} (hl : h[l]? = some (.cells cs)) (ho : off < cs.length) (hx : x.isCell = true) (hc : x.cells = [x]) : evStoreV h 1 (.ptr l off) x = some (V.non, h.set l (.cells (cs.set off x))) := by
  have : setRange cs off [x] = some (cs.set off x) := by
    simp only [setRange, List.length_singleton]
    rw [if_pos (by omega), List.set_eq_take_append_cons_drop, if_pos ho]
    simp
  simp [evStoreV, hc, hx, evStore, hl, this]

theorem SL.cell {h : Heap} {sz : Nat} {v : V} {o : Option Nat} {xs : List (List V)} (hs : SL h sz v o xs) : v.isCell = true ∧ v.cells = [v] := by
  rcases hs with ⟨rfl, _⟩ | ⟨_, _, _, _, _, rfl, _⟩ <;> exact ⟨rfl, rfl⟩

/-- queue.put -/
theorem put_spec {h : Heap} {l off : Nat} {cs : List V} {v : V} {o : Option Nat} {xs : List (List V)} (hl : h[l]? = some (.cells cs)) (hv : cs[off]? = some v) (hs : SL h 1 v o xs) (hroom : xs.length < 2 ^ 40) (x : Int) :
    ∃ v' o' h', callW Φ loop_queue_int_put [.ptr l off, .int .i64 x] h = some (.tup [], h') ∧ h'[l]? = some (.cells (cs.set off v')) ∧ SL h' 1 v' o' (xs ++ [cI x]) ∧ h.length ≤ h'.length ∧
      (∀ j, j < h.length → j ≠ l → o ≠ some j → h'[j]? = h[j]?) ∧ ∀ id, o' = some id → o = some id ∨ h.length ≤ id := by
  have hoff : off < cs.length := (List.getElem?_eq_some_iff.1 hv).1
  have hll : l < h.length := (List.getElem?_eq_some_iff.1 hl).1
  have hd : cs.drop off = v :: cs.drop (off + 1) := by
    obtain ⟨h1, rfl⟩ := List.getElem?_eq_some_iff.1 hv
    exact List.drop_eq_getElem_cons h1
  let h1 := h ++ [Ob.row 1 [cI x] 0 true]
  have hs1 : SL h1 1 v o xs := hs.mono (fun id ho => by simp only [h1]; rw [List.getElem?_append_left (hs.lt ho)])
  have hq : elemsOf h1 (.sl h.length 0 0 1) = some [cI x] := by simp [elemsOf, h1]
  obtain ⟨v', o', h2, ha, hs2, hf1, hf2, hf3⟩ := hs1.app (by_ := 8) (e := cI x) (by intro e he; simp at he; subst he; exact ⟨rfl, rfl, rfl⟩) hq (by unfold roomB; omega)
  have hl1 : h1[l]? = some (.cells cs) := by simp only [h1]; rw [List.getElem?_append_left hll]; exact hl
  have hol : o ≠ some l := by
    intro e
    rcases hs with ⟨_, _, h3⟩ | ⟨id, ep, pre, post, h3, _, hr, _⟩
    · rw [h3] at e; cases e
    · rw [h3] at e; cases e
      rw [hl] at hr; cases hr
  have hl2 : h2[l]? = some (.cells cs) := by rw [hf2 l (by simp [h1]; omega) hol]; exact hl1
  have hll2 : l < h2.length := (List.getElem?_eq_some_iff.1 hl2).1
  have hst := store_cell hl2 hoff hs2.cell.1 hs2.cell.2
  refine ⟨v', o', h2.set l (.cells (cs.set off v')), ?_, by simp [hll2], hs2.mono (fun id hid => ?_), ?_, fun j hj hne hno => ?_, fun id hid => ?_⟩
  · refine callW_rough loop_queue_int_put.Φ rfl (body_q (Nat.le_of_ble_eq_true rfl) (fun env he h0 => ?_))
    have g0 := h0 0 (by simp)
    have g1 := h0 1 (by simp)
    change eget env 0 = .ptr l off at g0
    change eget env 1 = .int .i64 x at g1
    clear h0
    simp [loop_queue_int_put.c] at he
    have hbs : evBslice h [.int .i64 0] 1 1 [(0, .int .i64 x)] = some (.sl h.length 0 0 1, h1) := by
      simp [evBslice, placeParts, V.cells, V.isCell, setRange, chunks, h1, cI]
    simp [loop_queue_int_put.c, loop_queue_int_put.r0, g0, g1, he, evNilchk, okV, fV_eq, cellsAt, hl, hd, hbs, ha, hst]
  · have : id ≠ l := by
      rintro rfl
      rcases hs2 with ⟨_, _, h3⟩ | ⟨id', ep, pre, post, h3, _, hr, _⟩
      · rw [h3] at hid; cases hid
      · rw [h3] at hid; cases hid
        rw [hl2] at hr; cases hr
    rw [List.getElem?_set_ne (Ne.symm this)]
  · simp only [List.length_set]; simp [h1] at hf1; omega
  · rw [List.getElem?_set_ne (Ne.symm hne), hf2 j (by simp [h1]; omega) hno]
    simp only [h1]
    rw [List.getElem?_append_left hj]
  · rcases hf3 id hid with h3 | h3
    · exact .inl h3
    · right; simp [h1] at h3; omega

/-- queue.len -/
theorem len_spec {h : Heap} {l off : Nat} {cs : List V} {v : V} {o : Option Nat} {xs : List (List V)} (hl : h[l]? = some (.cells cs)) (hv : cs[off]? = some v) (hs : SL h 1 v o xs) :
    callW Φ loop_queue_int_len [.ptr l off] h = some (.int .i64 xs.length, h) := by
  have hd : cs.drop off = v :: cs.drop (off + 1) := by
    obtain ⟨h1, rfl⟩ := List.getElem?_eq_some_iff.1 hv
    exact List.drop_eq_getElem_cons h1
  refine callW_rough loop_queue_int_len.Φ rfl (body_q (Nat.le_of_ble_eq_true rfl) (fun env he h0 => ?_))
  have g0 := h0 0 (by simp)
  change eget env 0 = .ptr l off at g0
  clear h0
  simp [loop_queue_int_len.c] at he
  simp [loop_queue_int_len.c, loop_queue_int_len.r0, loop_queue_int_len.r1, g0, he, evNilchk, okV, fV_eq, cellsAt, hl, hd, hs.len h]

/-- queue.take, of none -/
theorem take_none {h : Heap} {l off : Nat} {cs : List V} {v : V} {o : Option Nat} (hl : h[l]? = some (.cells cs)) (hv : cs[off]? = some v) (hs : SL h 1 v o []) :
    callW Φ loop_queue_int_take [.ptr l off] h = some (.tup [.int .i64 0, .bool false], h) := by
  have hd : cs.drop off = v :: cs.drop (off + 1) := by
    obtain ⟨h1, rfl⟩ := List.getElem?_eq_some_iff.1 hv
    exact List.drop_eq_getElem_cons h1
  have hlen := hs.len h
  simp only [List.length_nil] at hlen
  refine callW_rough loop_queue_int_take.Φ rfl (body_q (Nat.le_of_ble_eq_true rfl) (fun env he h0 => ?_))
  have g0 := h0 0 (by simp)
  change eget env 0 = .ptr l off at g0
  clear h0
  simp [loop_queue_int_take.c] at he
  simp [loop_queue_int_take.c, loop_queue_int_take.r0, loop_queue_int_take.r1, loop_queue_int_take.r2, loop_queue_int_take.r3, g0, he, evNilchk, okV, fV_eq, cellsAt, hl, hd, hlen]

/-- queue.take -/
theorem take_some {h : Heap} {l off : Nat} {cs : List V} {v : V} {o : Option Nat} {x : Int} {xs : List (List V)} (hl : h[l]? = some (.cells cs)) (hv : cs[off]? = some v) (hs : SL h 1 v o (cI x :: xs)) :
    ∃ v', callW Φ loop_queue_int_take [.ptr l off] h = some (.tup [.int .i64 x, .bool true], h.set l (.cells (cs.set off v'))) ∧ SL (h.set l (.cells (cs.set off v'))) 1 v' o xs := by
  have hoff : off < cs.length := (List.getElem?_eq_some_iff.1 hv).1
  have hd : cs.drop off = v :: cs.drop (off + 1) := by
    obtain ⟨h1, rfl⟩ := List.getElem?_eq_some_iff.1 hv
    exact List.drop_eq_getElem_cons h1
  have hlen := hs.len h
  have hne : ((xs.length : Int) + 1 == 0) = false := by simp; omega
  obtain ⟨v', p, h1, h2, h3, h4⟩ := hs.tail
  have hst := store_cell hl hoff h4.cell.1 h4.cell.2
  refine ⟨v', ?_, h4.mono (fun id hid => ?_)⟩
  · refine callW_rough loop_queue_int_take.Φ rfl (body_q (Nat.le_of_ble_eq_true rfl) (fun env he h0 => ?_))
    have g0 := h0 0 (by simp)
    change eget env 0 = .ptr l off at g0
    clear h0
    simp [loop_queue_int_take.c] at he
    simp [loop_queue_int_take.c, loop_queue_int_take.r0, loop_queue_int_take.r1, loop_queue_int_take.r2, loop_queue_int_take.r4, loop_queue_int_take.r5, loop_queue_int_take.r6, g0, he, evNilchk, okV, fV_eq, cellsAt_ptr hl, hd, hlen, hne, h1, h2, h3, sliceV, hst, cI]
  · have : id ≠ l := by
      rintro rfl
      rcases h4 with ⟨_, _, h3⟩ | ⟨id', ep, pre, post, h3, _, hr, _⟩
      · rw [h3] at hid; cases hid
      · rw [h3] at hid; cases hid
        rw [hl] at hr; cases hr
    rw [List.getElem?_set_ne (Ne.symm this)]
end Go.Proofs.Lp
