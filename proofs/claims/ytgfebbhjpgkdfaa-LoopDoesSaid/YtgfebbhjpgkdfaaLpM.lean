/- The walk of LoopTimers. No conditions. -/
import Derived.Test.YtgfebbhjpgkdfaaLpL
namespace Go.Proofs.Lp
open Go Go.Ev
set_option linter.unusedVariables false
set_option linter.unusedSimpArgs false

theorem arr_at {h : Heap} {sz : Nat} {xs : List (List V)} {i : Nat} {e : List V} {k : IntKind} (he : xs[i]? = some e) (hl : e.length = sz) : iaddrV h sz (.arr xs) (.int k i) = some (.iptr e) := by
  have hi : (i : Int) < (xs.length : Int) := by have := (List.getElem?_eq_some_iff.1 he).1; omega
  simp only [iaddrV, Int.toNat_natCast, he, hl, if_true]
  rw [if_pos ⟨by omega, hi⟩]

theorem SL.set1 {h : Heap} {v : V} {o : Option Nat} {xs : List (List V)} (hs : SL h 1 v o xs) {i : Nat} (hi : i < xs.length) {x : V} (h1 : x.isCell = true) (h2 : scal x = true) (h3 : x.cells = [x]) :
    ∃ p h', iaddrV h 1 v (.int .i64 i) = some p ∧ evStoreV h 1 p x = some (V.non, h') ∧ SL h' 1 v o (xs.set i [x]) ∧ h'.length = h.length ∧ ∀ j, o ≠ some j → h'[j]? = h[j]? := by
  obtain ⟨e, he⟩ : ∃ e, xs[i]? = some e := ⟨_, List.getElem?_eq_getElem hi⟩
  rcases hs with ⟨_, rfl, _⟩ | ⟨id, ep, pre, post, rfl, rfl, hr, hp⟩
  · cases hi
  · have hs' : SL h 1 (.sl id ep pre.length xs.length) (some id) xs := .inr ⟨id, ep, pre, post, rfl, rfl, hr, hp⟩
    have hid : id < h.length := (List.getElem?_eq_some_iff.1 hr).1
    have hx : (pre ++ xs ++ post)[pre.length + i]? = some e := by
      rw [List.append_assoc, List.getElem?_append_right (by omega), List.getElem?_append_left (by omega)]
      simpa using he
    have hel : e.length = 1 := (hp e (List.mem_of_getElem? hx)).1
    have hset : (pre ++ xs ++ post).set (pre.length + i) [x] = pre ++ xs.set i [x] ++ post := by
      rw [List.append_assoc, List.set_append_right _ _ (by omega), List.set_append_left _ _ (by omega)]
      simp
    refine ⟨.eptr id ep (pre.length + i) 0, h.set id (.row 1 (pre ++ xs.set i [x] ++ post) ep true), ?_, ?_, .inr ⟨id, ep, pre, post, rfl, by simp, by simp [hid], ?_⟩, by simp, fun j hj => by rw [List.getElem?_set_ne (fun e => hj (by rw [e]))]⟩
    · have : (i : Int) < (xs.length : Int) := by omega
      have h4 : pre.length + i < (pre ++ xs ++ post).length := by simp; omega
      simp only [iaddrV, hr, Int.toNat_natCast, true_and]
      rw [if_pos ⟨by omega, this⟩, if_pos h4]
    · have hsr : setRange e 0 [x] = some [x] := by
        obtain ⟨a, rfl⟩ : ∃ a, e = [a] := List.length_eq_one_iff.1 hel
        rfl
      simp only [evStoreV, h3, List.length_singleton, List.all_cons, List.all_nil, h1, Bool.and_self, and_self, if_true, evStore, hr, hx, hsr, hset, setOb_eq]
    · intro y hy
      simp only [List.mem_append] at hy
      rcases hy with (hy | hy) | hy
      · exact hp y (by simp [hy])
      · rcases List.mem_or_eq_of_mem_set hy with hy | rfl
        · exact hp y (by simp [hy])
        · exact ⟨rfl, by simp [h1], by simp [h2]⟩
      · exact hp y (by simp [hy])

/-- A row of another's. -/
def Apart (h : Heap) (l : Nat) (f : Nat → Option Nat) (o : Option Nat) : Prop := ∀ id, o = some id → id < h.length ∧ ¬ own l f id
theorem Fr.apart {h h' : Heap} {l : Nat} {f f' : Nat → Option Nat} {o : Option Nat} (hf : Fr h h' l f f') (ha : Apart h l f o) : Apart h' l f' o := fun id hid => by
  obtain ⟨h1, h2⟩ := ha id hid
  refine ⟨Nat.lt_of_lt_of_le h1 hf.len, fun ho => ?_⟩
  rcases hf.new id ho with h | h
  · exact h2 h
  · omega
theorem Fr.keep {h h' : Heap} {l : Nat} {f f' : Nat → Option Nat} {o : Option Nat} {sz : Nat} {v : V} {xs : List (List V)} (hf : Fr h h' l f f') (ha : Apart h l f o) (hs : SL h sz v o xs) : SL h' sz v o xs :=
  hs.mono fun id hid => hf.rest id (ha id hid).1 (ha id hid).2
theorem Apart.rep {h h' : Heap} {l : Nat} {L : LS} {f : Nat → Option Nat} {o : Option Nat} (ha : Apart h l f o) (hr : Rep h l L f) (hh : ∀ j, o ≠ some j → h'[j]? = h[j]?) : Rep h' l L f :=
  hr.mono fun j hj => hh j fun e => (ha j e).2 hj

/-- Which are no more, in cells. -/
def marks (n : Nat) (C : Nat → Bool) : List (List V) := (List.range n).map fun k => [.bool (C k)]
theorem marks_len (n : Nat) (C : Nat → Bool) : (marks n C).length = n := by simp [marks]
theorem marks_get {n : Nat} {C : Nat → Bool} {k : Nat} (hk : k < n) : (marks n C)[k]? = some [.bool (C k)] := by simp [marks, hk]
theorem marks_set {n : Nat} {C : Nat → Bool} {k : Nat} (hk : k < n) : (marks n C).set k [.bool true] = marks n (updC C k) := by
  apply List.ext_getElem?
  intro j
  by_cases hj : j < n
  · rw [marks_get hj]
    by_cases e : j = k
    · subst e
      rw [List.getElem?_set_self (by rw [marks_len]; exact hj)]
      simp [updC]
    · rw [List.getElem?_set_ne (Ne.symm e), marks_get hj]
      simp [updC, e]
  · rw [List.getElem?_eq_none (by simp [marks_len]; omega), List.getElem?_eq_none (by simp [marks_len]; omega)]

def idle (L : LS) : Prop := ∀ k, L.q k = []
theorem idle_next {L : LS} (h : idle L) (s : Int) : nextR L s = ((0, 0, 0), L) := by
  have hr : ∀ i, rdy L i = [] := fun i => by
    induction i with
    | zero => rfl
    | succ i ih => simp [rdy, ih, h (i + 1)]
  simp [nextR, h 0, hr]

abbrev tl : Cc → Cc := snd

set_option maxHeartbeats 4000000 in
/-- The end: none is left that was due. -/
theorem lt5 {P : V → Heap → Prop} (hP : ∀ h, P (.bool true) h) {W : List Int} {on : Int} (hW : W.length < 2 ^ 62) {hp : Heap} {l : Nat} {L : LS} {f : Nat → Option Nat} (hr : Rep hp l L f) (ht : tot L < 2 ^ 40) (hid : idle L)
    {vC : V} {oC : Option Nat} {C : Nat → Bool} (hs : SL hp 1 vC oC (marks W.length C)) (hC : ∀ k, k < W.length → C k = false → max (W.getD k 0) 0 > on)
    {env : List V} (he : env.length = 206) (g0 : eget env 0 = .arr (W.map cI)) (g2 : eget env 2 = .int .i64 on) (g7 : eget env 7 = .ptr l 0) (g12 : eget env 12 = vC) :
    WK (callW Φ) none (FinX [.tmp 6] P) [.o law27_LoopTimers.r41, .c (.block 6 (.loop law27_LoopTimers.b47)), .c (.seq (.region law27_LoopTimers.r48) .ret)] { env := env, marks := [], heap := hp } := by
  have hln : evLen hp .l (.arr (W.map cI)) = some (.int .i64 W.length, hp) := by simp [evLen, lenV, fNat_eq]
  simp [law27_LoopTimers.r41, g0, he, okV, fV_eq, hln]
  refine kLoop (fun m s => ∃ i : Nat, m = W.length - i ∧ i ≤ W.length ∧ s.env.length = 206 ∧ eget s.env 2 = .int .i64 on ∧ eget s.env 7 = .ptr l 0 ∧ eget s.env 12 = vC ∧ eget s.env 183 = .arr (W.map cI) ∧ eget s.env 184 = .int .i64 W.length ∧ eget s.env 185 = .int .i64 i ∧ s.marks = [] ∧ s.heap = hp) W.length ⟨0, by simp [g2, g7, g12, he]⟩ ?_
  rintro m ⟨e, mk, hq⟩ ⟨i, rfl, hi, he, k2, k7, k12, k183, k184, k185, hm, hh⟩
  simp only at he k2 k7 k12 k183 k184 k185 hm hh
  obtain rfl := hm
  obtain rfl := hh
  by_cases hlt : i < W.length
  · obtain ⟨w, hw⟩ : ∃ w, W[i]? = some w := ⟨_, List.getElem?_eq_getElem hlt⟩
    have hwd : W.getD i 0 = w := by simp [List.getD_eq_getElem?_getD, hw]
    have ha := arr_at (h := hq) (sz := 1) (k := .i64) (xs := W.map cI) (i := i) (e := cI w) (by rw [List.getElem?_map, hw]; rfl) rfl
    simp only [cI] at ha
    obtain ⟨id1, ep1, k1, ha1, ho, hcl⟩ := hs.at (i := i) (marks_get hlt)
    have hcd := hcl 0
    simp only [List.drop_zero] at hcd
    have hi1 : (i : Int) < (W.length : Int) := by omega
    have hw1 : IntKind.i64.wrap ((i : Int) + 1) = ((i + 1 : Nat) : Int) := by rw [Ev.wrap64] <;> omega
    have hm0 := max_int .i64 w 0
    cases hc : C i with
    | true =>
      rw [hc] at hcd
      simp [law27_LoopTimers.b47, law27_LoopTimers.r42, law27_LoopTimers.r43, law27_LoopTimers.r44, law27_LoopTimers.r46, k2, k7, k12, k183, k184, k185, he, okV, fV_eq, hi1, ha, ha1, hcd, evPick]
      exact ⟨W.length - (i + 1), by omega, i + 1, rfl, by omega, by simpa using hw1⟩
    | false =>
      rw [hc] at hcd
      have hgt := hC i hlt hc
      rw [hwd] at hgt
      have hle : ¬ (max w 0 ≤ on) := by omega
      simp [law27_LoopTimers.b47, law27_LoopTimers.r42, law27_LoopTimers.r43, law27_LoopTimers.r44, law27_LoopTimers.r46, k2, k7, k12, k183, k184, k185, he, okV, fV_eq, hi1, ha, ha1, hcd, evPick, hm0, hle]
      exact ⟨W.length - (i + 1), by omega, i + 1, rfl, by omega, by simpa using hw1⟩
  · have : i = W.length := by omega
    subst this
    obtain ⟨h', f', hc, _, _⟩ := next_spec hr ht 0
    rw [idle_next hid] at hc
    simp only [cN] at hc
    have q : evEqc h' false (.cons 0 none (.leaf .i) (.cons 1 none (.leaf .i) (.cons 2 none (.leaf .i) .nil))) (.agg [.int .u8 0, .int .i64 0, .int .i64 0]) (.agg [.int .u8 0, .int .i64 0, .int .i64 0]) = some (.bool true, h') := by
      simp [evEqc, eqdV, ofCells, cellEq, okV, fV_eq]
    have b3 : evBuild h' [.int .u8 0, .int .i64 0, .int .i64 0] [] = some (.agg [.int .u8 0, .int .i64 0, .int .i64 0], h') := rfl
    simp [law27_LoopTimers.b47, law27_LoopTimers.r42, law27_LoopTimers.r48, k2, k7, k12, k183, k184, k185, he, okV, fV_eq, hc, b3, q, hP]
end Go.Proofs.Lp
