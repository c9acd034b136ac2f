/- Lists in the heap that are made by appending. Going up in a forest: whether one comes to an end. Plain. No conditions. -/
import Derived.Test.YtaeklgflchhmfaaGreatDoorItD
import Derived.Test.YtaeklgflchhmfaaGreatDoorItN
set_option maxHeartbeats 16000000
set_option maxRecDepth 100000
set_option linter.unusedVariables false
set_option linter.unusedSimpArgs false
set_option linter.unusedSectionVars false
namespace Go.Proofs.It
open Go Go.Ev
def plainR (sz : Nat) (xs : List (List V)) : Prop := ∀ e ∈ xs, e.length = sz ∧ e.all V.isCell = true ∧ e.all scal = true
theorem plainR.map {α : Type} {enc : α → List V} {sz : Nat} (h1 : ∀ x, (enc x).length = sz) (h2 : ∀ x, (enc x).all V.isCell = true) (h3 : ∀ x, (enc x).all scal = true) (l : List α) : plainR sz (l.map enc) := by
 intro e he
 obtain ⟨x, _, rfl⟩ := List.mem_map.1 he
 exact ⟨h1 x, h2 x, h3 x⟩
theorem plainI (l : List Int) : plainR 1 (l.map cI) := plainR.map wZS (fun _ => rfl) (fun _ => rfl) l
def VL (h : Heap) (sz : Nat) (v : V) (o : Option Nat) (xs : List (List V)) : Prop :=
 ((v = .nils ∨ v = .nile) ∧ xs = [] ∧ o = none) ∨
 ∃ id ep, o = some id ∧ v = .sl id ep 0 xs.length ∧ h[id]? = some (.row sz xs ep true) ∧ plainR sz xs
theorem VL.nil (h : Heap) (sz : Nat) : VL h sz .nils none [] := .inl ⟨.inl rfl, rfl, rfl⟩
theorem VL.nile (h : Heap) (sz : Nat) : VL h sz .nile none [] := .inl ⟨.inr rfl, rfl, rfl⟩
theorem VL.mono {h h' : Heap} {sz : Nat} {v : V} {o : Option Nat} {xs : List (List V)} (hs : VL h sz v o xs) (hh : ∀ id, o = some id → h'[id]? = h[id]?) : VL h' sz v o xs := by
 rcases hs with hs | ⟨id, ep, ho, hv, hr, hp⟩
 ·exact .inl hs
 ·exact .inr ⟨id, ep, ho, hv, by rw [hh id ho]; exact hr, hp⟩
theorem VL.lt {h : Heap} {sz : Nat} {v : V} {o : Option Nat} {xs : List (List V)} (hs : VL h sz v o xs) {id : Nat} (ho : o = some id) : id < h.length := by
 rcases hs with ⟨_, _, h1⟩ | ⟨id', ep, h1, hv, hr, hp⟩
 ·rw [h1] at ho; cases ho
 ·rw [h1] at ho; cases ho
  exact (List.getElem?_eq_some_iff.1 hr).1
theorem VL.push {h : Heap} {sz : Nat} {v : V} {o : Option Nat} {xs : List (List V)} (hs : VL h sz v o xs) (e : Heap) : VL (h ++ e) sz v o xs :=
 hs.mono fun id ho => List.getElem?_append_left (hs.lt ho)
theorem VL.len {h : Heap} {sz : Nat} {v : V} {o : Option Nat} {xs : List (List V)} (hs : VL h sz v o xs) (h2 : Heap) : evLen h2 .l v = some (.int .i64 xs.length, h2) := by
 rcases hs with ⟨rfl | rfl, rfl, _⟩ | ⟨id, ep, _, rfl, _, _⟩ <;> simp [evLen, lenV, qZ5]
theorem VL.pl {h : Heap} {sz : Nat} {v : V} {o : Option Nat} {xs : List (List V)} (hs : VL h sz v o xs) : plainR sz xs := by
 rcases hs with ⟨_, rfl, _⟩ | ⟨id, ep, _, _, _, hp⟩
 ·intro e he; cases he
 ·exact hp
theorem VL.cell {h : Heap} {sz : Nat} {v : V} {o : Option Nat} {xs : List (List V)} (hs : VL h sz v o xs) : v.isCell = true ∧ v.cells = [v] := by
 rcases hs with ⟨rfl | rfl, _⟩ | ⟨_, _, _, rfl, _⟩ <;> exact ⟨rfl, rfl⟩
theorem VL.ne {h : Heap} {sz : Nat} {v : V} {o : Option Nat} {xs : List (List V)} (hs : VL h sz v o xs) {a : Nat} {ob : Ob} (ha : h[a]? = some ob) (hn : ∀ z xs ep w, ob ≠ .row z xs ep w) : o ≠ some a := by
 rintro rfl
 rcases hs with ⟨_, _, h1⟩ | ⟨id', ep, h1, hv, hr, hp⟩
 ·cases h1
 ·cases h1
  rw [ha] at hr
  exact hn _ _ _ _ (Option.some.inj hr)
theorem szOk_plain {sz : Nat} {es : List (List V)} (he : plainR sz es) : szOk sz es = true := by
 simp only [szOk, List.all_eq_true, beq_iff_eq]
 exact fun x hx => (he x hx).1
theorem VL.app {h : Heap} {sz by_ : Nat} {v : V} {o : Option Nat} {xs : List (List V)} (hs : VL h sz v o xs) {es : List (List V)} (he : plainR sz es) {q : V} (hq : elemsOf h q = some es) (hroom : (xs.length + es.length) * by_ ≤ roomB) :
  ∃ v' o' h', evApp h sz by_ v q = some (v', h') ∧ VL h' sz v' o' (xs ++ es) ∧ h.length ≤ h'.length ∧ (∀ j, j < h.length → o ≠ some j → h'[j]? = h[j]?) ∧ ∀ id, o' = some id → o = some id ∨ h.length ≤ id := by
 have hsz := szOk_plain he
 rcases hs with ⟨hv, rfl, rfl⟩ | ⟨id, ep, rfl, rfl, hr, hp⟩
 ·cases es with
  | nil => exact ⟨v, none, h, by rcases hv with rfl | rfl <;> simp [evApp, hq], .inl ⟨hv, rfl, rfl⟩, Nat.le_refl _, fun _ _ _ => rfl, fun _ h => by cases h⟩
  | cons e es =>
   refine ⟨.sl h.length 0 0 (e :: es).length, some h.length, h ++ [.row sz (e :: es) 0 true], ?_, .inr ⟨h.length, 0, rfl, rfl, by simp, he⟩, by simp, fun j hj _ => by rw [List.getElem?_append_left hj], fun id hid => by cases hid; exact .inr (Nat.le_refl _)⟩
   simp only [List.length_nil, Nat.zero_add] at hroom
   rcases hv with rfl | rfl <;> simp only [evApp, hq, hroom, hsz, and_self, if_true, qZ5, qZ4]
 ·have hlt : id < h.length := (List.getElem?_eq_some_iff.1 hr).1
  cases es with
  | nil =>
   refine ⟨.sl id ep 0 xs.length, some id, h, by simp only [evApp, hq, hr], .inr ⟨id, ep, rfl, by simp, by simpa using hr, by simpa using hp⟩, Nat.le_refl _, fun _ _ _ => rfl, fun i hi => .inl hi⟩
  | cons e es =>
   have hpe : plainR sz (xs ++ e :: es) := by
    intro y hy
    rcases List.mem_append.1 hy with hy | hy
    ·exact hp y hy
    ·exact he y hy
   refine ⟨.sl id (ep + 1) 0 (xs.length + (e :: es).length), some id, h.set id (.row sz (xs ++ e :: es) (ep + 1) true), ?_,
    .inr ⟨id, ep + 1, rfl, by simp, by rw [List.getElem?_set_self hlt], hpe⟩, by simp, fun j hj hne => by rw [List.getElem?_set_ne (fun e => hne (by rw [e]))], fun i hi => .inl hi⟩
   simp only [evApp, hq, hr, hsz, hroom, and_self, if_true, qZ5, Nat.zero_add, qZW]
theorem VL.at {h : Heap} {sz : Nat} {v : V} {o : Option Nat} {xs : List (List V)} (hs : VL h sz v o xs) {k : IntKind} {n : Int} (h0 : 0 ≤ n) {e : List V} (he : xs[n.toNat]? = some e) :
  ∃ id ep, o = some id ∧ iaddrV h sz v (.int k n) = some (.eptr id ep n.toNat 0) ∧ ∀ off, cellsAt h (.eptr id ep n.toNat off) = some (e.drop off) := by
 have hi := (List.getElem?_eq_some_iff.1 he).1
 rcases hs with ⟨_, rfl, _⟩ | ⟨id, ep, rfl, rfl, hr, hp⟩
 ·simp at he
 ·refine ⟨id, ep, rfl, ?_, fun off => by simp only [cellsAt, hr, if_true, he, Option.map_some]⟩
  have h2 : n < (xs.length : Int) := by omega
  simp only [iaddrV, hr, Nat.zero_add, true_and]
  rw [if_pos ⟨h0, h2⟩, if_pos hi]
theorem VL.put {h : Heap} {sz : Nat} {v : V} {o : Option Nat} {xs : List (List V)} (hs : VL h sz v o xs) {k : IntKind} {n : Int} (h0 : 0 ≤ n) (hn : n.toNat < xs.length) {x : V} (hx : x.cells.length = sz ∧ x.cells.all V.isCell = true ∧ x.cells.all scal = true) :
  ∃ id ep h', o = some id ∧ iaddrV h sz v (.int k n) = some (.eptr id ep n.toNat 0) ∧ evStoreV h sz (.eptr id ep n.toNat 0) x = some (V.non, h') ∧ VL h' sz v o (xs.set n.toNat x.cells) ∧ h'.length = h.length ∧ ∀ j, o ≠ some j → h'[j]? = h[j]? := by
 rcases hs with ⟨_, rfl, _⟩ | ⟨id, ep, rfl, rfl, hr, hp⟩
 ·simp at hn
 ·have hlt : id < h.length := (List.getElem?_eq_some_iff.1 hr).1
  obtain ⟨e, he⟩ : ∃ e, xs[n.toNat]? = some e := ⟨_, List.getElem?_eq_getElem hn⟩
  have hel := (hp e (List.mem_of_getElem? he)).1
  refine ⟨id, ep, h.set id (.row sz (xs.set n.toNat x.cells) ep true), rfl, ?_, ?_, .inr ⟨id, ep, rfl, by simp, by rw [List.getElem?_set_self hlt], ?_⟩, by simp, fun j hj => by rw [List.getElem?_set_ne (fun e => hj (by rw [e]))]⟩
  ·have h2 : n < (xs.length : Int) := by omega
   simp only [iaddrV, hr, Nat.zero_add, true_and]
   rw [if_pos ⟨h0, h2⟩, if_pos hn]
  ·have hsr : setRange e 0 x.cells = some x.cells := by
    unfold setRange
    rw [if_pos (by omega), Nat.zero_add, List.drop_eq_nil_of_le (by omega)]
    simp
   simp only [evStoreV, hx.1, hx.2.1, and_self, if_true, evStore, hr, he, hsr, qZW]
  ·intro y hy
   rcases List.mem_or_eq_of_mem_set hy with hy | rfl
   ·exact hp y hy
   ·exact hx
theorem VL.fz {d : Nat} {h : Heap} {sz : Nat} {v : V} {o : Option Nat} {xs : List (List V)} (hs : VL h sz v o xs) : ∃ h', fz (d + 2) h v = some (.arr xs, h') ∧ h.length = h'.length ∧ ∀ j, o ≠ some j → h'[j]? = h[j]? := by
 rcases hs with ⟨rfl | rfl, rfl, rfl⟩ | ⟨id, ep, rfl, rfl, hr, hp⟩
 ·exact ⟨h, rfl, rfl, fun _ _ => rfl⟩
 ·exact ⟨h, rfl, rfl, fun _ _ => rfl⟩
 ·refine ⟨h.set id (.row sz xs ep false), ?_, by simp, fun j hj => by rw [List.getElem?_set_ne (fun e => hj (by rw [e]))]⟩
  have := fz_sl (d := d) (off := 0) (len := xs.length) hr (by simp) fun e he => (hp e he).2.2
  rw [this]
  simp
open Go Go.Ev
def E (f : List Nd) (x : Int) : Prop := ∃ k, ringGo f x k = false
theorem wZG (f : List Nd) (x : Int) (k : Nat) : ringGo f x (k + 1) = (is_ f x && ringGo f (above (at_ f x)) k) := rfl
theorem xZs (f : List Nd) : ∀ (k : Nat) (x : Int), upN f (k + 1) x = upN f k (above (at_ f x))
 | 0, x => rfl
 | k + 1, x => by
  show above (at_ f (upN f (k + 1) x)) = above (at_ f (upN f k (above (at_ f x))))
  rw [xZs f k x]
theorem vZ9 (f : List Nd) : ∀ (k : Nat) (x : Int), ringGo f x k = true ↔ ∀ i, i < k → is_ f (upN f i x) = true
 | 0, x => by simp [ringGo]
 | k + 1, x => by
  rw [wZG, Bool.and_eq_true, vZ9 f k]
  constructor
  ·rintro ⟨h1, h2⟩ i hi
   cases i with
   | zero => exact h1
   | succ i => rw [xZs]; exact h2 i (by omega)
  ·intro h
   refine ⟨h 0 (by omega), fun i hi => ?_⟩
   have := h (i + 1) (by omega)
   rwa [xZs] at this
theorem jZn (f : List Nd) (a b : Nat) (x : Int) : upN f (a + b) x = upN f a (upN f b x) := by
 induction a with
 | zero => rw [Nat.zero_add]; rfl
 | succ a ih =>
  have : a + 1 + b = (a + b) + 1 := by omega
  rw [this]
  show above (at_ f (upN f (a + b) x)) = above (at_ f (upN f a (upN f b x)))
  rw [ih]
theorem cycle (f : List Nd) {x : Int} {p : Nat} (hp : 0 < p) (hx : upN f p x = x) (hi : ∀ i, i < p → is_ f (upN f i x) = true) : ∀ k, is_ f (upN f k x) = true := by
 intro k
 have h1 : ∀ m, upN f (m * p) x = x := by
  intro m
  induction m with
  | zero => rw [Nat.zero_mul]; rfl
  | succ m ih =>
   rw [Nat.succ_mul, Nat.add_comm, jZn, ih, hx]
 have h2 : k = k % p + (k / p) * p := by
  have := Nat.div_add_mod k p
  rw [Nat.mul_comm] at this
  omega
 rw [h2, jZn, h1]
 exact hi _ (Nat.mod_lt _ hp)
theorem notE_iff (f : List Nd) (x : Int) : ¬ E f x ↔ ∀ k, is_ f (upN f k x) = true := by
 unfold E
 constructor
 ·intro h k
  have : ringGo f x (k + 1) = true := by
   cases hh : ringGo f x (k + 1) with
   | true => rfl
   | false => exact absurd ⟨k + 1, hh⟩ h
  exact (vZ9 f (k + 1) x).1 this k (by omega)
 ·rintro h ⟨k, hk⟩
  have := (vZ9 f k x).2 fun i _ => h i
  rw [hk] at this
  cases this
theorem php {f : List Nd} {l : List Int} (hn : l.Nodup) (hl : ∀ x ∈ l, is_ f x = true) : l.length ≤ f.length := by
 have hs : l ⊆ (List.range f.length).map (fun i => ((i + 1 : Nat) : Int)) := by
  intro x hx
  have := hl x hx
  simp only [is_, decide_eq_true_eq] at this
  refine List.mem_map.2 ⟨x.toNat - 1, List.mem_range.2 (by omega), by omega⟩
 have := hn.length_le_of_subset hs
 simpa using this
def way (f : List Nd) (x : Int) (k : Nat) : List Int := (List.range k).map fun i => upN f i x
theorem way_succ (f : List Nd) (x : Int) (k : Nat) : way f x (k + 1) = way f x k ++ [upN f k x] := by simp [way, List.range_succ]
theorem way_len (f : List Nd) (x : Int) (k : Nat) : (way f x k).length = k := by simp [way]
theorem kZb {f : List Nd} {x y : Int} {k : Nat} : y ∈ way f x k ↔ ∃ i, i < k ∧ upN f i x = y := by simp [way]
theorem way_nodup {f : List Nd} {x : Int} (he : E f x) {k : Nat} (hk : ∀ i, i < k → is_ f (upN f i x) = true) : (way f x k).Nodup := by
 unfold way
 rw [List.Nodup, List.pairwise_map]
 refine List.Pairwise.imp_of_mem (R := fun a b => a < b) ?_ List.pairwise_lt_range
 intro a b ha hb hab heq
 have hb' := List.mem_range.1 hb
 refine (notE_iff f (upN f a x)).2 (cycle f (p := b - a) (by omega) ?_ fun i hi => ?_) ?_
 ·rw [← jZn]
  have : b - a + a = b := by omega
  rw [this]
  exact heq.symm
 ·rw [← jZn]; exact hk _ (by omega)
 ·obtain ⟨m, hm⟩ := he
  have hm' : ¬ ∀ i, i < m → is_ f (upN f i x) = true := fun h => by
   have := (vZ9 f m x).2 h
   rw [hm] at this; cases this
  refine ⟨m, ?_⟩
  cases hh : ringGo f (upN f a x) m with
  | false => rfl
  | true =>
   exfalso
   apply hm'
   have h2 := (vZ9 f m _).1 hh
   intro i hi
   by_cases hia : i < k
   ·exact hk i hia
   ·have := h2 (i - a) (by omega)
    rw [← jZn] at this
    have e : i - a + a = i := by omega
    rwa [e] at this
theorem ring_iff (f : List Nd) (x : Int) : ring f x = false ↔ E f x := by
 constructor
 ·exact fun h => ⟨_, h⟩
 ·intro he
  cases hh : ring f x with
  | false => rfl
  | true =>
   exfalso
   have h1 := (vZ9 f _ x).1 hh
   have h2 := way_nodup he h1
   have h3 := php h2 (f := f) fun y hy => by
    obtain ⟨i, hi, rfl⟩ := kZb.1 hy
    exact h1 i hi
   rw [way_len] at h3
   omega
theorem ring_iff' (f : List Nd) (x : Int) : ring f x = true ↔ ¬ E f x := by
 rw [← ring_iff]
 cases ring f x <;> simp
theorem E_out {f : List Nd} {x : Int} (h : is_ f x = false) : E f x := ⟨1, by simp [ringGo, h]⟩
theorem E_step {f : List Nd} {x : Int} (h : is_ f x = true) : E f x ↔ E f (above (at_ f x)) := by
 constructor
 ·rintro ⟨k, hk⟩
  cases k with
  | zero => cases hk
  | succ k =>
   rw [wZG, h, Bool.true_and] at hk
   exact ⟨k, hk⟩
 ·rintro ⟨k, hk⟩
  exact ⟨k + 1, by rw [wZG, h, hk]; rfl⟩
theorem E_up {f : List Nd} {x : Int} : ∀ {k : Nat}, (∀ i, i < k → is_ f (upN f i x) = true) → (E f (upN f k x) ↔ E f x)
 | 0, _ => Iff.rfl
 | k + 1, h => by
  rw [← E_up (k := k) fun i hi => h i (by omega), E_step (h k (by omega))]
  rfl
theorem back_notE {f : List Nd} {x : Int} {k : Nat} (hk : ∀ i, i < k → is_ f (upN f i x) = true) (hm : upN f k x ∈ way f x k) : ¬ E f (upN f k x) := by
 obtain ⟨i, hi, he⟩ := kZb.1 hm
 rw [notE_iff, ← he]
 refine cycle f (p := k - i) (by omega) ?_ fun j hj => ?_
 ·rw [← jZn]
  have : k - i + i = k := by omega
  rw [this, he]
 ·rw [← jZn]; exact hk _ (by omega)
end Go.Proofs.It
