/- The program's loop: copies of slices; Advance. No conditions. -/
import Derived.Test.YtgfebbhjpgkdfaaLpG
namespace Go.Proofs.Lp
open Go Go.Ev
set_option linter.unusedVariables false
set_option linter.unusedSimpArgs false

/-- A body's end, its result not told ahead. -/
def FinX (rs : List Rv) (P : V → Heap → Prop) (e : Ex) (s : St) : Prop := (e = .normal ∨ e = .ret) ∧ ∃ h1 vs, takeMarks s.heap s.marks = some h1 ∧ evRes s.env h1 rs = some vs ∧ P (pack vs) h1
attribute [simp] FinX
theorem body_x {call : CallF} {cf : Cf} {args : List V} {h : Heap} {P : V → Heap → Prop} (hn : args.length ≤ cf.ntmps)
    (hw : ∀ env : List V, env.length = cf.ntmps → (∀ i, i < args.length → eget env i = eget args i) → WK call none (FinX cf.results P) [.c cf.body] { env := env, marks := [], heap := h }) :
    ∃ r h', evBodyW call cf args h = some (r, h') ∧ P r h' := by
  have he := hw (args ++ List.replicate (cf.ntmps - args.length) V.non) (by simp; omega) (fun i hi => by simp [eget, List.getD_eq_getElem?_getD, List.getElem?_append_left hi])
  obtain ⟨e, s', h1, h2, ha, vs, h3, h4, h5⟩ := WC_of_WK he
  exact ⟨_, _, body_of hn ⟨e, s', h1, h2, ha, vs, h3, h4, rfl⟩, h5⟩
theorem call_x {f : FuncId} {cf : Cf} (hf : Φ f = some cf) (hp : cf.pure = false) {args : List V} {h : Heap} {P : V → Heap → Prop} (hn : args.length ≤ cf.ntmps)
    (hw : ∀ env : List V, env.length = cf.ntmps → (∀ i, i < args.length → eget env i = eget args i) → WK (callW Φ) none (FinX cf.results P) [.c cf.body] { env := env, marks := [], heap := h }) :
    ∃ r h', callW Φ (.fn (.func f) [] []) args h = some (r, h') ∧ P r h' := by
  obtain ⟨r, h', h1, h2⟩ := body_x (call := callW Φ) (cf := cf) (P := P) hn hw
  refine ⟨r, h', callW_rough hf hp ?_, h2⟩
  simpa using h1

theorem SL.drop {h : Heap} {sz : Nat} {v : V} {o : Option Nat} {xs : List (List V)} (hs : SL h sz v o xs) {i : Nat} (hi : i ≤ xs.length) :
    ∃ v', sliceL h sz v (some (.int .i64 i)) none = some v' ∧ SL h sz v' o (xs.drop i) := by
  rcases hs with ⟨rfl, rfl, rfl⟩ | ⟨id, ep, pre, post, rfl, rfl, hr, hp⟩
  · have : i = 0 := by simpa using hi
    subst this
    exact ⟨.nils, rfl, .inl ⟨rfl, rfl, rfl⟩⟩
  · refine ⟨.sl id ep (pre.length + i) (xs.length - i), ?_, .inr ⟨id, ep, pre ++ xs.take i, post, rfl, ?_, ?_, ?_⟩⟩
    · have : (i : Int) ≤ (xs.length : Int) := by omega
      simp [sliceL, hr, lohi, bound, this]
    · simp; omega
    · rw [hr]
      have : pre ++ List.take i xs ++ List.drop i xs ++ post = pre ++ xs ++ post := by rw [List.append_assoc pre, List.take_append_drop]
      rw [this]
    · have : pre ++ List.take i xs ++ List.drop i xs ++ post = pre ++ xs ++ post := by rw [List.append_assoc pre, List.take_append_drop]
      rw [this]; exact hp

/-- What a copy does. -/
theorem SL.elems {h : Heap} {sz : Nat} {v : V} {o : Option Nat} {xs : List (List V)} (hs : SL h sz v o xs) : elemsOf h v = some xs := by
  rcases hs with ⟨rfl, rfl, rfl⟩ | ⟨id, ep, pre, post, rfl, rfl, hr, hp⟩
  · rfl
  · simp [elemsOf, hr]

theorem SL.copy {h : Heap} {sz bytes : Nat} {v : V} {o : Option Nat} {xs : List (List V)} (hs : SL h sz v o xs) (hroom : xs.length * bytes ≤ roomB) :
    ∃ v' h', evApp (h ++ [.row sz [] 0 true]) sz bytes (.sl h.length 0 0 0) v = some (v', h') ∧ SL h' sz v' (some h.length) xs ∧ h.length ≤ h'.length ∧ ∀ j, j < h.length → h'[j]? = h[j]? := by
  have hs2 : SL (h ++ [.row sz [] 0 true]) sz v o xs := hs.mono (fun id ho => by rw [List.getElem?_append_left (hs.lt ho)])
  have hel := hs2.elems
  have hr : (h ++ [Ob.row sz [] 0 true])[h.length]? = some (.row sz [] 0 true) := by simp
  cases xs with
  | nil => exact ⟨.sl h.length 0 0 0, h ++ [.row sz [] 0 true], by simp only [evApp, hel, hr], .inr ⟨h.length, 0, [], [], rfl, rfl, by simp, fun e he => by cases he⟩, by simp, fun j hj => by rw [List.getElem?_append_left hj]⟩
  | cons x xs =>
    have hsz : szOk sz (x :: xs) = true := by
      rw [szOk, List.all_eq_true]
      intro e he
      simpa using (hs.pl e he).1
    refine ⟨.sl h.length 1 0 (x :: xs).length, h ++ [.row sz (x :: xs) 1 true], ?_, .inr ⟨h.length, 1, [], [], rfl, rfl, by simp, by simpa using hs.pl⟩, by simp, fun j hj => by rw [List.getElem?_append_left hj]⟩
    simp only [List.length_cons] at hroom
    simp [evApp, hel, hr, hroom, hsz, fNat_eq, setOb_eq]

theorem clone3_spec {h : Heap} {v : V} {o : Option Nat} {xs : List (List V)} (hs : SL h 3 v o xs) (hlen : xs.length < 2 ^ 40) :
    ∃ v' o' h', callW Φ slices_Clone_loop_timer_loop_timer [v] h = some (v', h') ∧ SL h' 3 v' o' xs ∧ h.length ≤ h'.length ∧ (∀ j, j < h.length → h'[j]? = h[j]?) ∧ ∀ id, o' = some id → h.length ≤ id := by
  obtain ⟨v', h', ha, hs', hl, hrest⟩ := hs.copy (bytes := 24) (by unfold roomB; omega)
  rcases hs with ⟨rfl, rfl, rfl⟩ | ⟨id, ep, pre, post, rfl, rfl, hr, hp⟩
  · refine ⟨.nils, none, h, ?_, .inl ⟨rfl, rfl, rfl⟩, Nat.le_refl _, fun _ _ => rfl, fun _ h => by cases h⟩
    refine callW_rough slices_Clone_loop_timer_loop_timer.Φ rfl (body_q (Nat.le_of_ble_eq_true rfl) (fun env he h0 => ?_))
    have g0 := h0 0 (by simp)
    change eget env 0 = .nils at g0
    clear h0
    simp [slices_Clone_loop_timer_loop_timer.c] at he
    simp [slices_Clone_loop_timer_loop_timer.c, slices_Clone_loop_timer_loop_timer.r0, slices_Clone_loop_timer_loop_timer.r1, slices_Clone_loop_timer_loop_timer.r2, g0, he, okV, fV_eq, evEqn, eqnV, nilOf]
  · refine ⟨v', some h.length, h', ?_, hs', hl, hrest, fun id h => by cases h; exact Nat.le_refl _⟩
    have hbs : evBslice h [.int .i64 0, .int .i64 0, .int .i64 0] 0 3 [] = some (.sl h.length 0 0 0, h ++ [.row 3 [] 0 true]) := by simp [evBslice, placeParts, chunks]
    refine callW_rough slices_Clone_loop_timer_loop_timer.Φ rfl (body_q (Nat.le_of_ble_eq_true rfl) (fun env he h0 => ?_))
    have g0 := h0 0 (by simp)
    change eget env 0 = .sl id ep pre.length xs.length at g0
    clear h0
    simp [slices_Clone_loop_timer_loop_timer.c] at he
    simp [slices_Clone_loop_timer_loop_timer.c, slices_Clone_loop_timer_loop_timer.r0, slices_Clone_loop_timer_loop_timer.r1, slices_Clone_loop_timer_loop_timer.r3, g0, he, okV, fV_eq, evEqn, eqnV, nilOf, hbs, ha]

theorem clone1_spec {h : Heap} {v : V} {o : Option Nat} {xs : List (List V)} (hs : SL h 1 v o xs) (hlen : xs.length < 2 ^ 40) :
    ∃ v' o' h', callW Φ slices_Clone_int_int [v] h = some (v', h') ∧ SL h' 1 v' o' xs ∧ h.length ≤ h'.length ∧ (∀ j, j < h.length → h'[j]? = h[j]?) ∧ ∀ id, o' = some id → h.length ≤ id := by
  obtain ⟨v', h', ha, hs', hl, hrest⟩ := hs.copy (bytes := 8) (by unfold roomB; omega)
  rcases hs with ⟨rfl, rfl, rfl⟩ | ⟨id, ep, pre, post, rfl, rfl, hr, hp⟩
  · refine ⟨.nils, none, h, ?_, .inl ⟨rfl, rfl, rfl⟩, Nat.le_refl _, fun _ _ => rfl, fun _ h => by cases h⟩
    refine callW_rough slices_Clone_int_int.Φ rfl (body_q (Nat.le_of_ble_eq_true rfl) (fun env he h0 => ?_))
    have g0 := h0 0 (by simp)
    change eget env 0 = .nils at g0
    clear h0
    simp [slices_Clone_int_int.c] at he
    simp [slices_Clone_int_int.c, slices_Clone_int_int.r0, slices_Clone_int_int.r1, slices_Clone_int_int.r2, g0, he, okV, fV_eq, evEqn, eqnV, nilOf]
  · refine ⟨v', some h.length, h', ?_, hs', hl, hrest, fun id h => by cases h; exact Nat.le_refl _⟩
    have hbs : evBslice h [.int .i64 0] 0 1 [] = some (.sl h.length 0 0 0, h ++ [.row 1 [] 0 true]) := by simp [evBslice, placeParts, chunks]
    refine callW_rough slices_Clone_int_int.Φ rfl (body_q (Nat.le_of_ble_eq_true rfl) (fun env he h0 => ?_))
    have g0 := h0 0 (by simp)
    change eget env 0 = .sl id ep pre.length xs.length at g0
    clear h0
    simp [slices_Clone_int_int.c] at he
    simp [slices_Clone_int_int.c, slices_Clone_int_int.r0, slices_Clone_int_int.r1, slices_Clone_int_int.r3, g0, he, okV, fV_eq, evEqn, eqnV, nilOf, hbs, ha]

/-- How many are due. -/
def ripe (c : Int) : List Tm → Nat
  | [] => 0
  | t :: l => if t.due ≤ c then ripe c l + 1 else 0
theorem ripe_le (c : Int) : ∀ l : List Tm, ripe c l ≤ l.length
  | [] => Nat.le_refl _
  | t :: l => by
    simp only [ripe]
    split
    · have := ripe_le c l; simp; omega
    · simp

def clkL (L : LS) (c : Int) : LS := { L with clock := c }
def advV (L : LS) (ms : Int) : Int := if L.closed then 15 else if ms < 0 ∨ ms > 1125899906842624 - L.clock then 2 else 0
def midL (L : LS) (c : Int) (i : Nat) : LS := upq (clkL L c) 1 (L.q 1 ++ (L.tm.take i).map Tm.id)
def advL (L : LS) (ms : Int) : LS :=
  if advV L ms = 0 then { midL L (L.clock + ms) (ripe (L.clock + ms) L.tm) with tm := L.tm.drop (ripe (L.clock + ms) L.tm) } else L
def advN (L : LS) (ms : Int) : Int := if advV L ms = 0 then ripe (L.clock + ms) L.tm else 0

/-- Scalars are written. -/
theorem RepV.scal {h : Heap} {l : Nat} {L L' : LS} {f : Nat → Option Nat} {v : Nat → V} (hr : RepV h l L f v) (hc : ∀ k, k < 10 → cont L' k = cont L k) :
    RepV (h.set l (.cells (cellsL v L'))) l L' f v ∧ Fr h (h.set l (.cells (cellsL v L'))) l f f := by
  have hll := (List.getElem?_eq_some_iff.1 hr.1).1
  refine ⟨⟨by simp [hll], fun i hi => ?_, hr.2.2⟩, by simp, fun j hj hn => by rw [List.getElem?_set_ne (fun e => hn (.inl e.symm))], fun j h => .inl h⟩
  rw [hc i hi]
  exact (hr.2.1 i hi).mono (fun id hid => by rw [List.getElem?_set_ne (fun e => hr.nl hi (by rw [e]; exact hid))])
end Go.Proofs.Lp
