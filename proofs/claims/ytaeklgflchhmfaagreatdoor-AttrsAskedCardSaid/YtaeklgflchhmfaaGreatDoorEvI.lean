/- Reading and writing memory, as the evaluator says. New objects. No conditions. -/
import Derived.Test.YtaeklgflchhmfaaGreatDoorEvF
import Derived.Laws.Cells
import Derived.Laws.Append
set_option maxHeartbeats 16000000
set_option maxRecDepth 100000
set_option linter.unusedVariables false
set_option linter.unusedSimpArgs false
set_option linter.unusedSectionVars false
namespace Go.Ev
open Go.RowKit
section
variable {P : Program} {G : Glob} {B : Base G} {S : Cells} {w : World} {κ : Kap} {h : Heap}
def Good (P : Program) {G : Glob} (B : Base G) (S : Cells) (w : World) (κ : Kap) (h' : Heap) (x : V) (s : Sem Next) : Prop :=
 ∃ v w' S' κ', (s.run P w = .ok (.value v) w' ∨ (v = undef ∧ s.run P w = .ok .skip w')) ∧ Inv P B S' w' κ' h' ∧ Stp B S w κ S' w' κ' ∧ RV S' w' κ' x v
theorem Good.same (inv : Inv P B S w κ h) {x : V} {s : Sem Next} (hs : Same P S w κ x s) : Good P B S w κ h x s :=
 let ⟨v, hv, hr⟩ := hs
 ⟨v, w, S, κ, .inl (hr w), inv, .refl _ _ _ _, hv⟩
theorem Good.here (inv : Inv P B S w κ h) {x : V} {s : Sem Value} (hs : ∃ v, RV S w κ x v ∧ s.run P w = .ok v w) : Good P B S w κ h x (do pure (.value (← s))) :=
 let ⟨v, hv, hr⟩ := hs
 ⟨v, w, S, κ, .inl (by simp [hr]), inv, .refl _ _ _ _, hv⟩
def Cel (S : Cells) (w : World) (κ : Kap) (b o : Nat) (cs : List V) : Prop :=
 ∀ (j : Nat) (x : V), cs[j]? = some x → ∃ v, w.cell? ⟨b, o + j, none⟩ = some v ∧ RV S w κ x v
theorem jZo : ∀ {cs : List V} {b o : Nat}, RC S w cs b o → Cel S w κ b o cs
 | [], b, o, _, j, x, hx => by simp at hx
 | y :: cs, b, o, hc, j, x, hx => by
  simp only [RC] at hc
  cases j with
  | zero =>
   simp at hx; subst hx
   obtain ⟨_, ⟨c, h1, _, h2⟩, _⟩ := hc
   exact ⟨c, by simpa using h1, RV.mono (.refl _ _) (fun _ _ h => by cases h) _ _ h2⟩
  | succ j =>
   simp at hx
   obtain ⟨v, h1, h2⟩ := jZo hc.2.2 j x hx
   exact ⟨v, by rwa [Nat.add_assoc, Nat.add_comm 1 j] at h1, h2⟩
theorem kZ6 (sz : Nat) : ∀ (xs : List (List V)), (∀ e ∈ xs, e.length = sz) → ∀ (i j : Nat) (e : List V), xs[i]? = some e → j < sz → xs.flatten[i * sz + j]? = e[j]?
 | [], _, i, j, e, hi, _ => by simp at hi
 | y :: xs, hl, i, j, e, hi, hj => by
  have hy := hl y (by simp)
  cases i with
  | zero =>
   simp at hi; subst hi
   simp [List.getElem?_append, hy, hj]
  | succ i =>
   simp at hi
   have := kZ6 sz xs (fun e he => hl e (by simp [he])) i j e hi hj
   rw [List.flatten_cons, List.getElem?_append_right (by rw [hy, Nat.add_mul]; omega), hy, ← this]
   congr 1
   rw [Nat.add_mul]; omega
theorem row_cel {xs : List (List V)} {st sz b : Nat} {c : Array Value} {el : TypeId} {fr : Nat × Nat} (hc : w.heap[b]? = some (.cells c el fr))
  (hl : ∀ e ∈ xs, e.length = sz ∧ e.all V.isCell = true) (hr : RR S w κ xs st sz c.toList)
  {i : Nat} (hi : st ≤ i) {e : List V} (he : xs[i]? = some e) : Cel S w κ b ((i - st) * sz) e := by
 intro j x hx
 have hlen := (hl e (List.mem_of_getElem? he)).1
 have hj : j < sz := by
  rw [← hlen]
  exact (List.getElem?_eq_some_iff.1 hx).1
 obtain ⟨v, hv, k⟩ := kZg (hr i e hi he) hx
 refine ⟨v, ?_, k⟩
 rw [wZi w b _ hc]
 rw [List.getElem?_take, if_pos hj, List.getElem?_drop] at hv
 simpa using hv
theorem Cel_drop {b o n : Nat} {cs : List V} (hc : Cel S w κ b o cs) : Cel S w κ b (o + n) (cs.drop n) := by
 intro j x hx
 rw [List.getElem?_drop] at hx
 obtain ⟨v, h1, h2⟩ := hc (n + j) x hx
 exact ⟨v, by rwa [← Nat.add_assoc] at h1, h2⟩
theorem vZF (inv : Inv P B S w κ h) {x : V} {u : Value} {cs : List V} (hx : RV S w κ x u) (hh : cellsAt h x = some cs) :
  ∃ b o, u = .pointer (some ⟨b, o, none⟩) ∧ Cel S w κ b o cs := by
 unfold cellsAt at hh
 split at hh
 ·rename_i id off
  split at hh
  ·rename_i cs0 hi
   cases hh
   obtain ⟨b, c, el, fr, h1, h2, h3, h4, h5, h6⟩ := inv.obs _ _ hi
   simp only [RV] at hx
   obtain ⟨b', k1, rfl⟩ := hx
   rw [h1] at k1; cases k1
   refine ⟨b, off, rfl, fun j x hx => ?_⟩
   rw [List.getElem?_drop] at hx
   obtain ⟨v, hv, k⟩ := kZg h4 hx
   exact ⟨v, by rw [wZi w b _ h2]; simpa using hv, k⟩
  ·cases hh
 ·rename_i id ep idx off
  split at hh
  ·rename_i zz xs cur wr hi
   obtain ⟨hep, h1⟩ := zZN hh
   subst hep
   simp only [Option.map_eq_some_iff] at h1
   obtain ⟨e, he, rfl⟩ := h1
   obtain ⟨b, st, cp, c, el, fr, g1, g2, g3, g4, g5, g6, g7, g8, g9, g10, g11⟩ := vZk inv hi
   simp only [RV] at hx
   obtain ⟨e', b', st', cp', sz', p, k1, k2, rfl, k3⟩ := hx
   rw [g1] at k1; cases k1
   obtain ⟨k4, rfl⟩ := k3 rfl
   exact ⟨_, _, rfl, Cel_drop (row_cel g2 g8 g9 k4 he)⟩
  ·cases hh
 ·cases hh
  simp only [RV] at hx
  obtain ⟨b, o, rfl, hc⟩ := hx
  exact ⟨b, o, rfl, jZo hc⟩
 ·cases hh
theorem Cel_list : ∀ (n : Nat) {b o : Nat} {cs : List V}, Cel S w κ b o cs → n ≤ cs.length →
  ∃ vs : List Value, vs.length = n ∧ RL S w κ (cs.take n) vs ∧ ∀ j v, vs[j]? = some v → w.cell? ⟨b, o + j, none⟩ = some v
 | 0, b, o, cs, _, _ => ⟨[], rfl, by simp [RL], fun j v h => by simp at h⟩
 | n + 1, b, o, [], _, hn => by simp at hn
 | n + 1, b, o, c :: cs, hc, hn => by
  obtain ⟨v, h1, h2⟩ := hc 0 c rfl
  have hc' : Cel S w κ b (o + 1) cs := by simpa using Cel_drop (n := 1) hc
  obtain ⟨vs, l, r, k⟩ := Cel_list n hc' (by simpa using hn)
  refine ⟨v :: vs, by simp [l], by simpa [RL] using ⟨h2, r⟩, fun j u hu => ?_⟩
  cases j with
  | zero => simp at hu; subst hu; exact h1
  | succ j =>
   simp at hu
   have := k j u hu
   rwa [Nat.add_assoc, Nat.add_comm 1 j] at this
theorem Cel_load {ag : Option Nat} {b o : Nat} {cs : List V} {t : TypeId} (ha : aggT P t = some ag) (hc : Cel S w κ b o cs) {z : V} (hz : ofCells ag cs = some z) :
  ∃ v, RV S w κ z v ∧ (loadVar t ⟨b, o, none⟩).run P w = .ok v w := by
 rcases xZI ha with ⟨h1, n, rfl, hn⟩ | ⟨h1, rfl⟩
 ·simp only [ofCells] at hz
  obtain ⟨hl, rfl⟩ := qZR hz
  obtain ⟨vs, l, r, k⟩ := Cel_list n hc hl
  refine ⟨.agg vs.toArray, ?_, ?_⟩
  ·simp only [RV]
   exact ⟨_, rfl, by simpa using r⟩
  ·have := run_loadCells_list (P := P) w ⟨b, o, none⟩ vs (fun j v hv => by rw [vZE]; exact k j v hv)
   rw [l] at this
   simp [loadVar, wZ5 h1, vZf hn, this]
 ·cases cs with
  | nil => simp [ofCells] at hz
  | cons c r =>
   simp only [ofCells, Option.some.injEq] at hz
   subst hz
   obtain ⟨v, h2, k⟩ := hc 0 c rfl
   refine ⟨v, k, ?_⟩
   rw [Nat.add_zero] at h2
   simp [loadVar, wZ5 h1, h2]
theorem load_sound (inv : Inv P B S w κ h) {t : TypeId} {ag : Option Nat} (ha : aggT P t = some ag) {x z : V} {u : Value} {h' : Heap}
  (hx : RV S w κ x u) (hh : okCells h ag (cellsAt h x) = some (z, h')) : h' = h ∧ ∃ v, RV S w κ z v ∧ (Instr.loadAt t u).run P w = .ok v w := by
 cases hc : cellsAt h x with
 | none => rw [hc] at hh; simp [okCells] at hh
 | some cs =>
  rw [hc] at hh
  obtain ⟨h1, h2⟩ := wZD hh
  obtain ⟨b, o, rfl, k⟩ := vZF inv hx hc
  obtain ⟨v, hv, r⟩ := Cel_load ha k h1
  exact ⟨h2, v, hv, by simp [Instr.loadAt, Instr.sureAddr, r]⟩
/-! ### Stores -/
def putA (c : Array Value) (o : Nat) : List Value → Array Value
 | [] => c
 | v :: r => putA (c.setIfInBounds o v) (o + 1) r
theorem vZs : ∀ (vs : List Value) (c : Array Value) (o : Nat), (putA c o vs).size = c.size
 | [], _, _ => rfl
 | v :: r, c, o => by rw [putA, vZs r]; simp
theorem wZ7 : ∀ (vs : List Value) (c : Array Value) (o : Nat), o + vs.length ≤ c.size → ∀ i,
  (putA c o vs)[i]? = if o ≤ i ∧ i < o + vs.length then vs[i - o]? else c[i]?
 | [], c, o, _, i => by simp [putA]; omega
 | v :: r, c, o, h, i => by
  simp only [List.length_cons] at h
  rw [putA, wZ7 r _ _ (by simp; omega) i]
  by_cases h1 : o + 1 ≤ i ∧ i < o + 1 + r.length
  ·rw [if_pos h1, if_pos (by simp; omega)]
   rw [show i - o = (i - (o + 1)) + 1 by omega]
   simp
  ·rw [if_neg h1]
   by_cases h2 : i = o
   ·rw [if_pos (by simp; omega), h2, Array.getElem?_setIfInBounds_self_of_lt (by omega)]
    simp
   ·rw [if_neg (by simp; omega), Array.getElem?_setIfInBounds_ne (Ne.symm h2)]
theorem xZj (vs : List Value) (c : Array Value) (o : Nat) (h : o + vs.length ≤ c.size) :
  (putA c o vs).toList = c.toList.take o ++ vs ++ c.toList.drop (o + vs.length) := by
 apply List.ext_getElem?
 intro i
 have := wZ7 vs c o h i
 rw [Array.getElem?_toList, this]
 have l1 : (c.toList.take o).length = o := by simp; omega
 have l2 : (c.toList.take o ++ vs).length = o + vs.length := by simp; omega
 rw [List.getElem?_append, List.getElem?_append, l1, l2]
 by_cases h1 : i < o
 ·rw [if_neg (by omega), if_pos (by omega), if_pos h1, List.getElem?_take, if_pos h1, Array.getElem?_toList]
 ·by_cases h2 : i < o + vs.length
  ·rw [if_pos (by omega), if_pos h2, if_neg h1]
  ·rw [if_neg (by omega), if_neg h2, List.getElem?_drop, Array.getElem?_toList]
   congr 1; omega
theorem xZu (w : World) (b : Nat) (o o' : Obj) : World.withBlock (World.withBlock w b o) b o' = World.withBlock w b o' := by
 simp [World.withBlock]
theorem vZS (w : World) (b : Nat) (o : Obj) (h : w.heap[b]? = some o) : World.withBlock w b o = w := by
 obtain ⟨hb, he⟩ := Array.getElem?_eq_some_iff.1 h
 have : w.heap.setIfInBounds b o = w.heap := by
  apply Array.ext_getElem?
  intro i
  by_cases e : i = b
  ·subst e; rw [Array.getElem?_setIfInBounds_self_of_lt hb, h]
  ·rw [Array.getElem?_setIfInBounds_ne (Ne.symm e)]
 unfold World.withBlock
 rw [this]
theorem wZI (w : World) (b o : Nat) (v : Value) {c : Array Value} {el : TypeId} {fr : Nat × Nat} (h : w.heap[b]? = some (.cells c el fr)) :
  w.setCell ⟨b, o, none⟩ v = World.withBlock w b (.cells (c.setIfInBounds o v) el fr) := by
 obtain ⟨hb, he⟩ := Array.getElem?_eq_some_iff.1 h
 unfold World.setCell World.withBlock
 congr 1
 apply Array.ext_getElem?
 intro i
 by_cases e : i = b
 ·subst e
  rw [Array.getElem?_setIfInBounds_self_of_lt hb]
  simp [Array.getElem?_modify, h]
 ·rw [Array.getElem?_setIfInBounds_ne (Ne.symm e)]
  simp [Array.getElem?_modify]
  intro e'
  exact absurd e'.symm e
theorem qZ2 {b : Nat} {el : TypeId} {fr : Nat × Nat} : ∀ (vs : List Value) (o i : Nat) (c : Array Value) (w : World), w.heap[b]? = some (.cells c el fr) → NF fr c.size →
  o + i + vs.length ≤ c.size → (∀ v ∈ vs, v.oneCell' = true) →
  (storeCells ⟨b, o, none⟩ vs i).run P w = .ok () (World.withBlock w b (.cells (putA c (o + i) vs) el fr))
 | [], o, i, c, w, h, _, _, _ => by simp [storeCells, putA, vZS w b _ h]
 | v :: r, o, i, c, w, h, nf, hl, h1 => by
  simp only [List.length_cons] at hl
  have hb := (Array.getElem?_eq_some_iff.1 h).1
  have hc : w.cell? ⟨b, o + i, none⟩ = some (c[o + i]'(by omega)) := by rw [wZi w b _ h]; simp
  have hf : w.frozen? ⟨b, o + i, none⟩ = false := by
   simp only [World.frozen?, h]
   have := nf (o + i) (by omega)
   simp only [Bool.and_eq_false_iff, decide_eq_false_iff_not]
   omega
  have hst : (store ((⟨b, o, none⟩ : Addr).add i) v).run P w = .ok () (World.withBlock w b (.cells (c.setIfInBounds (o + i) v) el fr)) := by
   rw [vZE, run_store P w _ v _ (h1 v (by simp))]
   simp only [hc, hf, Bool.false_eq_true, if_false]
   rw [wZI w b _ v h]
  have ih := qZ2 r o (i + 1) (c.setIfInBounds (o + i) v) (World.withBlock w b (.cells (c.setIfInBounds (o + i) v) el fr))
   (qZH _ _ _ hb) (by simpa using nf) (by simp; omega) (fun x hx => h1 x (by simp [hx]))
  simp only [storeCells, Sem.run_bind, hst, Result.andThen_ok, ih, xZu, putA]
  rw [show o + (i + 1) = o + i + 1 by omega]
theorem isCell_one {x : V} {v : Value} (hx : RV S w κ x v) (hc : x.isCell = true) : v.oneCell' = true := by
 cases x <;> simp [V.isCell] at hc <;> (try simp only [RV] at hx)
 case bool => subst hx; rfl
 case int => subst hx; rfl
 case str => subst hx; rfl
 case nilp => subst hx; rfl
 case ptr => obtain ⟨_, _, rfl⟩ := hx; rfl
 case eptr => obtain ⟨_, _, _, _, _, _, _, _, rfl, _⟩ := hx; rfl
 case iptr => obtain ⟨_, _, rfl, _⟩ := hx; rfl
 case nils => subst hx; rfl
 case nile => obtain ⟨_, rfl⟩ := hx; rfl
 case arr => obtain ⟨_, _, rfl, _⟩ := hx; rfl
 case sl => obtain ⟨_, _, _, _, _, _, _, _, _, rfl, _⟩ := hx; rfl
 case nilm => subst hx; rfl
 case map => obtain ⟨_, _, rfl⟩ := hx; rfl
 case nilf => subst hx; rfl
 case fn f a c =>
  cases f <;> simp only [RV] at hx
  case yield => obtain ⟨_, _, rfl, _⟩ := hx; rfl
  all_goals (obtain ⟨_, _, rfl, _⟩ := hx; rfl)
 case nili => subst hx; rfl
 case ifc => obtain ⟨_, rfl, _⟩ := hx; rfl
theorem vZL : ∀ {xs : List V} {vs : List Value}, RL S w κ xs vs → xs.all V.isCell = true → ∀ v ∈ vs, v.oneCell' = true
 | [], [], _, _, v, hv => by simp at hv
 | [], _ :: _, h, _, _, _ => by simp [RL] at h
 | _ :: _, [], h, _, _, _ => by simp [RL] at h
 | x :: xs, u :: vs, h, hc, v, hv => by
  simp only [RL] at h
  simp only [List.all_cons, Bool.and_eq_true] at hc
  rcases List.mem_cons.1 hv with rfl | hv
  ·exact isCell_one h.1 hc.1
  ·exact vZL h.2 hc.2 v hv
theorem vZ6 {cs ys zs : List V} {off : Nat} (hh : setRange cs off ys = some zs) :
  off + ys.length ≤ cs.length ∧ zs = cs.take off ++ ys ++ cs.drop (off + ys.length) := by
 unfold setRange at hh
 obtain ⟨h1, h2⟩ := qZR hh
 exact ⟨h1, h2.symm⟩
theorem wZp {c : Array Value} {vs : List Value} {o : Nat} (h : o + vs.length ≤ c.size) (p n : Nat) :
  (p + n ≤ o ∨ o + vs.length ≤ p) → ((putA c o vs).toList.drop p).take n = (c.toList.drop p).take n := by
 intro hp
 apply List.ext_getElem?
 intro i
 simp only [List.getElem?_take, List.getElem?_drop, Array.getElem?_toList]
 by_cases hi : i < n
 ·rw [if_pos hi, if_pos hi, wZ7 vs c o h, if_neg (by omega)]
 ·rw [if_neg hi, if_neg hi]
theorem put_in {c : Array Value} {vs : List Value} {base off sz : Nat} (h : base + sz ≤ c.size) (h2 : off + vs.length ≤ sz) :
  ((putA c (base + off) vs).toList.drop base).take sz =
   ((c.toList.drop base).take sz).take off ++ vs ++ ((c.toList.drop base).take sz).drop (off + vs.length) := by
 apply List.ext_getElem?
 intro i
 have l0 : ((c.toList.drop base).take sz).length = sz := by simp; omega
 have l1 : (((c.toList.drop base).take sz).take off).length = off := by rw [List.length_take, l0]; omega
 have l2 : (((c.toList.drop base).take sz).take off ++ vs).length = off + vs.length := by rw [List.length_append, l1]
 rw [List.getElem?_append, List.getElem?_append, l1, l2]
 simp only [List.getElem?_take, List.getElem?_drop, Array.getElem?_toList]
 rw [wZ7 vs c (base + off) (by omega)]
 by_cases hi : i < sz
 ·rw [if_pos hi]
  by_cases h1 : i < off
  ·rw [if_neg (by omega), if_pos (by omega), if_pos h1, if_pos h1, if_pos hi]
  ·by_cases h3 : i < off + vs.length
   ·rw [if_pos (by omega), if_pos h3, if_neg h1]
    congr 1; omega
   ·rw [if_neg (by omega), if_neg h3, if_pos (by omega)]
    congr 1; omega
 ·rw [if_neg hi, if_neg (by omega), if_neg (by omega)]
theorem store_sound (inv : Inv P B S w κ h) {t : TypeId} {n : Nat} (hn : sizeT P t = some n) {p x z : V} {u v : Value} {h' : Heap}
  (hp : RV S w κ p u) (hx : RV S w κ x v) (hh : evStoreV h n p x = some (z, h')) :
  ∃ w' κ', (Instr.storeAt t u v).run P w = .ok () w' ∧ z = V.non ∧ Inv P B S w' κ' h' ∧ Stp B S w κ S w' κ' := by
 unfold evStoreV at hh
 obtain ⟨⟨hlen, hall⟩, hq⟩ := zZN hh
 clear hh
 have hxu : x ≠ .undef := by
  rintro rfl
  simp [V.cells, V.isCell] at hall
 have hr := kZJ hx hxu
 have hl := qZS hr
 have hone := vZL hr hall
 have hvs : v.cells.size = n := by simpa [hlen] using hl.symm
 have hvl : v.cells.toList.length = n := by simpa using hvs
 unfold evStore at hq
 split at hq
 ·rename_i id off
  split at hq
  ·rename_i cs hi
   split at hq
   ·rename_i cs' hset
    simp only [qZW, Option.some.injEq, Prod.mk.injEq] at hq
    obtain ⟨rfl, rfl⟩ := hq
    obtain ⟨s1, rfl⟩ := vZ6 hset
    obtain ⟨b, c, el, fr, h1, h2, h3, h4, h5, h6⟩ := inv.obs _ _ hi
    simp only [RV] at hp
    obtain ⟨b', k1, rfl⟩ := hp
    rw [h1] at k1; cases k1
    have hcl := qZS h4
    simp at hcl
    have hb := (Array.getElem?_eq_some_iff.1 h2).1
    have hfit : off + 0 + v.cells.toList.length ≤ c.size := by omega
    have hrun := qZ2 (P := P) v.cells.toList off 0 c w h2 h3 hfit hone
    have hW := Inv.write inv h1 (.cells (putA c (off + 0) v.cells.toList) el fr) (.blk b) (.refl _) rfl
     (.cells (cs.take off ++ x.cells ++ cs.drop (off + x.cells.length))) (fun o hs => absurd hs (h6 o)) (fun sle kle => by
      refine ⟨b, _, el, fr, qZo _ _ _, qZH _ _ _ hb, by rw [vZs]; exact h3, ?_, ?_, h6⟩
      ·rw [xZj _ _ _ hfit]
       rw [show off + 0 = off by omega, hvl, hlen]
       exact vZd (vZd (wZA _ (RL.mono sle kle _ _ h4)) (RL.mono sle kle _ _ hr)) (wZz _ (RL.mono sle kle _ _ h4))
      ·simp only [List.all_append, Bool.and_eq_true]
       refine ⟨⟨?_, hall⟩, ?_⟩
       ·exact List.all_eq_true.2 fun y hy => List.all_eq_true.1 h5 y (List.mem_of_mem_take hy)
       ·exact List.all_eq_true.2 fun y hy => List.all_eq_true.1 h5 y (List.mem_of_mem_drop hy))
    refine ⟨_, _, ?_, rfl, hW.1, hW.2⟩
    simp [Instr.storeAt, Instr.sureAddr, storeVar, hvs, vZf hn, hrun, Ko.block]
   ·cases hq
  ·cases hq
 ·rename_i id ep idx off
  split at hq
  ·rename_i sz xs cur hi
   obtain ⟨hep, h2'⟩ := zZN hq
   clear hq
   subst hep
   split at h2'
   ·rename_i e he
    split at h2'
    ·rename_i e' hset
     simp only [qZW, Option.some.injEq, Prod.mk.injEq] at h2'
     obtain ⟨rfl, rfl⟩ := h2'
     obtain ⟨s1, rfl⟩ := vZ6 hset
     obtain ⟨b, st, cp, c, el, fr, g1, g2, g3, g4, g5, g6, g7, g8, g9, g10, g11⟩ := vZk inv hi
     simp only [RV] at hp
     obtain ⟨ee, b', st', cp', sz', p, k1, k2, rfl, k3⟩ := hp
     rw [g1] at k1; cases k1
     obtain ⟨k4, rfl⟩ := k3 rfl
     have hb := (Array.getElem?_eq_some_iff.1 g2).1
     have hel := (g8 e (List.mem_of_getElem? he)).1
     have hil : idx < xs.length := (List.getElem?_eq_some_iff.1 he).1
     have hbound : (idx - st) * sz + sz ≤ c.size := by
      rw [g5, ← Nat.succ_mul]
      exact Nat.mul_le_mul_right _ (by omega)
     have hfit : (idx - st) * sz + off + 0 + v.cells.toList.length ≤ c.size := by omega
     have hrun := qZ2 (P := P) v.cells.toList ((idx - st) * sz + off) 0 c w g2 g3.1 hfit hone
     have hns := g11 rfl
     have hW := Inv.write inv g1 (.cells (putA c ((idx - st) * sz + off + 0) v.cells.toList) el fr) (.row ep b st cp sz) (.refl _) rfl
      (.row sz (xs.set idx (e.take off ++ x.cells ++ e.drop (off + x.cells.length))) ep true) (fun o hs => absurd hs (hns o)) (fun sle kle => by
       refine ⟨b, st, cp, _, el, fr, qZo _ _ _, qZH _ _ _ hb, by rw [vZs]; exact g3, g4, by rw [vZs]; exact g5,
        by simpa using g6, by simpa using g7, ?_, ?_, by simpa using g10, fun _ => hns⟩
       ·intro y hy
        rcases List.mem_or_eq_of_mem_set hy with hy | rfl
        ·exact g8 y hy
        ·refine ⟨by simp; omega, ?_⟩
         have ha := (g8 e (List.mem_of_getElem? he)).2
         simp only [List.all_append, Bool.and_eq_true]
         refine ⟨⟨?_, hall⟩, ?_⟩
         ·exact List.all_eq_true.2 fun y hy => List.all_eq_true.1 ha y (List.mem_of_mem_take hy)
         ·exact List.all_eq_true.2 fun y hy => List.all_eq_true.1 ha y (List.mem_of_mem_drop hy)
       ·intro i y hi' hy
        by_cases hii : i = idx
        ·subst hii
         rw [List.getElem?_set_self hil] at hy
         cases hy
         have hold := RL.mono sle kle _ _ (g9 i e k4 he)
         rw [Nat.add_zero, put_in hbound (by omega), hvl, hlen]
         exact vZd (vZd (wZA _ hold) (RL.mono sle kle _ _ hr)) (wZz _ hold)
        ·rw [List.getElem?_set_ne (Ne.symm hii)] at hy
         have hold := g9 i y hi' hy
         rw [wZp hfit]
         ·exact RL.mono sle kle _ _ hold
         ·rcases Nat.lt_or_ge i idx with hlt | hge
          ·left
           have : (i - st + 1) * sz ≤ (idx - st) * sz := Nat.mul_le_mul_right _ (by omega)
           rw [Nat.succ_mul] at this
           omega
          ·right
           have : (idx - st + 1) * sz ≤ (i - st) * sz := Nat.mul_le_mul_right _ (by omega)
           rw [Nat.succ_mul] at this
           omega)
     refine ⟨_, _, ?_, rfl, hW.1, hW.2⟩
     simp [Instr.storeAt, Instr.sureAddr, storeVar, hvs, vZf hn, hrun, Ko.block]
    ·cases h2'
   ·cases h2'
  ·cases hq
 ·cases hq
end
open Go.RowKit
section
variable {P : Program} {G : Glob} {B : Base G} {S : Cells} {w : World} {κ : Kap} {h : Heap}
theorem jZO (n : Nat) : NF (0, 0) n := fun o _ x => by simp at x
theorem wZC {v : Value} {x : V} (hh : ofCell v = some x) : x.isCell = true := by
 unfold ofCell at hh
 split at hh
 case h_9 =>
  split at hh
  ·cases hh; rfl
  ·cases hh
 all_goals (cases hh <;> rfl)
theorem wZw : ∀ {vs : List Value} {xs : List V}, ofCellList vs = some xs → xs.all V.isCell = true
 | [], xs, hh => by simp [ofCellList] at hh; subst hh; rfl
 | v :: vs, xs, hh => by
  unfold ofCellList at hh
  split at hh
  ·rename_i x xs' h1 h2
   cases hh
   simp [wZC h1, wZw h2]
  ·cases hh
theorem vZi {v : Value} {x : V} (hh : ofConst v = some x) : RL S w κ x.cells v.cells.toList ∧ x.cells.all V.isCell = true := by
 refine ⟨kZJ (vZ5 hh) ?_, ?_⟩
 ·rintro rfl
  unfold ofConst at hh
  split at hh
  ·simp at hh
  ·have := wZC hh; simp [V.isCell] at this
 ·unfold ofConst at hh
  split at hh
  ·simp only [Option.map_eq_some_iff] at hh
   obtain ⟨l, hl, rfl⟩ := hh
   exact wZw hl
  ·have := wZC hh
   cases x <;> simp_all [V.cells, V.isCell]
theorem wZy {t : TypeId} {z : V} (hh : zeroT P t = some z) : ∃ v, ofConst v = some z ∧ ∀ w', (zeroValue t).run P w' = .ok v w' := by
 unfold zeroT at hh
 simp only [Option.bind_eq_some_iff] at hh
 obtain ⟨i, hi, v, hv, hz⟩ := hh
 exact ⟨v, hz, fun w' => by simp [zeroValue, typeInfo, hi, hv]⟩
theorem vZl {t : TypeId} {p : Nat × Nat × List V} (hh : elemT P t = some p) :
  ∃ i v z, P.info? t = some i ∧ i.zero = some v ∧ ofConst v = some z ∧ p = (i.size, i.bytes, z.cells) ∧ i.size ≠ 0 ∧ i.bytes ≠ 0 ∧ v.cells.size = i.size ∧
   (∀ w', (zeroValue t).run P w' = .ok v w') ∧ (∀ w', (sizeOf t).run P w' = .ok i.size w') ∧ (∀ w', (typeInfo t).run P w' = .ok i w') := by
 unfold elemT at hh
 split at hh
 ·rename_i i hi
  split at hh
  ·rename_i v hv
   split at hh
   ·rename_i z hz
    obtain ⟨hc, rfl⟩ := qZR hh
    exact ⟨i, v, z, hi, hv, hz, rfl, hc.1, hc.2.1, hc.2.2, fun w' => by simp [zeroValue, typeInfo, hi, hv], fun w' => by simp [sizeOf, typeInfo, hi], fun w' => by simp [typeInfo, hi]⟩
   ·cases hh
  ·cases hh
 ·cases hh
theorem kZc (inv : Inv P B S w κ h) : κ h.length = none := by
 cases hk : κ h.length with
 | none => rfl
 | some k => exact absurd (inv.dom _ _ hk).1 (by omega)
theorem kZ9 (inv : Inv P B S w κ h) {cs : List V} {c : Array Value} (el : TypeId) (hr : RL S w κ cs c.toList) (hc : cs.all V.isCell = true) :
  Inv P B S (w.alloc (.cells c el)) (upd κ h.length (.blk w.heap.size)) (h ++ [.cells cs]) ∧
  Stp B S w κ S (w.alloc (.cells c el)) (upd κ h.length (.blk w.heap.size)) ∧
  RV S (w.alloc (.cells c el)) (upd κ h.length (.blk w.heap.size)) (.ptr h.length 0) (.pointer (some ⟨w.heap.size, 0, none⟩)) := by
 have := Inv.fresh inv h.length (Nat.le_refl _) (.cells c el) (.blk w.heap.size) (fun k hk => by rw [kZc inv] at hk; cases hk) rfl (h ++ [.cells cs])
  (fun i o hi ho => by
   rw [List.getElem?_append] at ho
   split at ho
   ·exact ho
   ·rename_i hge
    rw [List.getElem?_eq_none (by simp; omega)] at ho
    cases ho)
  (by simp) (by simp) (fun sle kle o ho => by
   simp at ho
   subst ho
   refine ⟨w.heap.size, c, el, (0, 0), qZo _ _ _, vZt _ _, jZO _, RL.mono sle kle _ _ hr, hc, fun o ho => ?_⟩
   exact absurd (inv.sb _ _ ho) (by omega))
 refine ⟨this.1, this.2, ?_⟩
 simp only [RV]
 exact ⟨_, qZo _ _ _, rfl⟩
theorem xZa (inv : Inv P B S w κ h) {xs : List (List V)} {c : Array Value} (el : TypeId) (cp sz : Nat) (h0 : 0 < sz) (hsz : c.size = cp * sz) (hl : xs.length ≤ cp)
  (hx : ∀ e ∈ xs, e.length = sz ∧ e.all V.isCell = true) (hr : RR S w κ xs 0 sz c.toList) :
  Inv P B S (w.alloc (.cells c el)) (upd κ h.length (.row 0 w.heap.size 0 cp sz)) (h ++ [.row sz xs 0 true]) ∧
  Stp B S w κ S (w.alloc (.cells c el)) (upd κ h.length (.row 0 w.heap.size 0 cp sz)) ∧
  RV S (w.alloc (.cells c el)) (upd κ h.length (.row 0 w.heap.size 0 cp sz)) (.sl h.length 0 0 xs.length) (.slice (some ⟨w.heap.size, 0, none⟩) xs.length cp) := by
 have := Inv.fresh inv h.length (Nat.le_refl _) (.cells c el) (.row 0 w.heap.size 0 cp sz) (fun k hk => by rw [kZc inv] at hk; cases hk) rfl (h ++ [.row sz xs 0 true])
  (fun i o hi ho => by
   rw [List.getElem?_append] at ho
   split at ho
   ·exact ho
   ·rename_i hge
    rw [List.getElem?_eq_none (by simp; omega)] at ho
    cases ho)
  (by simp) (by simp) (fun sle kle o ho => by
   simp at ho
   subst ho
   refine ⟨w.heap.size, 0, cp, c, el, (0, 0), qZo _ _ _, vZt _ _, ⟨jZO _, fun _ => jZO _⟩, h0, hsz, by omega, by omega, hx,
    fun i e hi he => RL.mono sle kle _ _ (hr i e hi he), fun o _ ho => ?_, fun _ o ho => ?_⟩
   all_goals exact absurd (inv.sb _ _ ho) (by omega))
 refine ⟨this.1, this.2, ?_⟩
 simp only [RV]
 exact ⟨0, _, 0, cp, sz, _, _, qZo _ _ _, Nat.le_refl _, rfl, hl, fun _ => ⟨by omega, by omega, by omega, .inr (by simp)⟩⟩
theorem Good.ret {x : V} {s : Sem Value} {h' : Heap} (hs : ∃ v w' S' κ', s.run P w = .ok v w' ∧ Inv P B S' w' κ' h' ∧ Stp B S w κ S' w' κ' ∧ RV S' w' κ' x v) :
  Good P B S w κ h' x (do pure (.value (← s))) :=
 let ⟨v, w', S', κ', hr, a, b, c⟩ := hs
 ⟨v, w', S', κ', .inl (by simp [hr]), a, b, c⟩
theorem alloc_sound (inv : Inv P B S w κ h) {t : TypeId} {z : V} (hz : zeroT P t = some z) :
  ∃ v w' S' κ', (Instr.alloc t true (.tuple #[])).run P w = .ok v w' ∧ Inv P B S' w' κ' (h ++ [.cells z.cells]) ∧ Stp B S w κ S' w' κ' ∧ RV S' w' κ' (.ptr h.length 0) v := by
 obtain ⟨v, hv, hrun⟩ := wZy hz
 obtain ⟨hr, hc⟩ := vZi (S := S) (w := w) (κ := κ) hv
 obtain ⟨a, b, c⟩ := kZ9 inv t hr hc
 exact ⟨_, _, _, _, by simp [Instr.alloc, hrun, newVar, newRow], a, b, c⟩
theorem box_sound (inv : Inv P B S w κ h) {t : TypeId} {x z : V} {u : Value} {h' : Heap} (hx : RV S w κ x u) (hh : evBox h x.cells = some (z, h')) :
  ∃ v w' S' κ', (Instr.box t u).run P w = .ok v w' ∧ Inv P B S' w' κ' h' ∧ Stp B S w κ S' w' κ' ∧ RV S' w' κ' z v := by
 unfold evBox at hh
 obtain ⟨hc, h1⟩ := zZN hh
 simp only [qZ4, Option.some.injEq, Prod.mk.injEq] at h1
 obtain ⟨rfl, rfl⟩ := h1
 have hxu : x ≠ .undef := by rintro rfl; simp [V.cells, V.isCell] at hc
 obtain ⟨a, b, c⟩ := kZ9 inv t (kZJ hx hxu) hc
 exact ⟨_, _, _, _, by simp [Instr.box, newVar, newRow], a, b, c⟩
end
end Go.Ev
