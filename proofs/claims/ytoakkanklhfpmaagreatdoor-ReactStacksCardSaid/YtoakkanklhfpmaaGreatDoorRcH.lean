/- Lists cloned; reactions in the heap. No conditions. -/
import Derived.Test.YtoakkanklhfpmaaGreatDoorRcD
set_option maxHeartbeats 16000000
set_option maxRecDepth 100000
set_option linter.unusedVariables false
set_option linter.unusedSimpArgs false
set_option linter.unusedSectionVars false
namespace Go.Proofs.Rc
open Go Go.Ev
def clnV (L : Nat) (xs : List (List V)) : V := if xs = [] then .nile else .sl L 1 0 xs.length
def clnE (sz : Nat) (xs : List (List V)) : Heap := if xs = [] then [] else [.row sz xs 1 true]
def clnO (L : Nat) (xs : List (List V)) : Option Nat := if xs = [] then none else some L
theorem cln_run {f : FuncId} {sz by_ : Nat} (hf : Φ f = some (primClone sz by_)) {xs : List (List V)} (hp : plainR sz xs) (hr : xs.length * by_ ≤ roomB) {x : V} {H : Heap} (hx : elemsOf H x = some xs) (hn : x ≠ .nils) (hs : ∀ s, x ≠ .str s) :
  callW Φ (.fn (.func f) [] []) [x] H = some (clnV H.length xs, H ++ clnE sz xs) := by
 have he : evCln H sz by_ x = some (clnV H.length xs, H ++ clnE sz xs) := by
  unfold evCln clnV clnE
  rw [hx]
  cases xs with
  | nil =>
   simp only [if_true, List.append_nil]
   all_goals (cases x <;> first | rfl | exact absurd rfl hn | exact absurd rfl (hs _))
  | cons e es =>
   have hz := jZK hp
   simp only [if_neg (List.cons_ne_nil e es), hr, hz, and_self, if_true, vZL, vZU]
   all_goals (cases x <;> first | rfl | exact absurd rfl (hs _))
 obtain ⟨r, h', h1, h2, h3⟩ := wZS (f := f) (cf := primClone sz by_) hf rfl (caps := []) (args := [x]) (h := H) (P := fun r h' => r = clnV H.length xs ∧ h' = H ++ clnE sz xs) (by simp [primClone]) (fun env hl h0 => by
  have g0 := h0 0 (by simp)
  change eget env 0 = x at g0
  have hl' : env.length = 1 := hl
  simp [primClone, eo_cln, g0, he, hl'])
 rw [h1, h2, h3]
theorem cln_vl {sz : Nat} {xs : List (List V)} (hp : plainR sz xs) (H : Heap) : VL (H ++ clnE sz xs) sz (clnV H.length xs) (clnO H.length xs) xs := by
 unfold clnV clnE clnO
 by_cases h : xs = []
 ·subst h
  simp only [if_true]
  exact VL.nile _ _
 ·simp only [if_neg h]
  exact .inr ⟨H.length, 1, rfl, rfl, by simp, hp⟩
theorem kZU {L : Nat} {xs : List (List V)} {id : Nat} (h : clnO L xs = some id) : L ≤ id := by
 unfold clnO at h
 split at h
 ·cases h
 ·cases h; exact Nat.le_refl _
theorem cln_keep {H : Heap} {sz : Nat} {xs : List (List V)} {j : Nat} (h : j < H.length) : (H ++ clnE sz xs)[j]? = H[j]? := List.getElem?_append_left h
theorem plainX (l : List Rx) : plainR 12 (l.map cX) := plainR.map (enc := cX) (fun _ => rfl) (fun _ => rfl) (fun _ => rfl) l
theorem plainI (l : List Int) : plainR 1 (l.map cI) := plainR.map (enc := cI) (fun _ => rfl) (fun _ => rfl) (fun _ => rfl) l
theorem cln_i (l : List Int) (hz : SzL l) (H : Heap) : callW Φ vZO [.arr (l.map cI)] H = some (clnV H.length (l.map cI), H ++ clnE 1 (l.map cI)) :=
 cln_run vZO.Φ (plainI l) (by unfold SzL at hz; rw [List.length_map]; unfold roomB; omega) rfl (by simp) (by simp)
theorem cln_x (l : List Rx) (hz : l.length ≤ 2 ^ 40) (H : Heap) : callW Φ qZO [.arr (l.map cX)] H = some (clnV H.length (l.map cX), H ++ clnE 12 (l.map cX)) :=
 cln_run qZO.Φ (plainX l) (by rw [List.length_map]; unfold roomB; omega) rfl (by simp) (by simp)
def Ow (o : Option Nat) (os : List (Option Nat)) (id : Nat) : Prop := o = some id ∨ some id ∈ os
structure Own (H : Heap) (lo : Nat) (v0 v1 v2 : V) (o0 o1 o2 : Option Nat) (os0 os1 : List (Option Nat)) (Q : List Qu) (T : List (List Int)) (B : List Int) (ex0 ex1 : List (List V)) : Prop where
 q : VQ H 2 12 v0 o0 os0 (Q.map cQu) ex0
 t : VQ H 1 1 v1 o1 os1 (T.map cL) ex1
 b : VS H 1 v2 o2 (B.map cI)
 l0 : ∀ id, Ow o0 os0 id → lo ≤ id
 l1 : ∀ id, Ow o1 os1 id → lo ≤ id
 l2 : ∀ id, o2 = some id → lo ≤ id
 a01 : ∀ id, Ow o0 os0 id → ¬ Ow o1 os1 id
 a02 : ∀ id, Ow o0 os0 id → o2 ≠ some id
 a12 : ∀ id, Ow o1 os1 id → o2 ≠ some id
theorem VQ.ow {H : Heap} {sz z : Nat} {v : V} {o : Option Nat} {os : List (Option Nat)} {ps ex : List (List V)} (h : VQ H sz z v o os ps ex) {id : Nat} (ho : Ow o os id) : id < H.length := ho.elim (h.lt.1 id) (h.lt.2 id)
section
variable {H H' : Heap} {lo : Nat} {v0 v1 v2 : V} {o0 o1 o2 : Option Nat} {os0 os1 : List (Option Nat)} {Q : List Qu} {T : List (List Int)} {B : List Int} {ex0 ex1 : List (List V)}
theorem Own.mono (h : Own H lo v0 v1 v2 o0 o1 o2 os0 os1 Q T B ex0 ex1) (hk : ∀ id, lo ≤ id → id < H.length → H'[id]? = H[id]?) : Own H' lo v0 v1 v2 o0 o1 o2 os0 os1 Q T B ex0 ex1 :=
 ⟨h.q.mono fun id e => hk id (h.l0 id e) (h.q.ow e), h.t.mono fun id e => hk id (h.l1 id e) (h.t.ow e), h.b.mono fun id e => hk id (h.l2 id e) (h.b.lt e), h.l0, h.l1, h.l2, h.a01, h.a02, h.a12⟩
theorem Own.low (h : Own H lo v0 v1 v2 o0 o1 o2 os0 os1 Q T B ex0 ex1) {lo' : Nat} (hl : lo' ≤ lo) : Own H lo' v0 v1 v2 o0 o1 o2 os0 os1 Q T B ex0 ex1 :=
 ⟨h.q, h.t, h.b, fun id e => Nat.le_trans hl (h.l0 id e), fun id e => Nat.le_trans hl (h.l1 id e), fun id e => Nat.le_trans hl (h.l2 id e), h.a01, h.a02, h.a12⟩
theorem Own.addQ (h : Own H lo v0 v1 v2 o0 o1 o2 os0 os1 Q T B [] ex1) (hlo : lo ≤ H.length) (hk : ∀ id, id < H.length → H'[id]? = H[id]?) (hl : H.length ≤ H'.length) {e : List V} {oe : Option Nat} {q : Qu} (he : El H' 12 e oe (cQu q)) (hoe : ∀ id, oe = some id → H.length ≤ id) (hr : Q.length < 2 ^ 42) :
  ∃ v0' o0' S, evApp (H' ++ [.row 2 [e] 0 true]) 2 32 v0 (.sl H'.length 0 0 1) = some (v0', S) ∧ Own S lo v0' v1 v2 o0' o1 o2 (os0 ++ [oe]) os1 (Q ++ [q]) T B [] ex1 ∧ H'.length ≤ S.length ∧ ∀ j, j < lo → S[j]? = H[j]? := by
 have h2 := h.mono (H' := H') fun id _ hi => hk id hi
 obtain ⟨v', o', S, e1, hv, l1, k1, n1⟩ := h2.q.add (by_ := 32) he (by rw [he.len]; rfl) (fun o' ho' id hid hoe' => by have := h.q.ow (.inr (hid ▸ ho')); have := hoe id hoe'; omega)
  (fun id hid hoe' => by have := h.q.ow (.inl hid); have := hoe id hoe'; omega) (by rw [List.length_map]; unfold roomB; omega)
 have fr : ∀ id, Ow o' (os0 ++ [oe]) id → Ow o0 os0 id ∨ H.length ≤ id := fun id hid => by
  rcases hid with hid | hid
  ·rcases n1 id hid with h3 | h3
   ·exact .inl (.inl h3)
   ·right; omega
  ·rcases List.mem_append.1 hid with h3 | h3
   ·exact .inl (.inr h3)
   ·exact .inr (hoe id (List.mem_singleton.1 h3).symm)
 refine ⟨v', o', S, e1, ⟨by simpa using hv, h2.t.mono fun id e => k1 id (h2.t.ow e) (fun e2 => h.a01 id (.inl e2) e), h2.b.mono fun id e => k1 id (h2.b.lt e) (fun e2 => h.a02 id (.inl e2) e), fun id e => ?_, h.l1, h.l2, fun id e e2 => ?_, fun id e e2 => ?_, h.a12⟩, l1, fun j hj => ?_⟩
 ·rcases fr id e with e | e
  ·exact h.l0 id e
  ·omega
 ·rcases fr id e with e | e
  ·exact h.a01 id e e2
  ·have := h.t.ow e2; omega
 ·rcases fr id e with e | e
  ·exact h.a02 id e e2
  ·have := h.b.lt e2; omega
 ·rw [k1 j (by omega) (fun e => by have := h.l0 j (.inl e); omega), hk j (by omega)]
theorem Own.addT2 (h : Own H lo v0 v1 v2 o0 o1 o2 os0 os1 Q T B ex0 []) (hlo : lo ≤ H.length) (hk : ∀ id, id < H.length → H'[id]? = H[id]?) (hl : H.length ≤ H'.length) {e : List V} {oe : Option Nat} {q : List Int} (he : El H' 1 e oe (cL q)) (hoe : ∀ id, oe = some id → H.length ≤ id) (hr : (T.length + 1) * 24 ≤ 2 ^ 47) :
  ∃ v1' o1' S, evApp (H' ++ [.row 1 [e] 0 true]) 1 24 v1 (.sl H'.length 0 0 1) = some (v1', S) ∧ Own S lo v0 v1' v2 o0 o1' o2 os0 (os1 ++ [oe]) Q (T ++ [q]) B ex0 [] ∧ H'.length ≤ S.length ∧ (∀ j, j < lo → S[j]? = H[j]?) ∧ ∀ j, j < H.length → o1 ≠ some j → S[j]? = H[j]? := by
 have h2 := h.mono (H' := H') fun id _ hi => hk id hi
 obtain ⟨v', o', S, e1, hv, l1, k1, n1⟩ := h2.t.add (by_ := 24) he (by rw [he.len]; rfl) (fun o' ho' id hid hoe' => by have := h.t.ow (.inr (hid ▸ ho')); have := hoe id hoe'; omega)
  (fun id hid hoe' => by have := h.t.ow (.inl hid); have := hoe id hoe'; omega) (by rw [List.length_map]; unfold roomB; omega)
 have fr : ∀ id, Ow o' (os1 ++ [oe]) id → Ow o1 os1 id ∨ H.length ≤ id := fun id hid => by
  rcases hid with hid | hid
  ·rcases n1 id hid with h3 | h3
   ·exact .inl (.inl h3)
   ·right; omega
  ·rcases List.mem_append.1 hid with h3 | h3
   ·exact .inl (.inr h3)
   ·exact .inr (hoe id (List.mem_singleton.1 h3).symm)
 refine ⟨v', o', S, e1, ⟨h2.q.mono fun id e => k1 id (h2.q.ow e) (fun e2 => h.a01 id e (.inl e2)), by simpa using hv, h2.b.mono fun id e => k1 id (h2.b.lt e) (fun e2 => h.a12 id (.inl e2) e), h.l0, fun id e => ?_, h.l2, fun id e e2 => ?_, h.a02, fun id e e2 => ?_⟩, l1, fun j hj => ?_, fun j hj h1 => by rw [k1 j (by omega) h1, hk j hj]⟩
 ·rcases fr id e with e | e
  ·exact h.l1 id e
  ·omega
 ·rcases fr id e2 with e2 | e2
  ·exact h.a01 id e e2
  ·have := h.q.ow e; omega
 ·rcases fr id e with e | e
  ·exact h.a12 id e e2
  ·have := h.b.lt e2; omega
 ·rw [k1 j (by omega) (fun e => by have := h.l1 j (.inl e); omega), hk j (by omega)]
theorem Own.addT (h : Own H lo v0 v1 v2 o0 o1 o2 os0 os1 Q T B ex0 []) (hlo : lo ≤ H.length) (hk : ∀ id, id < H.length → H'[id]? = H[id]?) (hl : H.length ≤ H'.length) {e : List V} {oe : Option Nat} {q : List Int} (he : El H' 1 e oe (cL q)) (hoe : ∀ id, oe = some id → H.length ≤ id) (hr : (T.length + 1) * 24 ≤ 2 ^ 47) :
  ∃ v1' o1' S, evApp (H' ++ [.row 1 [e] 0 true]) 1 24 v1 (.sl H'.length 0 0 1) = some (v1', S) ∧ Own S lo v0 v1' v2 o0 o1' o2 os0 (os1 ++ [oe]) Q (T ++ [q]) B ex0 [] ∧ H'.length ≤ S.length ∧ ∀ j, j < lo → S[j]? = H[j]? := by
 obtain ⟨a, b, c, d, e, f, g, _⟩ := h.addT2 hlo hk hl he hoe hr
 exact ⟨a, b, c, d, e, f, g⟩
theorem Own.fz {d : Nat} {b : Bool} (h : Own H lo v0 v1 v2 o0 o1 o2 os0 os1 Q T B ex0 ex1) : ∃ H', fz (d + 4) H (.agg [v0, v1, v2, .bool b]) = some (.agg (cS ⟨Q, T, B, b⟩), H') ∧ H.length = H'.length ∧ ∀ j, ¬ Ow o0 os0 j → ¬ Ow o1 os1 j → o2 ≠ some j → H'[j]? = H[j]? := by
 obtain ⟨H1, f1, l1, k1⟩ := h.q.fz (d := d)
 have k1' : ∀ j, ¬ Ow o0 os0 j → H1[j]? = H[j]? := fun j hj => k1 j (fun e => hj (.inl e)) (fun e => hj (.inr e))
 have ht := h.t.mono (H' := H1) fun id e => k1' id fun e2 => h.a01 id e2 e
 obtain ⟨H2, f2, l2, k2⟩ := ht.fz (d := d)
 have k2' : ∀ j, ¬ Ow o1 os1 j → H2[j]? = H1[j]? := fun j hj => k2 j (fun e => hj (.inl e)) (fun e => hj (.inr e))
 have hb := (h.b.mono (h' := H1) fun id e => k1' id fun e2 => h.a02 id e2 e).mono (h' := H2) fun id e => k2' id fun e2 => h.a12 id e2 e
 obtain ⟨H3, f3, l3, k3⟩ := hb.fz (d := d + 1)
 refine ⟨H3, ?_, by omega, fun j h0 h1 h2 => by rw [k3 j h2, k2' j h1, k1' j h0]⟩
 show (mapH (Go.Ev.fz (d + 3)) H [v0, v1, v2, .bool b]).map (fun p => (V.agg p.1, p.2)) = _
 have e : ∀ (H : Heap), Go.Ev.fz (d + 3) H (.bool b) = some (.bool b, H) := fun H => rfl
 simp only [mapH, f1, f2, f3, e, Option.map_some]
end
theorem El.Q {H : Heap} {q : Qu} {v : V} {o : Option Nat} (h : VS H 12 v o (q.l.map cX)) : El H 12 [.int .i64 q.el, v] o (cQu q) := ⟨[.int .i64 q.el], [], v, _, rfl, rfl, rfl, rfl, h⟩
theorem El.T {H : Heap} {l : List Int} {v : V} {o : Option Nat} (h : VS H 1 v o (l.map cI)) : El H 1 [v] o (cL l) := ⟨[], [], v, _, rfl, rfl, rfl, rfl, h⟩
theorem bsQ (H : Heap) (n : Int) (v : V) (hv : v.isCell = true) : evBslice H [.int .i64 0, .nils] 1 2 [(0, .agg [.int .i64 n, v])] = some (.sl H.length 0 0 1, H ++ [.row 2 [[.int .i64 n, v]] 0 true]) := by
 have hcc : (V.agg [.int .i64 n, v]).cells = [.int .i64 n, v] := rfl
 have hall : ([.int .i64 n, v] : List V).all V.isCell = true := by simp only [List.all_cons, List.all_nil, hv]; rfl
 simp only [evBslice, List.map_cons, List.map_nil, placeParts, hcc, hall]
 simp [setRange, chunks, vZU]
theorem bsT (H : Heap) (v : V) (hv : v.isCell = true ∧ v.cells = [v]) : evBslice H [.nils] 1 1 [(0, v)] = some (.sl H.length 0 0 1, H ++ [.row 1 [[v]] 0 true]) := by
 simp only [evBslice, List.map_cons, List.map_nil, placeParts, hv.2, List.all_cons, List.all_nil, hv.1]
 simp [setRange, chunks, vZU]
theorem kZo {d : Nat} : ∀ (A E : Heap) (i : Nat) (r : Option Nat), (∀ o ∈ E, ∀ e, o ≠ .resv e) → findR d (A ++ .resv d :: E) i r = some (i + A.length)
 | [], E, i, r, h => by
  have : ∀ (E : Heap) (i : Nat) (r : Option Nat), (∀ o ∈ E, ∀ e, o ≠ .resv e) → findR d E i r = r := by
   intro E
   induction E with
   | nil => intro i r _; rfl
   | cons o E ih =>
    intro i r hE
    have h0 := hE o (by simp)
    have ih' := ih (i + 1) r fun o ho => hE o (by simp [ho])
    cases o <;> first | exact ih' | exact absurd rfl (h0 _)
  simp only [List.nil_append, findR, if_true, List.length_nil, Nat.add_zero]
  exact this E _ _ h
 | a :: A, E, i, r, h => by
  simp only [List.cons_append, findR, List.length_cons]
  rw [kZo A E _ _ h]
  congr 1; omega
theorem noR_cln (sz : Nat) (xs : List (List V)) : ∀ o ∈ clnE sz xs, ∀ e, o ≠ .resv e := by
 intro o ho e
 unfold clnE at ho
 split at ho
 ·cases ho
 ·rw [List.mem_singleton.1 ho]; simp
end Go.Proofs.Rc
