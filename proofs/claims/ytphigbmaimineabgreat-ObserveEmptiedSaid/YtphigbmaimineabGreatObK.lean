/- Lists in the heap whose elements hold a list each. A record's own copy. A record's own copy; a watch's. No conditions. -/
import Derived.Test.YtphigbmaimineabGreatObJ
set_option maxHeartbeats 16000000
set_option maxRecDepth 100000
set_option linter.unusedVariables false
set_option linter.unusedSimpArgs false
set_option linter.unusedSectionVars false
namespace Go.Proofs.Ob
open Go Go.Ev
def El (H : Heap) (z : Nat) (e : List V) (o : Option Nat) (w : List V) : Prop := ∃ a b v xs, e = a ++ v :: b ∧ w = a ++ .arr xs :: b ∧ a.all scal = true ∧ b.all scal = true ∧ VL H z v o xs
theorem El.mono {H H' : Heap} {z : Nat} {e : List V} {o : Option Nat} {w : List V} (h : El H z e o w) (hh : ∀ id, o = some id → H'[id]? = H[id]?) : El H' z e o w := by
 obtain ⟨a, b, v, xs, h1, h2, h3, h4, h5⟩ := h
 exact ⟨a, b, v, xs, h1, h2, h3, h4, h5.mono hh⟩
theorem El.lt {H : Heap} {z : Nat} {e : List V} {o : Option Nat} {w : List V} (h : El H z e o w) {id : Nat} (ho : o = some id) : id < H.length := by
 obtain ⟨a, b, v, xs, h1, h2, h3, h4, h5⟩ := h
 exact h5.lt ho
theorem El.len {H : Heap} {z : Nat} {e : List V} {o : Option Nat} {w : List V} (h : El H z e o w) : e.length = w.length := by
 obtain ⟨a, b, v, xs, rfl, rfl, h3, h4, h5⟩ := h
 simp
theorem kZy {d : Nat} : ∀ {l : List V} (H : Heap), l.all scal = true → mapH (Go.Ev.fz (d + 1)) H l = some (l, H)
 | [], H, _ => rfl
 | x :: r, H, h => by
  simp only [List.all_cons, Bool.and_eq_true] at h
  have hx : Go.Ev.fz (d + 1) H x = some (x, H) := by
   cases x <;> simp [scal] at h <;> rfl
  simp only [mapH, hx, kZy H h.2]
theorem mapH_app {f : Heap → V → Option (V × Heap)} : ∀ {a a' b b' : List V} {H H1 H2 : Heap}, mapH f H a = some (a', H1) → mapH f H1 b = some (b', H2) → mapH f H (a ++ b) = some (a' ++ b', H2)
 | [], _, b, b', H, H1, H2, h1, h2 => by
  simp only [mapH, Option.some.injEq, Prod.mk.injEq] at h1
  obtain ⟨rfl, rfl⟩ := h1
  simpa using h2
 | x :: r, _, b, b', H, H1, H2, h1, h2 => by
  cases hy : f H x with
  | none => simp only [mapH, hy] at h1; cases h1
  | some q =>
   obtain ⟨y, Hy⟩ := q
   cases hs : mapH f Hy r with
   | none => simp only [mapH, hy, hs] at h1; cases h1
   | some q =>
    obtain ⟨ys, Hs⟩ := q
    simp only [mapH, hy, hs, Option.some.injEq, Prod.mk.injEq] at h1
    obtain ⟨rfl, rfl⟩ := h1
    simp only [List.cons_append, mapH, hy, mapH_app hs h2]
theorem El.fz {d : Nat} {H : Heap} {z : Nat} {e : List V} {o : Option Nat} {w : List V} (h : El H z e o w) : ∃ H', mapH (Go.Ev.fz (d + 2)) H e = some (w, H') ∧ H.length = H'.length ∧ ∀ j, o ≠ some j → H'[j]? = H[j]? := by
 obtain ⟨a, b, v, xs, rfl, rfl, h3, h4, h5⟩ := h
 obtain ⟨H1, f1, l1, k1⟩ := h5.fz (d := d)
 refine ⟨H1, mapH_app (kZy (d := d + 1) H h3) ?_, l1, k1⟩
 simp only [mapH, f1, kZy (d := d + 1) H1 h4]
def Subs (H : Heap) (z : Nat) : List (List V) → List (Option Nat) → List (List V) → Prop
 | [], [], [] => True
 | e :: es, o :: os, p :: ps => El H z e o p ∧ (∀ o' ∈ os, Apart o o') ∧ Subs H z es os ps
 | _, _, _ => False
theorem Subs.mono {H H' : Heap} {z : Nat} : ∀ {es : List (List V)} {os : List (Option Nat)} {ps : List (List V)}, Subs H z es os ps → (∀ id, some id ∈ os → H'[id]? = H[id]?) → Subs H' z es os ps
 | [], [], [], _, _ => trivial
 | e :: es, o :: os, p :: ps, ⟨h1, h2, h3⟩, hh => ⟨h1.mono fun id hid => hh id (by simp [hid]), h2, h3.mono fun id hid => hh id (by simp [hid])⟩
 | [], [], _ :: _, h, _ => h.elim
 | [], _ :: _, _, h, _ => h.elim
 | _ :: _, [], _, h, _ => h.elim
 | _ :: _, _ :: _, [], h, _ => h.elim
theorem Subs.app {H : Heap} {z : Nat} {es2 : List (List V)} {os2 : List (Option Nat)} {ps2 : List (List V)} (hv : Subs H z es2 os2 ps2) : ∀ {es : List (List V)} {os : List (Option Nat)} {ps : List (List V)}, Subs H z es os ps → (∀ o ∈ os, ∀ o' ∈ os2, Apart o o') → Subs H z (es ++ es2) (os ++ os2) (ps ++ ps2)
 | [], [], [], _, _ => hv
 | e1 :: es, o1 :: os, p1 :: ps, ⟨h1, h2, h3⟩, hh => ⟨h1, fun o' ho' => by
   rcases List.mem_append.1 ho' with ho' | ho'
   ·exact h2 o' ho'
   ·exact hh o1 (by simp) o' ho', hv.app h3 fun o ho o' ho' => hh o (by simp [ho]) o' ho'⟩
 | [], [], _ :: _, h, _ => h.elim
 | [], _ :: _, _, h, _ => h.elim
 | _ :: _, [], _, h, _ => h.elim
 | _ :: _, _ :: _, [], h, _ => h.elim
theorem Subs.one {H : Heap} {z : Nat} {e : List V} {o : Option Nat} {p : List V} (h : El H z e o p) : Subs H z [e] [o] [p] := ⟨h, by simp, trivial⟩
theorem Subs.len {H : Heap} {z : Nat} : ∀ {es : List (List V)} {os : List (Option Nat)} {ps : List (List V)}, Subs H z es os ps → es.length = ps.length ∧ os.length = ps.length
 | [], [], [], _ => ⟨rfl, rfl⟩
 | _ :: _, _ :: _, _ :: _, ⟨_, _, h⟩ => by have := h.len; simp [this]
 | [], [], _ :: _, h => h.elim
 | [], _ :: _, _, h => h.elim
 | _ :: _, [], _, h => h.elim
 | _ :: _, _ :: _, [], h => h.elim
theorem Subs.lt {H : Heap} {z id : Nat} : ∀ {es : List (List V)} {os : List (Option Nat)} {ps : List (List V)}, Subs H z es os ps → some id ∈ os → id < H.length
 | [], [], [], _, h => by cases h
 | _ :: _, _ :: _, _ :: _, ⟨h1, _, h3⟩, h => by
  rcases List.mem_cons.1 h with h | h
  ·exact h1.lt h.symm
  ·exact h3.lt h
 | [], [], _ :: _, h, _ => h.elim
 | [], _ :: _, _, h, _ => h.elim
 | _ :: _, [], _, h, _ => h.elim
 | _ :: _, _ :: _, [], h, _ => h.elim
theorem Subs.fz {d z : Nat} : ∀ {H : Heap} {es : List (List V)} {os : List (Option Nat)} {ps : List (List V)}, Subs H z es os ps → ∃ H', mapH (mapH (Go.Ev.fz (d + 2))) H es = some (ps, H') ∧ H.length = H'.length ∧ ∀ j, some j ∉ os → H'[j]? = H[j]?
 | H, [], [], [], _ => ⟨H, rfl, rfl, fun _ _ => rfl⟩
 | H, e :: es, o :: os, p :: ps, ⟨h1, h2, h3⟩ => by
  obtain ⟨H1, f1, l1, k1⟩ := h1.fz (d := d)
  obtain ⟨H2, f2, l2, k2⟩ := (h3.mono (H' := H1) fun id hid => k1 id fun e => h2 (some id) hid id e rfl).fz (d := d)
  refine ⟨H2, ?_, by omega, fun j hj => ?_⟩
  ·simp only [mapH, f1, f2]
  ·simp only [List.mem_cons, not_or] at hj
   rw [k2 j hj.2, k1 j (fun e => hj.1 e.symm)]
 | _, [], [], _ :: _, h => h.elim
 | _, [], _ :: _, _, h => h.elim
 | _, _ :: _, [], _, h => h.elim
 | _, _ :: _, _ :: _, [], h => h.elim
def VQ (H : Heap) (sz z : Nat) (v : V) (o : Option Nat) (os : List (Option Nat)) (ps ex : List (List V)) : Prop :=
 (v = .nils ∧ ps = [] ∧ o = none ∧ os = [] ∧ ex = []) ∨ ∃ id ep es, o = some id ∧ v = .sl id ep 0 ps.length ∧ H[id]? = some (.row sz (es ++ ex) ep true) ∧ Subs H z es os ps ∧ some id ∉ os
theorem VQ.nil (H : Heap) (sz z : Nat) : VQ H sz z .nils none [] [] [] := .inl ⟨rfl, rfl, rfl, rfl, rfl⟩
section
variable {H H' : Heap} {sz z : Nat} {v : V} {o : Option Nat} {os : List (Option Nat)} {ps ex : List (List V)}
theorem VQ.lt (h : VQ H sz z v o os ps ex) : (∀ id, o = some id → id < H.length) ∧ ∀ id, some id ∈ os → id < H.length := by
 rcases h with ⟨rfl, rfl, rfl, rfl, rfl⟩ | ⟨id, ep, es, rfl, rfl, hr, hs, hn⟩
 ·exact ⟨fun _ h => (by cases h), fun _ h => (by cases h)⟩
 ·exact ⟨fun i h => by cases h; exact (List.getElem?_eq_some_iff.1 hr).1, fun i h => hs.lt h⟩
theorem VQ.mono (h : VQ H sz z v o os ps ex) (hh : ∀ id, (o = some id ∨ some id ∈ os) → H'[id]? = H[id]?) : VQ H' sz z v o os ps ex := by
 rcases h with h | ⟨id, ep, es, ho, hv, hr, hs, hn⟩
 ·exact .inl h
 ·exact .inr ⟨id, ep, es, ho, hv, by rw [hh id (.inl ho)]; exact hr, hs.mono fun i hi => hh i (.inr hi), hn⟩
theorem VQ.cell (h : VQ H sz z v o os ps ex) : v.isCell = true ∧ v.cells = [v] := by
 rcases h with ⟨rfl, _⟩ | ⟨_, _, _, _, rfl, _⟩ <;> exact ⟨rfl, rfl⟩
theorem VQ.len (h : VQ H sz z v o os ps ex) (H2 : Heap) : evLen H2 .l v = some (.int .i64 ps.length, H2) := by
 rcases h with ⟨rfl, rfl, _⟩ | ⟨_, _, _, _, rfl, _⟩ <;> simp [evLen, lenV, vZm]
theorem VQ.add (h : VQ H sz z v o os ps []) {by_ : Nat} {e : List V} {oe : Option Nat} {p : List V} (he : El H z e oe p) (hsz : e.length = sz) (ha : ∀ o' ∈ os, Apart o' oe) (hoe : ∀ id, o = some id → oe ≠ some id) (hr : (ps.length + 1) * by_ ≤ roomB) :
  ∃ v' o' H2, evApp (H ++ [.row sz [e] 0 true]) sz by_ v (.sl H.length 0 0 1) = some (v', H2) ∧ VQ H2 sz z v' o' (os ++ [oe]) (ps ++ [p]) [] ∧ H.length ≤ H2.length ∧ (∀ j, j < H.length → o ≠ some j → H2[j]? = H[j]?) ∧ ∀ id, o' = some id → o = some id ∨ H.length ≤ id := by
 have hq : elemsOf (H ++ [.row sz [e] 0 true]) (.sl H.length 0 0 1) = some [e] := by simp [elemsOf]
 have hsz : szOk sz [e] = true := by simp [szOk, hsz]
 rcases h with ⟨rfl, rfl, rfl, rfl, _⟩ | ⟨id, ep, es, rfl, rfl, hrw, hs, hn⟩
 ·refine ⟨.sl (H.length + 1) 0 0 1, some (H.length + 1), H ++ [.row sz [e] 0 true] ++ [.row sz [e] 0 true], ?_, .inr ⟨H.length + 1, 0, [e], rfl, rfl, by simp, ⟨he.mono fun id hid => ?_, by simp, trivial⟩, ?_⟩, by simp, fun j hj _ => ?_, fun id hid => by cases hid; right; omega⟩
  ·simp only [List.length_nil, Nat.zero_add] at hr
   simp only [evApp, hq, hsz, vZm, vZn]
   simp only [Nat.one_mul] at hr
   simp [hr]
  ·rw [List.append_assoc, List.getElem?_append_left (he.lt hid)]
  ·simp only [List.nil_append, List.mem_singleton]
   intro e2
   have := he.lt e2.symm
   omega
  ·rw [List.append_assoc, List.getElem?_append_left hj]
 ·have hlt := (List.getElem?_eq_some_iff.1 hrw).1
  have hl := hs.len
  rw [List.append_nil] at hrw
  have hr2 : (H ++ [.row sz [e] 0 true])[id]? = some (.row sz es ep true) := by rw [List.getElem?_append_left hlt]; exact hrw
  refine ⟨.sl id (ep + 1) 0 (ps.length + 1), some id, (H ++ [Ob.row sz [e] 0 true]).set id (.row sz (es ++ [e]) (ep + 1) true), ?_, .inr ⟨id, ep + 1, es ++ [e], rfl, by simp, by rw [List.append_nil, List.getElem?_set_self (by simp; omega)], ?_, ?_⟩, by simp, fun j hj hne => ?_, fun i hi => .inl hi⟩
  ·have hl2 : 0 + ps.length = es.length := by rw [hl.1]; omega
   simp only [evApp, hq, hr2, hsz, vZm, qZ6, true_and, List.length_cons, List.length_nil, and_true]
   rw [if_pos (by omega), if_pos hl2]
  ·refine Subs.app (Subs.one (he.mono fun i hi => ?_)) (hs.mono fun i hi => ?_) (fun o ho o' ho' => by rw [List.mem_singleton.1 ho']; exact ha o ho)
   ·rw [List.getElem?_set_ne (fun e2 => hoe id rfl (by rw [hi, e2])), List.getElem?_append_left (he.lt hi)]
   ·rw [List.getElem?_set_ne (fun e2 => hn (by rw [e2]; exact hi)), List.getElem?_append_left (hs.lt hi)]
  ·simp only [List.mem_append, List.mem_singleton, not_or]
   exact ⟨hn, fun e2 => hoe id rfl e2.symm⟩
  ·rw [List.getElem?_set_ne (fun e2 => hne (by rw [e2])), List.getElem?_append_left hj]
theorem VQ.fz {d : Nat} (h : VQ H sz z v o os ps ex) : ∃ H', Go.Ev.fz (d + 3) H v = some (.arr ps, H') ∧ H.length = H'.length ∧ ∀ j, o ≠ some j → some j ∉ os → H'[j]? = H[j]? := by
 rcases h with ⟨rfl, rfl, rfl, rfl, _⟩ | ⟨id, ep, es, rfl, rfl, hr, hs, hn⟩
 ·exact ⟨H, rfl, rfl, fun _ _ _ => rfl⟩
 ·have hl := hs.len
  obtain ⟨H2, f2, l2, k2⟩ := (hs.mono (H' := H.set id (.row sz (es ++ ex) ep false)) fun i hi => by rw [List.getElem?_set_ne (fun e2 => hn (by rw [e2]; exact hi))]).fz (d := d)
  refine ⟨H2, ?_, by rw [← l2]; simp, fun j hj hj2 => by rw [k2 j hj2, List.getElem?_set_ne (fun e2 => hj (by rw [e2]))]⟩
  show (match H[id]? with
   | some (.row z xs cur _) =>
    if ep = cur ∧ 0 + ps.length ≤ xs.length then
     (mapH (mapH (Go.Ev.fz (d + 2))) (H.set id (.row z xs cur false)) ((xs.drop 0).take ps.length)).map fun (p : List (List V) × Heap) => (V.arr p.1, p.2)
    else none
   | _ => none) = _
  rw [hr]
  simp only [true_and]
  rw [if_pos (by simp; omega), List.drop_zero, ← hl.1, List.take_left, f2]
  rfl
end
open Go Go.Ev
abbrev cRv (r : Rec) (v6 v7 v8 : V) : List V := [.int .u8 r.kind, .int .i64 r.target, T r.loc, T r.space, .bool r.has, T r.old, v6, v7, v8, .int .i64 r.prev, .int .i64 r.nxt]
theorem app_own {α : Type} {enc : α → List V} {by_ : Nat} (h1 : ∀ x, (enc x).length = 1) (h2 : ∀ x, (enc x).all V.isCell = true) (h3 : ∀ x, (enc x).all scal = true) (l : List α) (H : Heap) (hr : l.length * by_ ≤ roomB) :
  ∃ v o H', evApp H 1 by_ .nils (.arr (l.map enc)) = some (v, H') ∧ VL H' 1 v o (l.map enc) ∧ H.length ≤ H'.length ∧ (∀ j, j < H.length → H'[j]? = H[j]?) ∧ ∀ id, o = some id → H.length ≤ id := by
 obtain ⟨v, o, H', e1, e2, e3, e4, e5⟩ := (VL.nil H 1).app (by_ := by_) (es := l.map enc) (plainR.map h1 h2 h3 l) (q := .arr (l.map enc)) rfl (by simpa using hr)
 exact ⟨v, o, H', e1, by simpa using e2, e3, fun j hj => e4 j hj (by simp), fun id hid => (e5 id hid).resolve_left (by simp)⟩
theorem wZK (q : Rec) (z : SzR q) (H : Heap) : callW Φ zZM [.agg (cR q)] H = some (.agg (cR q), H) := by
 refine jZ7 zZM.Φ rfl (args := [.agg (cR q)]) rfl ?_
 obtain ⟨P, hP⟩ : ∃ P : V → Heap → Prop, P = fun r h2 => ∃ h3, fz fzDepth h2 r = some (.agg (cR q), h3) := ⟨_, rfl⟩
 suffices hgo : ∃ r h', evBodyW (callW Φ) zZM.c [.agg (cR q)] [] = some (r, h') ∧ P r h' by rw [hP] at hgo; exact hgo
 have hPz : ∀ r h2 h3, fz fzDepth h2 r = some (.agg (cR q), h3) → P r h2 := fun r h2 h3 hz => by rw [hP]; exact ⟨h3, hz⟩
 have hPn : ∀ r h2, flatN2 r = true → nz2 r = .agg (cR q) → P r h2 := fun r h2 h h1 => hPz r h2 h2 (by rw [← h1]; exact wZU h)
 clear hP
 refine kZU (Nat.le_of_ble_eq_true rfl) (fun env he h0 => ?_)
 have g0 := h0 0 (by simp)
 change eget env 0 = .agg (cR q) at g0
 clear h0
 simp [zZM.c] at he
 obtain ⟨z1, z2, z3⟩ := z
 have b0 : evBox [] (cR q) = some (.ptr 0 0, [.cells (cR q)]) := wZc [] _ rfl
 have hcc : (V.agg (cR q)).cells = cR q := rfl
 have d0 : ∀ off, (cR q).drop off = (cRv q (.arr (q.data.map cU)) (.arr (q.added.map cI)) (.arr (q.removed.map cI))).drop off := fun _ => rfl
 have c6 : cellsAt [.cells (cR q), .cells zR] (.ptr 0 6) = some ((cRv q (.arr (q.data.map cU)) (.arr (q.added.map cI)) (.arr (q.removed.map cI))).drop 6) := rfl
 obtain ⟨v6, o6, H1, e1, V6, l1, k1, n1⟩ := app_own (enc := cU) (by_ := 2) (fun _ => rfl) (fun _ => rfl) (fun _ => rfl) q.data [.cells (cR q), .cells zR] (by unfold roomB; omega)
 have p0 : H1[0]? = some (.cells (cRv q (.arr (q.data.map cU)) (.arr (q.added.map cI)) (.arr (q.removed.map cI)))) := k1 0 (by simp)
 have p1 : H1[1]? = some (.cells zR) := k1 1 (by simp)
 have s1 := vZw (off := 6) p0 (by simp) V6.cell
 obtain ⟨H2, hH2⟩ : ∃ H2, H2 = H1.set 0 (.cells (cRv q v6 (.arr (q.added.map cI)) (.arr (q.removed.map cI)))) := ⟨_, rfl⟩
 have s1' : evStoreV H1 1 (.ptr 0 6) v6 = some (V.non, H2) := by rw [hH2]; exact s1
 have q0 : H2[0]? = some (.cells (cRv q v6 (.arr (q.added.map cI)) (.arr (q.removed.map cI)))) := by rw [hH2]; exact vZ2 p0 _
 have q1 : H2[1]? = some (.cells zR) := by rw [hH2, List.getElem?_set_ne (by omega)]; exact p1
 have m6 : ∀ id, o6 = some id → 2 ≤ id := fun id h => by simpa using n1 id h
 have V6' : VL H2 1 v6 o6 (q.data.map cU) := V6.mono fun id h => by rw [hH2, List.getElem?_set_ne (by have := m6 id h; omega)]
 have c7 := qZ4 q0 7
 obtain ⟨v7, o7, H3, e2, V7c, l2, k2, n2⟩ := app_own (enc := cI) (by_ := 8) (fun _ => rfl) (fun _ => rfl) (fun _ => rfl) q.added H2 (by unfold roomB; omega)
 have hl2 : 2 ≤ H2.length := (List.getElem?_eq_some_iff.1 q1).1
 have r0 : H3[0]? = some (.cells (cRv q v6 (.arr (q.added.map cI)) (.arr (q.removed.map cI)))) := by rw [k2 0 (by omega)]; exact q0
 have r1 : H3[1]? = some (.cells zR) := by rw [k2 1 (by omega)]; exact q1
 have V6'' : VL H3 1 v6 o6 (q.data.map cU) := V6'.mono fun id h => k2 id (V6'.lt h)
 have s2 := vZw (off := 7) r0 (by simp) V7c.cell
 obtain ⟨H4, hH4⟩ : ∃ H4, H4 = H3.set 0 (.cells (cRv q v6 v7 (.arr (q.removed.map cI)))) := ⟨_, rfl⟩
 have s2' : evStoreV H3 1 (.ptr 0 7) v7 = some (V.non, H4) := by rw [hH4]; exact s2
 have t0 : H4[0]? = some (.cells (cRv q v6 v7 (.arr (q.removed.map cI)))) := by rw [hH4]; exact vZ2 r0 _
 have t1 : H4[1]? = some (.cells zR) := by rw [hH4, List.getElem?_set_ne (by omega)]; exact r1
 have V6 : VL H4 1 v6 o6 (q.data.map cU) := V6''.mono fun id h => by rw [hH4, List.getElem?_set_ne (by have := m6 id h; omega)]
 have m7 : ∀ id, o7 = some id → H2.length ≤ id := n2
 have V7 : VL H4 1 v7 o7 (q.added.map cI) := V7c.mono fun id h => by rw [hH4, List.getElem?_set_ne (by have := m7 id h; omega)]
 have c8 := qZ4 t0 8
 obtain ⟨v8, o8, H5, e3, V8, l3, k3, n3⟩ := app_own (enc := cI) (by_ := 8) (fun _ => rfl) (fun _ => rfl) (fun _ => rfl) q.removed H4 (by unfold roomB; omega)
 have hl4 : 2 ≤ H4.length := (List.getElem?_eq_some_iff.1 t1).1
 have u0 : H5[0]? = some (.cells (cRv q v6 v7 (.arr (q.removed.map cI)))) := by rw [k3 0 (by omega)]; exact t0
 have u1 : H5[1]? = some (.cells zR) := by rw [k3 1 (by omega)]; exact t1
 have V6 : VL H5 1 v6 o6 (q.data.map cU) := V6.mono fun id h => k3 id (V6.lt h)
 have V7 : VL H5 1 v7 o7 (q.added.map cI) := V7.mono fun id h => k3 id (V7.lt h)
 have m8 : ∀ id, o8 = some id → H4.length ≤ id := n3
 have s3 := vZw (off := 8) u0 (by simp) V8.cell
 obtain ⟨H6, hH6⟩ : ∃ H6, H6 = H5.set 0 (.cells (cRv q v6 v7 v8)) := ⟨_, rfl⟩
 have s3' : evStoreV H5 1 (.ptr 0 8) v8 = some (V.non, H6) := by rw [hH6]; exact s3
 have w0 : H6[0]? = some (.cells (cRv q v6 v7 v8)) := by rw [hH6]; exact vZ2 u0 _
 have w1 : H6[1]? = some (.cells zR) := by rw [hH6, List.getElem?_set_ne (by omega)]; exact u1
 have c9 := qZ4 w0 0
 have hcell : (cRv q v6 v7 v8).all V.isCell = true := by simp only [List.all_cons, List.all_nil, V6.cell.1, V7.cell.1, V8.cell.1]; rfl
 have s4 := vZO (n := 11) (A := cRv q v6 v7 v8) w1 rfl rfl hcell
 obtain ⟨H7, hH7⟩ : ∃ H7, H7 = H6.set 1 (.cells (cRv q v6 v7 v8)) := ⟨_, rfl⟩
 rw [← hH7] at s4
 have x1 : H7[1]? = some (.cells (cRv q v6 v7 v8)) := by rw [hH7]; exact vZ2 w1 _
 have c10 := qZ4 x1 0
 have lo : ∀ id, 2 ≤ id → H7[id]? = H5[id]? := fun id h => by rw [hH7, List.getElem?_set_ne (by omega), hH6, List.getElem?_set_ne (by omega)]
 have V6 : VL H7 1 v6 o6 (q.data.map cU) := V6.mono fun id h => lo id (m6 id h)
 have V7 : VL H7 1 v7 o7 (q.added.map cI) := V7.mono fun id h => lo id (by have := m7 id h; omega)
 have V8 : VL H7 1 v8 o8 (q.removed.map cI) := V8.mono fun id h => lo id (by have := m8 id h; omega)
 have a67 : ∀ id, o7 = some id → o6 ≠ some id := fun id h e => by
  have := m7 id h
  have := V6'.lt e
  omega
 have lt4 : ∀ id, o6 = some id ∨ o7 = some id → id < H4.length := fun id h => by
  have e4 : H4.length = H3.length := by rw [hH4]; simp
  rcases h with h | h
  ·have := V6'.lt h; omega
  ·have := V7c.lt h; omega
 have hfin : ∃ H8, fz 64 H7 (.agg (cRv q v6 v7 v8)) = some (.agg (cR q), H8) := by
  obtain ⟨H8, f1, g1, h1⟩ := V6.fz (d := 61)
  obtain ⟨H9, f2, g2, h2⟩ := (V7.mono (h' := H8) fun id h => h1 id (a67 id h)).fz (d := 61)
  obtain ⟨H10, f3, g3, h3⟩ := ((V8.mono (h' := H8) fun id h => h1 id fun e => by have := m8 id h; have := lt4 id (.inl e); omega).mono (h' := H9) fun id h => h2 id fun e => by have := m8 id h; have := lt4 id (.inr e); omega).fz (d := 61)
  refine ⟨H10, ?_⟩
  have e : ∀ (H : Heap) (x : V), scal x = true → Go.Ev.fz 63 H x = some (x, H) := fun H x hx => by
   cases x <;> simp [scal] at hx <;> rfl
  show (mapH (Go.Ev.fz 63) H7 (cRv q v6 v7 v8)).map (fun p => (V.agg p.1, p.2)) = _
  simp only [mapH, e _ (.int .u8 q.kind) rfl, e _ (.int .i64 q.target) rfl, e _ (T q.loc) rfl, e _ (T q.space) rfl, e _ (.bool q.has) rfl, e _ (T q.old) rfl, f1, f2, f3, e _ (.int .i64 q.prev) rfl, e _ (.int .i64 q.nxt) rfl, Option.map_some, cR]
 obtain ⟨H8, hf⟩ := hfin
 have fin := hPz _ _ _ hf
 simp [zZM.c, zZM.r0, zZM.r1, zZM.r2, zZM.r3, zZM.r4, g0, he, hcc, b0, c6, e1, s1', c7, e2, s2', c8, e3, s3', c9, s4, c10, ofCells, fin]
end Go.Proofs.Ob
