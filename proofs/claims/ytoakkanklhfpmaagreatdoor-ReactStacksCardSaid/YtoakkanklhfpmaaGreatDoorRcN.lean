/- The first that waits is taken. No conditions. -/
import Derived.Test.YtoakkanklhfpmaaGreatDoorRcJ
import Derived.Test.YtoakkanklhfpmaaGreatDoorRcD0
set_option maxHeartbeats 16000000
set_option maxRecDepth 100000
set_option linter.unusedVariables false
set_option linter.unusedSimpArgs false
set_option linter.unusedSectionVars false
namespace Go.Proofs.Rc
open Go Go.Ev
theorem Own.mono2 {H H' : Heap} {lo : Nat} {v0 v1 v2 : V} {o0 o1 o2 : Option Nat} {os0 os1 : List (Option Nat)} {Q : List Qu} {T : List (List Int)} {B : List Int} {ex0 ex1 : List (List V)} (h : Own H lo v0 v1 v2 o0 o1 o2 os0 os1 Q T B ex0 ex1)
  (hk : ∀ id, (Ow o0 os0 id ∨ Ow o1 os1 id ∨ o2 = some id) → H'[id]? = H[id]?) : Own H' lo v0 v1 v2 o0 o1 o2 os0 os1 Q T B ex0 ex1 :=
 ⟨h.q.mono fun id e => hk id (.inl e), h.t.mono fun id e => hk id (.inr (.inl e)), h.b.mono fun id e => hk id (.inr (.inr e)), h.l0, h.l1, h.l2, h.a01, h.a02, h.a12⟩
theorem Own.lt {H : Heap} {lo : Nat} {v0 v1 v2 : V} {o0 o1 o2 : Option Nat} {os0 os1 : List (Option Nat)} {Q : List Qu} {T : List (List Int)} {B : List Int} {ex0 ex1 : List (List V)} (h : Own H lo v0 v1 v2 o0 o1 o2 os0 os1 Q T B ex0 ex1) {id : Nat}
  (hi : Ow o0 os0 id ∨ Ow o1 os1 id ∨ o2 = some id) : id < H.length := by
 rcases hi with e | e | e
 ·exact h.q.ow e
 ·exact h.t.ow e
 ·exact h.b.lt e
theorem VS.at {H : Heap} {sz : Nat} {v : V} {o : Option Nat} {xs : List (List V)} (h : VS H sz v o xs) {i : Nat} {x : List V} (hx : xs[i]? = some x) : ∃ a, iaddrV H sz v (.int .i64 i) = some a ∧ cellsAt H a = some x := by
 have hi := (List.getElem?_eq_some_iff.1 hx).1
 rcases h with ⟨_, rfl, _⟩ | ⟨id, ep, off, ys, rfl, rfl, hr, hp, h1, hl⟩
 ·simp at hx
 ·have hy : ys[off + i]? = some x := by
   rw [h1, List.getElem?_take, if_pos hi, List.getElem?_drop] at hx
   exact hx
  refine ⟨.eptr id ep (off + i) 0, ?_, by simp only [cellsAt, hr, if_true, hy, Option.map_some, List.drop_zero]⟩
  simp only [iaddrV, hr, true_and, Int.toNat_natCast]
  rw [if_pos ⟨by omega, by omega⟩, if_pos (by omega)]
theorem Subs.put {H : Heap} {z : Nat} {e' p' : List V} : ∀ {es : List (List V)} {os : List (Option Nat)} {ps : List (List V)} {i : Nat} {o : Option Nat}, Subs H z es os ps → os[i]? = some o → El H z e' o p' → Subs H z (es.set i e') os (ps.set i p')
 | [], [], [], _, _, _, _, _ => trivial
 | e :: es, o :: os, p :: ps, 0, o2, ⟨h1, h2, h3⟩, h, hE => by
  simp only [List.getElem?_cons_zero, Option.some.injEq] at h
  subst h
  exact ⟨hE, h2, h3⟩
 | e :: es, o :: os, p :: ps, i + 1, o2, ⟨h1, h2, h3⟩, h, hE => ⟨h1, h2, h3.put (by simpa using h) hE⟩
 | [], [], _ :: _, _, _, h, _, _ => h.elim
 | [], _ :: _, _, _, _, h, _, _ => h.elim
 | _ :: _, [], _, _, _, h, _, _ => h.elim
 | _ :: _, _ :: _, [], _, _, h, _, _ => h.elim
theorem VQ.put {H : Heap} {v : V} {o : Option Nat} {os : List (Option Nat)} {qs : List Qu} {ex : List (List V)} (h : VQ H 2 12 v o os (qs.map cQu) ex) {a : Nat} {q : Qu} (hq : qs[a]? = some q) {w : V} {oe : Option Nat} {l : List Rx} (hoe : os[a]? = some oe) (hw : VS H 12 w oe (l.map cX)) :
  ∃ id ep H', o = some id ∧ iaddrV H 2 v (.int .i64 a) = some (.eptr id ep a 0) ∧ evStoreV H 1 (.eptr id ep a 1) w = some (V.non, H') ∧ VQ H' 2 12 v o os ((qs.set a { q with l := l }).map cQu) ex ∧ H'.length = H.length ∧ ∀ j, o ≠ some j → H'[j]? = H[j]? := by
 have ha := (List.getElem?_eq_some_iff.1 hq).1
 rcases h with ⟨_, h2, _⟩ | ⟨id, ep, es, rfl, rfl, hr, hs, hn⟩
 ·simp at h2; subst h2; simp at hq
 ·have hl := hs.len
  rw [List.length_map] at hl
  obtain ⟨e, o', h1, h2, h3⟩ := hs.get (i := a) (p := cQu q) (by simp [hq])
  obtain ⟨w0, rfl, _⟩ := h3.toQ
  have he : (es ++ ex)[a]? = some [.int .i64 q.el, w0] := by rw [List.getElem?_append_left (by omega)]; exact h1
  have hlt := (List.getElem?_eq_some_iff.1 hr).1
  refine ⟨id, ep, H.set id (.row 2 ((es.set a [.int .i64 q.el, w]) ++ ex) ep true), rfl, ?_, ?_, .inr ⟨id, ep, es.set a [.int .i64 q.el, w], rfl, by simp, by rw [List.getElem?_set_self hlt], ?_, hn⟩, by simp, fun j hj => by rw [List.getElem?_set_ne (fun e => hj (by rw [e]))]⟩
  ·simp only [iaddrV, hr, Nat.zero_add, true_and, Int.toNat_natCast, List.length_map]
   rw [if_pos ⟨by omega, by omega⟩, if_pos (List.getElem?_eq_some_iff.1 he).1]
  ·have hsr : setRange [.int .i64 q.el, w0] 1 [w] = some [.int .i64 q.el, w] := by simp [setRange]
   have hset : (es ++ ex).set a [.int .i64 q.el, w] = es.set a [.int .i64 q.el, w] ++ ex := by rw [List.set_append_left _ _ (by omega)]
   simp only [evStoreV, hw.cell.2, List.length_cons, List.length_nil, List.all_cons, List.all_nil, hw.cell.1, Bool.and_self, and_self, if_true, evStore, hr, he, hsr, vZC, hset]
  ·rw [List.map_set]
   have hs2 := hs.mono (H' := H.set id (.row 2 ((es.set a [.int .i64 q.el, w]) ++ ex) ep true)) fun j hj => by rw [List.getElem?_set_ne (fun e => hn (by rw [e]; exact hj))]
   refine hs2.put hoe (El.Q (q := { q with l := l }) (hw.mono fun j hj => ?_))
   rw [List.getElem?_set_ne (fun e => hn (by rw [e, ← hj]; exact List.mem_of_getElem? hoe))]
def takeP (p lo : Nat) (v1 v2 : V) (o0 o1 o2 : Option Nat) (os0 os1 : List (Option Nat)) (s : Rs) (ex1 : List (List V)) (l : List Int) (H : Heap) (r : V) (H' : Heap) : Prop :=
 ∃ (v0' vl : V) (os0' : List (Option Nat)) (ex0' : List (List V)) (ol : Option Nat), r = .tup [vl, .agg (cX (takeS s l).2.2.1), .bool (takeS s l).2.2.2] ∧ H'[p]? = some (.cells [v0', v1, v2, .bool s.busy]) ∧ Own H' lo v0' v1 v2 o0 o1 o2 os0' os1 (takeS s l).1.qs s.st s.bk ex0' ex1 ∧
 VS H' 1 vl ol ((takeS s l).2.1.map cI) ∧ (∀ id, ol = some id → H.length ≤ id) ∧ (∀ id, Ow o0 os0' id → Ow o0 os0 id) ∧ H.length ≤ H'.length ∧ ∀ j, j < H.length → j ≠ p → ¬ Ow o0 os0 j → H'[j]? = H[j]?
def TI (H : Heap) (p : Nat) (L : V) (s : Rs) (l : List Int) (m : Nat) (st : St) : Prop := st.marks = [] ∧ ∃ i : Nat, m = l.length - i ∧ i ≤ l.length ∧
 (eget st.env 0 = .ptr p 0 ∧ eget st.env 1 = L ∧ eget st.env 5 = .ptr H.length 0 ∧ eget st.env 12 = L ∧ eget st.env 13 = .int .i64 l.length ∧ eget st.env 14 = .int .i64 i ∧ st.env.length = 69) ∧
 H.length < st.heap.length ∧ (∀ j, j < H.length → st.heap[j]? = H[j]?) ∧ st.heap[H.length]? = some (.cells zX) ∧ takeS s l = takeS s (l.drop i)
theorem jZw (s : Rs) (p lo : Nat) (v0 v1 v2 : V) (o0 o1 o2 : Option Nat) (os0 os1 : List (Option Nat)) (ex1 : List (List V)) (L : V) (oL : Option Nat) (l : List Int) (H : Heap) (hz : s.qs.length ≤ 2 ^ 42) (hzl : l.length ≤ 2 ^ 44) (hok : okQs s.qs = true) (hp : H[p]? = some (.cells [v0, v1, v2, .bool s.busy])) (hw : Own H lo v0 v1 v2 o0 o1 o2 os0 os1 s.qs s.st s.bk [] ex1) (hpo : ∀ id, (Ow o0 os0 id ∨ Ow o1 os1 id ∨ o2 = some id) → id < p) (hL : SS H L oL l) (hoL : ∀ id, oL = some id → o2 = some id) : ∃ r h', callW Φ (.fn (.func zZu.k) [] []) [.ptr p 0, L] H = some (r, h') ∧ (takeP p lo v1 v2 o0 o1 o2 os0 os1 s ex1 l H) r h' := by
 obtain ⟨P, hP⟩ : ∃ P : V → Heap → Prop, P = takeP p lo v1 v2 o0 o1 o2 os0 os1 s ex1 l H := ⟨_, rfl⟩
 suffices hgo : ∃ r h', callW Φ (.fn (.func zZu.k) [] []) [.ptr p 0, L] H = some (r, h') ∧ P r h' by rw [hP] at hgo; exact hgo
 have hPi : ∀ r h', (takeP p lo v1 v2 o0 o1 o2 os0 os1 s ex1 l H) r h' → P r h' := fun r h' q => by rw [hP]; exact q
 clear hP
 refine wZS zZu.Φ rfl (Nat.le_of_ble_eq_true rfl) (fun env he h0 => ?_)
 have g0 := h0 0 (by simp)
 change eget env 0 = .ptr p 0 at g0
 have g1 := h0 1 (by simp)
 change eget env 1 = L at g1
 clear h0
 simp [zZu.c] at he
 have hlp := (List.getElem?_eq_some_iff.1 hp).1
 simp [zZu.c, zZu.r0, zZu.r1, g0, g1, he, hL.len]
 refine kLoop (TI H p L s l) l.length ⟨rfl, 0, rfl, by omega, ⟨by simpa using g0, by simpa using g1, by simp [he], by simp [he, g1], by simp [he], by simp [he], by simpa using he⟩, by simp, fun j hj => by simp [List.getElem?_append_left hj], by simp, rfl⟩ ?_
 clear g0 g1 he env
 rintro m ⟨env, mk, S⟩ ⟨hm, i, rfl, hi, ⟨k0, k1, k5, k12, k13, k14, hl⟩, hS, hk, hR, hT⟩
 simp only at hm k0 k1 k5 k12 k13 k14 hl hS hk hR
 obtain rfl := hm
 have ofX : ∀ r : Rx, ofCells (some 12) (cX r) = some (.agg (cX r)) := fun _ => rfl
 have nc : ∀ S : Heap, ∀ off, evNilchk S (.ptr p off) = some (.ptr p off, S) := fun _ _ => rfl
 by_cases c : i < l.length
 ·have cc1 : (i : Int) < l.length := by omega
  obtain ⟨x, hx⟩ : ∃ x, l[i]? = some x := ⟨_, List.getElem?_eq_getElem c⟩
  have hdr : l.drop i = x :: l.drop (i + 1) := by
   rw [List.drop_eq_getElem_cons c, ← Option.some.inj ((List.getElem?_eq_getElem c).symm.trans hx)]
  have wr := wrap64 (n := (i : Int) + 1) (by omega) (by omega)
  have hLS := hL.mono (H' := S) fun id h => hk id (hL.lt h)
  obtain ⟨a, ia, ca⟩ := hLS.at hx
  have hwS := hw.mono2 (H' := S) fun id h => hk id (hw.lt h)
  have hpS : S[p]? = some (.cells [v0, v1, v2, .bool s.busy]) := by rw [hk p hlp]; exact hp
  have cp := qZo hpS 0
  have okp : ∀ S : Heap, okCells S (some 4) (some [v0, v1, v2, .bool s.busy]) = some (.agg [v0, v1, v2, .bool s.busy], S) := fun _ => rfl
  obtain ⟨r, S1, hc, rfl, l1, n1⟩ := kZG s.qs v0 v1 v2 s.busy o0 os0 [] x S hz hwS.q hwS.t.cell.1 hwS.b.cell.1
  have cI1 : ∀ S : Heap, okCells S none (some (cI x)) = some (.int .i64 x, S) := fun _ => rfl
  cases hpl : s.qs.findIdx? (fun q => q.el == x) with
  | none =>
   have hpn : placeN s.qs x = -1 := by unfold placeN; rw [hpl]
   rw [hpn] at hc
   have hT2 : takeS s l = takeS s (l.drop (i + 1)) := by
    rw [hT, hdr]
    conv => lhs; unfold takeS
    rw [hpl]
   simp [zZu.b14, zZu.r2, zZu.r3, zZu.r4, zZu.r5, zZu.r13, k0, k1, k5, k12, k13, k14, hl, cc1, ia, ca, cI1, nc, cp, okp, hc, wr]
   exact ⟨l.length - (i + 1), by omega, rfl, i + 1, rfl, by omega, ⟨by simp [hl, k0], by simp [hl, k1], by simp [hl, k5], by simp [hl, k12], by simp [hl, k13], by simp [hl], by simp [hl]⟩, by show H.length < S1.length; omega, fun j hj => by show S1[j]? = H[j]?; rw [n1 j (by omega), hk j hj], by show S1[H.length]? = _; rw [n1 _ (by omega)]; exact hR, hT2⟩
  | some a =>
   obtain ⟨q, hq, hqe, _⟩ := xZN hpl
   have hpn : placeN s.qs x = a := by unfold placeN; rw [hpl]
   have na : ¬ ((a : Int) < 0) := by omega
   have fa : ∀ (x y z : Nat), faddrV 1 (.eptr x y z 0) = some (.eptr x y z 1) := fun _ _ _ => rfl
   rw [hpn] at hc
   have ha := (List.getElem?_eq_some_iff.1 hq).1
   obtain ⟨hall, _⟩ := jZ8 hok
   have hne := (xZb (hall q (List.mem_of_getElem? hq))).1
   have hw1 := hwS.mono2 (H' := S1) fun id h => n1 id (hwS.lt h)
   have hp1 : S1[p]? = some (.cells [v0, v1, v2, .bool s.busy]) := by rw [n1 p (by omega)]; exact hpS
   have cp1 := qZo hp1 0
   have hv0 := hw.q.cell.1
   have okv : ∀ S : Heap, okCells S none (some [v0, v1, v2, .bool s.busy]) = some (v0, S) := fun S => by simp [okCells, hv0]
   obtain ⟨id, ep, e, oe, ho, iq, cq, hE, hoe⟩ := hw1.q.at (i := a) (p := cQu q) (by simp [hq])
   obtain ⟨w, rfl, hwv⟩ := hE.toQ
   have cq1 : cellsAt S1 (.eptr id ep a 1) = some [w] := cq 1
   have okw : ∀ S : Heap, okCells S none (some [w]) = some (w, S) := fun S => by simp [okCells, hwv.cell.1]
   have hoeo : Ow o0 os0 (oe.getD 0) ∨ oe = none := by
    cases oe with
    | none => exact .inr rfl
    | some k => exact .inl (.inr (List.mem_of_getElem? hoe))
   have hoeO : ∀ k, oe = some k → some k ∈ os0 := fun k h => by rw [← h]; exact List.mem_of_getElem? hoe
   have hno : ∀ k, oe = some k → o0 ≠ some k := fun k hk2 e2 => by
    rcases hw1.q with ⟨_, _, h3, _⟩ | ⟨id', ep', es', h3, _, _, _, h4⟩
    ·rw [h3] at e2; cases e2
    ·rw [h3] at e2; cases e2
     exact h4 (hoeO _ hk2)
   have hL1 := hLS.mono (H' := S1) fun id h => n1 id (hLS.lt h)
   obtain ⟨L', sl, eL, nL, nS⟩ := hL1.from c
   have hcl := cln_run vZO.Φ (plainI (l.drop i)) (by rw [List.length_map, List.length_drop]; unfold roomB; omega) eL nL nS
   obtain ⟨vc, hvc⟩ : ∃ vc, vc = clnV S1.length ((l.drop i).map cI) := ⟨_, rfl⟩
   obtain ⟨S2, hS2⟩ : ∃ S2, S2 = S1 ++ clnE 1 ((l.drop i).map cI) := ⟨_, rfl⟩
   have hvl := cln_vl (plainI (l.drop i)) S1
   rw [← hvc, ← hS2] at hvl
   rw [← hvc, ← hS2] at hcl
   obtain ⟨oc, hoc⟩ : ∃ oc, oc = clnO S1.length ((l.drop i).map cI) := ⟨_, rfl⟩
   have hocn : ∀ k, oc = some k → S1.length ≤ k := fun k h => kZU (by rw [← hoc]; exact h)
   rw [← hoc] at hvl
   have l2 : S1.length ≤ S2.length := by rw [hS2]; simp
   have n2 : ∀ j, j < S1.length → S2[j]? = S1[j]? := fun j hj => by rw [hS2, List.getElem?_append_left hj]
   have hw2 := hw1.mono2 (H' := S2) fun id h => n2 id (hw1.lt h)
   have hp2 : S2[p]? = some (.cells [v0, v1, v2, .bool s.busy]) := by rw [n2 p (by omega)]; exact hp1
   have cp2 := qZo hp2 0
   have hwv2 := hwv.mono (h' := S2) fun k h => n2 k (hwv.lt h)
   have hR2 : S2[H.length]? = some (.cells zX) := by rw [n2 _ (by omega), n1 _ (by omega)]; exact hR
   have kk2 : ∀ j, j < H.length → S2[j]? = H[j]? := fun j hj => by rw [n2 j (by omega), n1 j (by omega), hk j hj]
   match hql : q.l, hne with
   | r0 :: rt, _ =>
   have hlenw : ∀ H2, evLen H2 .l w = some (.int .i64 (rt.length + 1 : Nat), H2) := fun H2 => by rw [hwv2.len, hql]; simp
   have hpo2 : ∀ k, (Ow o0 os0 k ∨ Ow o1 os1 k ∨ o2 = some k) → k < p := hpo
   by_cases c1 : rt.length = 0
   ·have hrt : rt = [] := List.eq_nil_of_length_eq_zero c1
    subst hrt
    obtain ⟨vd, S3, hd, os0', ex0', hv3, hsub, l3, k3⟩ := delQ s.qs v0 o0 os0 a S2 hz ha hw2.q
    have hpn0 : o0 ≠ some p := fun e2 => by have := hpo p (.inl (.inl e2)); omega
    have hp3 : S3[p]? = some (.cells [v0, v1, v2, .bool s.busy]) := by rw [k3 p hpn0]; exact hp2
    have s4 := wZF (off := 0) hp3 (by simp) hv3.cell
    obtain ⟨S4, hS4⟩ : ∃ S4, S4 = S3.set p (.cells [vd, v1, v2, .bool s.busy]) := ⟨_, rfl⟩
    have s4' : evStoreV S3 1 (.ptr p 0) vd = some (V.non, S4) := by rw [hS4]; exact s4
    have k4 : ∀ j, o0 ≠ some j → j ≠ p → S4[j]? = S2[j]? := fun j h1 h2 => by rw [hS4, List.getElem?_set_ne (Ne.symm h2), k3 j h1]
    have hl4 : S4.length = S2.length := by rw [hS4]; simp [l3]
    have hR4 : S4[H.length]? = some (.cells zX) := by
     rw [k4 _ (fun e2 => by have := hpo _ (.inl (.inl e2)); omega) (by omega)]; exact hR2
    have hvl4 := hvl.vs.mono (h' := S4) fun k h => k4 k (fun e2 => by have := hocn k h; have := hw.lt (.inl (.inl e2)); omega) (by have := hocn k h; omega)
    have hne2 : (l.drop i).map cI ≠ [] := by rw [hdr]; simp
    obtain ⟨vt, st1, hvt⟩ := hvl4.tail hne2
    have hwv4 := hwv2.mono (h' := S4) fun k h => k4 k (hno k h) (by have := hpo k (.inl (.inr (hoeO k h))); omega)
    obtain ⟨aw, iw, cw⟩ := hwv4.at (i := 0) (x := cX r0) (by rw [hql]; rfl)
    have iw : iaddrV S4 12 w (.int .i64 0) = some aw := iw
    have s5 := vZE (n := 12) (A := cX r0) hR4 rfl rfl rfl
    obtain ⟨S5, hS5⟩ : ∃ S5, S5 = S4.set H.length (.cells (cX r0)) := ⟨_, rfl⟩
    rw [← hS5] at s5
    have cR : cellsAt S5 (.ptr H.length 0) = some (cX r0) := by rw [hS5]; exact qZo (wZd hR4 _) 0
    have hT2 : takeS s l = ({ s with qs := s.qs.eraseIdx a }, l.drop (i + 1), r0, true) := by
     rw [hT, hdr]
     conv => lhs; unfold takeS
     simp only [hpl, hq, hql, List.length_cons, List.length_nil, List.headD_cons, if_true]
    have k5' : ∀ j, j ≠ H.length → S5[j]? = S4[j]? := fun j h => by rw [hS5, List.getElem?_set_ne (Ne.symm h)]
    have hp5 : S5[p]? = some (.cells [vd, v1, v2, .bool s.busy]) := by rw [k5' p (by omega), hS4]; exact wZd hp3 _
    have kA : ∀ k, (Ow o1 os1 k ∨ o2 = some k) → S5[k]? = S2[k]? := fun k h => by
     have hlt := hw.lt (.inr h)
     have hkp := hpo k (.inr h)
     rw [k5' k (by omega), k4 k (fun e2 => ?_) (by omega)]
     rcases h with h | h
     ·exact hw.a01 k (.inl e2) h
     ·exact hw.a02 k (.inl e2) h
    have how : ∀ k, Ow o0 os0' k → Ow o0 os0 k := fun k h => h.imp (fun h => h) fun h => hsub k h
    have hv5 := hv3.mono (H' := S5) fun k h => by
     have h' := how k h
     have := hw.lt (.inl h')
     have := hpo k (.inl h')
     rw [k5' k (by omega), hS4, List.getElem?_set_ne (by omega)]
    have hw5 : Own S5 lo vd v1 v2 o0 o1 o2 os0' os1 (s.qs.eraseIdx a) s.st s.bk ex0' ex1 :=
     ⟨hv5, hw2.t.mono fun k h => kA k (.inl h), hw2.b.mono fun k h => kA k (.inr h), fun k h => hw.l0 k (how k h), hw.l1, hw.l2, fun k h => hw.a01 k (how k h), fun k h => hw.a02 k (how k h), hw.a12⟩
    have hvt5 := hvt.mono (h' := S5) fun k h => k5' k (by have := hocn k h; omega)
    have fin := hPi (.tup [vt, .agg (cX r0), .bool true]) S5 ⟨vd, vt, os0', ex0', oc, by rw [hT2], hp5, by rw [hT2]; exact hw5, by rw [hT2, show (l.drop (i + 1)).map cI = ((l.drop i).map cI).tail by rw [hdr]; rfl]; exact hvt5, fun k h => by have := hocn k h; omega, how, by rw [hS5]; simp; omega, fun j h1 h2 h3 => by rw [k5' j (by omega), k4 j (fun e2 => h3 (.inl e2)) h2]; exact kk2 j h1⟩
    have wa := wrap64 (n := (a : Int) + 1) (by omega) (by omega)
    have e1 : (((0 + 1 : Nat) : Int) == 1) = true := rfl
    simp [zZu.c, zZu.b14, zZu.r2, zZu.r3, zZu.r4, zZu.r5, zZu.r6, zZu.r7, zZu.r8, zZu.r9, zZu.r10, k0, k1, k5, k12, k13, k14, hl, cc1, ia, ca, cI1, nc, cp, okp, hc, na, fa, cp1, okv, iq, cq1, okw, sl, hcl, hlenw, cp2, wa, hd, s4', st1]
    refine kDraw1 zZu.r12.ord ?_
    simp [zZu.r12, k0, k1, k5, k12, k13, k14, hl, iw, cw, okX1, s5, cR, ofX, fin]
   ·have hw3 := hwv2.tail (by rw [hql]; simp)
    obtain ⟨wt, st1, hwt⟩ := hw3
    rw [show (q.l.map cX).tail = rt.map cX by rw [hql]; rfl] at hwt
    obtain ⟨id2, ep2, S4, ho2, iq2, s4, hv4, l4, k4⟩ := hw2.q.put hq hoe hwt
    have hid : id2 = id ∧ ep2 = ep := by
     have e2 : iaddrV S2 2 v0 (.int .i64 a) = some (.eptr id ep a 0) := by
      obtain ⟨id3, ep3, e3, oe3, ho3, iq3, cq3, _⟩ := hw2.q.at (i := a) (p := cQu q) (by simp [hq])
      rw [iq3]
      have : id3 = id := by rw [ho] at ho3; exact (Option.some.inj ho3).symm
      subst this
      rcases hw2.q with ⟨_, h2, _⟩ | ⟨id', ep', es', h3, h4, _⟩
      ·simp at h2; rw [h2] at hq; simp at hq
      ·rw [h4] at iq iq3
       have a1 : ep' = ep := by
        simp only [iaddrV] at iq
        split at iq
        ·split at iq
         ·split at iq
          ·simp only [Option.some.injEq, V.eptr.injEq] at iq; exact iq.2.1
          ·cases iq
         ·cases iq
        ·cases iq
       have a2 : ep' = ep3 := by
        simp only [iaddrV] at iq3
        split at iq3
        ·split at iq3
         ·split at iq3
          ·simp only [Option.some.injEq, V.eptr.injEq] at iq3; exact iq3.2.1
          ·cases iq3
         ·cases iq3
        ·cases iq3
       rw [← a2, a1]
     rw [e2] at iq2
     simp only [Option.some.injEq, V.eptr.injEq] at iq2
     exact ⟨iq2.1.symm, iq2.2.1.symm⟩
    have hR4 : S4[H.length]? = some (.cells zX) := by
     rw [k4 _ (fun e2 => by have := hpo _ (.inl (.inl e2)); omega)]; exact hR2
    have hvl4 := hvl.vs.mono (h' := S4) fun k h => k4 k (fun e2 => by have := hocn k h; have := hw.lt (.inl (.inl e2)); omega)
    have hwv4 := hwv2.mono (h' := S4) fun k h => k4 k (hno k h)
    obtain ⟨aw, iw, cw⟩ := hwv4.at (i := 0) (x := cX r0) (by rw [hql]; rfl)
    have iw : iaddrV S4 12 w (.int .i64 0) = some aw := iw
    have s5 := vZE (n := 12) (A := cX r0) hR4 rfl rfl rfl
    obtain ⟨S5, hS5⟩ : ∃ S5, S5 = S4.set H.length (.cells (cX r0)) := ⟨_, rfl⟩
    rw [← hS5] at s5
    have cR : cellsAt S5 (.ptr H.length 0) = some (cX r0) := by rw [hS5]; exact qZo (wZd hR4 _) 0
    have hT2 : takeS s l = ({ s with qs := s.qs.set a { q with l := rt } }, l.drop i, r0, true) := by
     rw [hT, hdr]
     conv => lhs; unfold takeS
     simp only [hpl, hq, hql, List.length_cons, List.headD_cons, List.tail_cons]
     rw [if_neg (by omega)]
    have k5' : ∀ j, j ≠ H.length → S5[j]? = S4[j]? := fun j h => by rw [hS5, List.getElem?_set_ne (Ne.symm h)]
    have hpn0 : o0 ≠ some p := fun e2 => by have := hpo p (.inl (.inl e2)); omega
    have hp5 : S5[p]? = some (.cells [v0, v1, v2, .bool s.busy]) := by rw [k5' p (by omega), k4 p hpn0]; exact hp2
    have kA : ∀ k, (Ow o1 os1 k ∨ o2 = some k) → S5[k]? = S2[k]? := fun k h => by
     have hlt := hw.lt (.inr h)
     rw [k5' k (by omega), k4 k (fun e2 => ?_)]
     rcases h with h | h
     ·exact hw.a01 k (.inl e2) h
     ·exact hw.a02 k (.inl e2) h
    have hv5 := hv4.mono (H' := S5) fun k h => by
     have := hw.lt (.inl h)
     rw [k5' k (by omega)]
    have hw5 : Own S5 lo v0 v1 v2 o0 o1 o2 os0 os1 (s.qs.set a { q with l := rt }) s.st s.bk [] ex1 :=
     ⟨hv5, hw2.t.mono fun k h => kA k (.inl h), hw2.b.mono fun k h => kA k (.inr h), hw.l0, hw.l1, hw.l2, hw.a01, hw.a02, hw.a12⟩
    have hvt5 := hvl4.mono (h' := S5) fun k h => k5' k (by have := hocn k h; omega)
    have fin := hPi (.tup [vc, .agg (cX r0), .bool true]) S5 ⟨v0, vc, os0, [], oc, by rw [hT2], hp5, by rw [hT2]; exact hw5, by rw [hT2]; exact hvt5, fun k h => by have := hocn k h; omega, fun k h => h, by rw [hS5]; simp; omega, fun j h1 h2 h3 => by rw [k5' j (by omega), k4 j (fun e2 => h3 (.inl e2))]; exact kk2 j h1⟩
    have e1 : ((rt.length : Int) + 1 == 1) = false := by rw [beq_eq_false_iff_ne]; omega
    have iq2' : iaddrV S2 2 v0 (.int .i64 a) = some (.eptr id ep a 0) := by rw [iq2, hid.1, hid.2]
    rw [hid.1, hid.2] at s4
    simp [zZu.c, zZu.b14, zZu.r2, zZu.r3, zZu.r4, zZu.r5, zZu.r6, zZu.r7, zZu.r8, k0, k1, k5, k12, k13, k14, hl, cc1, ia, ca, cI1, nc, cp, okp, hc, na, fa, cp1, okv, iq, cq1, okw, sl, hcl, hlenw, e1]
    refine kDraw1 zZu.r11.ord ?_
    simp [zZu.r11, k0, k1, k5, k12, k13, k14, hl, nc, cp2, okv, st1, iq2', fa, s4]
    refine kDraw1 zZu.r12.ord ?_
    simp [zZu.r12, k0, k1, k5, k12, k13, k14, hl, iw, cw, okX1, s5, cR, ofX, fin]
 ·have cc1 : ¬ (i : Int) < l.length := by omega
  have hT2 : takeS s l = (s, [], {}, false) := by rw [hT, List.drop_eq_nil_of_le (by omega)]; rfl
  have hpS : S[p]? = some (.cells [v0, v1, v2, .bool s.busy]) := by rw [hk p hlp]; exact hp
  have hwS := hw.mono2 (H' := S) fun id h => hk id (hw.lt h)
  have bd : evBuild S zX [] = some (.agg zX, S) := rfl
  have s5 := vZE (n := 12) (A := zX) hR rfl rfl rfl
  obtain ⟨S5, hS5⟩ : ∃ S5, S5 = S.set H.length (.cells zX) := ⟨_, rfl⟩
  rw [← hS5] at s5
  have hSS : S5 = S := by
   rw [hS5]
   apply List.ext_getElem?
   intro n
   by_cases e : H.length = n
   ·subst e; rw [List.getElem?_set_self hS, hR]
   ·rw [List.getElem?_set_ne e]
  rw [hSS] at s5
  have cR := qZo hR 0
  have fin := hPi (.tup [.nils, .agg zX, .bool false]) S ⟨v0, .nils, os0, [], none, by rw [hT2]; rfl, hpS, by rw [hT2]; exact hwS, by rw [hT2]; exact .inl ⟨.inl rfl, rfl, rfl⟩, fun k h => (by cases h), fun k h => h, by omega, fun j h1 _ _ => hk j h1⟩
  simp [zZu.c, zZu.b14, zZu.r2, zZu.r15, k0, k1, k5, k12, k13, k14, hl, cc1, bd, s5, cR, ofCells, fin]
end Go.Proofs.Rc
