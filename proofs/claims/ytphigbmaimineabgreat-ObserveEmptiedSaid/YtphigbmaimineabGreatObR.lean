/- All records handed over. All records handed over: Notify. What is handed over, and what stays: plain. No conditions. -/
import Derived.Test.YtphigbmaimineabGreatObN
set_option maxHeartbeats 16000000
set_option maxRecDepth 100000
set_option linter.unusedVariables false
set_option linter.unusedSimpArgs false
set_option linter.unusedSectionVars false
namespace Go.Proofs.Ob
open Go Go.Ev
theorem El.toQ {H : Heap} {e : List V} {o : Option Nat} {q : List Rec} (h : El H 11 e o (cQ q)) : ∃ v, e = [v] ∧ VL H 11 v o (q.map cR) := by
 obtain ⟨a, b, v, xs, h1, h2, h3, h4, h5⟩ := h
 cases a with
 | nil =>
  simp only [List.nil_append, cQ, List.cons.injEq, V.arr.injEq] at h2
  obtain ⟨rfl, rfl⟩ := h2
  exact ⟨v, h1, h5⟩
 | cons x a => simp [cQ] at h2
theorem Subs.set {H : Heap} {z : Nat} {e' p' : List V} (hE : El H z e' none p') : ∀ {es : List (List V)} {os : List (Option Nat)} {ps : List (List V)} (i : Nat), Subs H z es os ps → Subs H z (es.set i e') (os.set i none) (ps.set i p')
 | [], [], [], _, h => h
 | e :: es, o :: os, p :: ps, 0, ⟨h1, h2, h3⟩ => ⟨hE, fun o' _ id h => (by cases h), h3⟩
 | e :: es, o :: os, p :: ps, i + 1, ⟨h1, h2, h3⟩ => ⟨h1, fun o' ho' => (by
   rcases List.mem_or_eq_of_mem_set ho' with h | h
   ·exact h2 o' h
   ·rw [h]; intro id _ h; cases h), Subs.set hE i h3⟩
 | [], [], _ :: _, _, h => h.elim
 | [], _ :: _, _, _, h => h.elim
 | _ :: _, [], _, _, h => h.elim
 | _ :: _, _ :: _, [], _, h => h.elim
theorem Subs.apart {H : Heap} {z : Nat} : ∀ {es : List (List V)} {os : List (Option Nat)} {ps : List (List V)} {i : Nat} {o : Option Nat}, Subs H z es os ps → os[i]? = some o → ∀ o' ∈ os.set i none, Apart o o'
 | [], [], [], _, _, _, h => by simp at h
 | e :: es, o1 :: os, p :: ps, 0, o, ⟨_, h2, _⟩, h => by
  simp only [List.getElem?_cons_zero, Option.some.injEq] at h
  subst h
  intro o' ho'
  simp only [List.set_cons_zero, List.mem_cons] at ho'
  rcases ho' with rfl | ho'
  ·intro id _ h; cases h
  ·exact h2 o' ho'
 | e :: es, o1 :: os, p :: ps, i + 1, o, ⟨_, h2, h3⟩, h => by
  simp only [List.getElem?_cons_succ] at h
  intro o' ho'
  simp only [List.set_cons_succ, List.mem_cons] at ho'
  rcases ho' with rfl | ho'
  ·exact (h2 o (List.mem_of_getElem? h)).symm
  ·exact h3.apart h o' ho'
 | [], [], _ :: _, _, _, h, _ => h.elim
 | [], _ :: _, _, _, _, h, _ => h.elim
 | _ :: _, [], _, _, _, h, _ => h.elim
 | _ :: _, _ :: _, [], _, _, h, _ => h.elim
theorem VQ.atQ {H : Heap} {v : V} {o : Option Nat} {os : List (Option Nat)} {qs : List (List Rec)} (h : VQ H 1 11 v o os (qs.map cQ) []) {i : Nat} {q : List Rec} (hq : qs[i]? = some q) :
  ∃ id ep x ox, o = some id ∧ os[i]? = some ox ∧ iaddrV H 1 v (.int .i64 i) = some (.eptr id ep i 0) ∧ cellsAt H (.eptr id ep i 0) = some [x] ∧ VL H 11 x ox (q.map cR) ∧ (∀ o' ∈ os.set i none, Apart ox o') ∧ ox ≠ some id ∧
   (∀ H2, H2[id]? = H[id]? → (∀ k, some k ∈ os.set i none → H2[k]? = H[k]?) → ∃ H3, iaddrV H2 1 v (.int .i64 i) = some (.eptr id ep i 0) ∧ evStoreV H2 1 (.eptr id ep i 0) .nils = some (V.non, H3) ∧ VQ H3 1 11 v o (os.set i none) ((qs.set i []).map cQ) [] ∧ H3.length = H2.length ∧ ∀ k, k ≠ id → H3[k]? = H2[k]?) := by
 have hi := (List.getElem?_eq_some_iff.1 hq).1
 rcases h with ⟨_, h2, _⟩ | ⟨id, ep, es, rfl, rfl, hr, hs, hn⟩
 ·simp at h2; subst h2; simp at hq
 ·obtain ⟨e, ox, h1, h2, h3⟩ := hs.get (i := i) (p := cQ q) (by simp [hq])
  obtain ⟨x, rfl, h4⟩ := h3.toQ
  have hl := hs.len
  simp only [List.length_map] at hl
  rw [List.append_nil] at hr
  have ad : ∀ H2 : Heap, H2[id]? = H[id]? → iaddrV H2 1 (.sl id ep 0 (qs.map cQ).length) (.int .i64 i) = some (.eptr id ep i 0) := fun H2 h => by
   simp only [iaddrV, h, hr, Nat.zero_add, true_and, List.length_map, Int.toNat_natCast]
   rw [if_pos ⟨by omega, by omega⟩, if_pos (by omega)]
  refine ⟨id, ep, x, ox, rfl, h2, ad H rfl, by simp only [cellsAt, hr, if_true, h1, Option.map_some, List.drop_zero], h4, hs.apart h2, fun e => hn (by rw [← e]; exact List.mem_of_getElem? h2), fun H2 hid hk => ?_⟩
  have hlt : id < H2.length := by
   have := (List.getElem?_eq_some_iff.1 (hid.trans hr)).1; exact this
  have hnone : some id ∉ os.set i none := fun h => by
   rcases List.mem_or_eq_of_mem_set h with h | h
   ·exact hn h
   ·cases h
  refine ⟨H2.set id (.row 1 (es.set i [.nils]) ep true), ad H2 hid, ?_, .inr ⟨id, ep, es.set i [.nils], rfl, by simp, by rw [List.append_nil, List.getElem?_set_self hlt], ?_, hnone⟩, by simp, fun k hk => by rw [List.getElem?_set_ne (Ne.symm hk)]⟩
  ·have e1 : V.nils.cells = [V.nils] := rfl
   have e2 : ([V.nils] : List V).all V.isCell = true := rfl
   have e3 : setRange [x] 0 [V.nils] = some [V.nils] := rfl
   simp only [evStoreV, e1, e2, List.length_cons, List.length_nil, Nat.zero_add, and_self, if_true, evStore, hid, hr, h1, e3, qZ6]
  ·rw [List.map_set]
   have hE : El H 11 [.nils] none (cQ []) := ⟨[], [], .nils, [], rfl, rfl, rfl, rfl, VL.nil _ _⟩
   exact (Subs.set hE i hs).mono fun k h => by rw [List.getElem?_set_ne (fun e => hnone (by rw [e]; exact h)), hk k h]
def dropN (qs : List (List Rec)) (gs : List Rg) : Nat → List Rg
 | 0 => gs
 | i + 1 => if (qs.getD i []) = [] then dropN qs gs i else (dropN qs gs i).filter fun g => !goes ((i : Int) + 1) g
def notN (qs : List (List Rec)) : Nat → List (Int × List Rec)
 | 0 => []
 | i + 1 => if (qs.getD i []) = [] then notN qs i else notN qs i ++ [((i : Int) + 1, qs.getD i [])]
def cN (p : Int × List Rec) : List V := [.int .i64 p.1, .arr (p.2.map cR)]
theorem notN_len (qs : List (List Rec)) : ∀ i, (notN qs i).length ≤ i
 | 0 => Nat.le_refl _
 | i + 1 => by
  have := notN_len qs i
  simp only [notN]
  split
  ·omega
  ·simp; omega
theorem wZR (qs : List (List Rec)) (gs : List Rg) : ∀ i, (dropN qs gs i).length ≤ gs.length
 | 0 => Nat.le_refl _
 | i + 1 => by
  have := wZR qs gs i
  simp only [dropN]
  split
  ·exact this
  ·exact Nat.le_trans (List.length_filter_le _ _) this
theorem El.N {H : Heap} {n : Int} {q : List Rec} {v : V} {o : Option Nat} (h : VL H 11 v o (q.map cR)) : El H 11 [.int .i64 n, v] o (cN (n, q)) := ⟨[.int .i64 n], [], v, _, rfl, rfl, rfl, rfl, h⟩
theorem bsN (H : Heap) (n : Int) (v : V) (hv : v.isCell = true) : evBslice H [.int .i64 0, .nils] 1 2 [(0, .agg [.int .i64 n, v])] = some (.sl H.length 0 0 1, H ++ [.row 2 [[.int .i64 n, v]] 0 true]) := by
 have hcc : (V.agg [.int .i64 n, v]).cells = [.int .i64 n, v] := rfl
 have hall : ([.int .i64 n, v] : List V).all V.isCell = true := by simp only [List.all_cons, List.all_nil, hv]; rfl
 simp only [evBslice, List.map_cons, List.map_nil, placeParts, hcc, hall]
 simp [setRange, chunks, vZn]
open Go Go.Ev
def ntfA (w : Wch) : Wch := { regs := dropN w.qs w.regs w.qs.length, next := max w.next 1, qs := List.replicate w.qs.length [] }
noncomputable def ntfR (w : Wch) : V := if aloneB w = true then .tup [.agg (cW (ntfA w)), .arr ((notN w.qs w.qs.length).map cN), .int .i64 0] else .tup [.agg (cW {}), .arr [], .int .i64 15]
def Ow (o : Option Nat) (os : List (Option Nat)) (id : Nat) : Prop := o = some id ∨ some id ∈ os
theorem kZh {w : Wch} (h : aloneB w = true) : (∀ q ∈ w.qs, q.length ≤ 4096) ∧ w.qs.length ≤ 256 ∧ w.regs.length ≤ 1024 := by
 unfold aloneB at h
 split at h
 ·cases h
 rename_i hb
 split at h
 ·cases h
 rename_i ha
 unfold badW at hb
 refine ⟨fun q hq => ?_, by omega, by omega⟩
 rw [List.any_eq_true] at ha
 by_cases c : q.length ≤ 4096
 ·exact c
 ·exact absurd ⟨q, hq, by simp; omega⟩ ha
def NX (w : Wch) (p : Nat) (m : Nat) (s : St) : Prop := s.marks = [] ∧ ∃ (i : Nat) (v0 v2 vl : V) (o0 o2 ol : Option Nat) (os0 os2 osl : List (Option Nat)) (ex : List (List V)), m = w.qs.length - i ∧ i ≤ w.qs.length ∧
 (eget s.env 2 = .ptr 1 0 ∧ eget s.env 5 = .ptr p 0 ∧ eget s.env 6 = vl ∧ eget s.env 16 = v2 ∧ eget s.env 17 = .int .i64 w.qs.length ∧ eget s.env 18 = .int .i64 i ∧ s.env.length = 45) ∧
 s.heap[1]? = some (.cells [.nils, .int .i64 0, .nils]) ∧ s.heap[p]? = some (.cells [v0, .int .i64 (max w.next 1), v2]) ∧
 VQ s.heap 12 1 v0 o0 os0 ((dropN w.qs w.regs i).map cG) ex ∧ VQ s.heap 1 11 v2 o2 os2 ((List.replicate i [] ++ w.qs.drop i).map cQ) [] ∧ VQ s.heap 2 11 vl ol osl ((notN w.qs i).map cN) [] ∧
 (∀ id, Ow o0 os0 id ∨ Ow o2 os2 id ∨ Ow ol osl id → 2 ≤ id ∧ id ≠ p) ∧ (∀ id, Ow o0 os0 id → ¬ Ow o2 os2 id ∧ ¬ Ow ol osl id) ∧ ∀ id, Ow o2 os2 id → ¬ Ow ol osl id
theorem wZm (w : Wch) (z : SzW w) (H : Heap) : callW Φ zZp [.agg (cW w)] H = some (ntfR w, H) := by
 refine jZ7 zZp.Φ rfl (args := [.agg (cW w)]) rfl ?_
 obtain ⟨P, hP⟩ : ∃ P : V → Heap → Prop, P = fun r h2 => ∃ h3, fz fzDepth h2 r = some (ntfR w, h3) := ⟨_, rfl⟩
 suffices hgo : ∃ r h', evBodyW (callW Φ) zZp.c [.agg (cW w)] [] = some (r, h') ∧ P r h' by rw [hP] at hgo; exact hgo
 have hPz : ∀ r h2 h3, fz fzDepth h2 r = some (ntfR w, h3) → P r h2 := fun r h2 h3 hz => by rw [hP]; exact ⟨h3, hz⟩
 have hPn : ∀ r h2, flatN2 r = true → nz2 r = ntfR w → P r h2 := fun r h2 h h1 => hPz r h2 h2 (by rw [← h1]; exact wZU h)
 clear hP
 refine kZU (Nat.le_of_ble_eq_true rfl) (fun env he h0 => ?_)
 have g0 := h0 0 (by simp)
 change eget env 0 = .agg (cW w) at g0
 clear h0
 simp [zZp.c] at he
 have b0 : evBox [] (cW w) = some (.ptr 0 0, [.cells (cW w)]) := wZc [] _ rfl
 have hcc : (V.agg (cW w)).cells = cW w := rfl
 have hal := jZx w z [.cells (cW w), .cells [.nils, .int .i64 0, .nils]]
 have cw0 : cellsAt [.cells (cW w), .cells [.nils, .int .i64 0, .nils]] (.ptr 0 0) = some (cW w) := rfl
 have okW : ∀ H : Heap, okCells H (some 3) (some (cW w)) = some (.agg (cW w), H) := fun _ => rfl
 cases hA : aloneB w
 ·have hr : ntfR w = .tup [.agg (cW {}), .arr [], .int .i64 15] := by unfold ntfR; rw [if_neg (by rw [hA]; simp)]
  rw [hr] at hPz
  rw [hA] at hal
  have bd : ∀ H : Heap, evBuild H [.nils, .int .i64 0, .nils] [] = some (.agg [.nils, .int .i64 0, .nils], H) := fun _ => rfl
  have st : evStoreV [.cells (cW w), .cells [.nils, .int .i64 0, .nils]] 3 (.ptr 1 0) (.agg [.nils, .int .i64 0, .nils]) = some (V.non, [.cells (cW w), .cells [.nils, .int .i64 0, .nils]]) := vZO (H := [.cells (cW w), .cells [.nils, .int .i64 0, .nils]]) (id := 1) rfl rfl rfl rfl
  have c1 : cellsAt [.cells (cW w), .cells [.nils, .int .i64 0, .nils]] (.ptr 1 0) = some [.nils, .int .i64 0, .nils] := rfl
  have fin := hPz (.tup [.agg [.nils, .int .i64 0, .nils], .nils, .int .i64 15]) [.cells (cW w), .cells [.nils, .int .i64 0, .nils]] _ rfl
  simp [zZp.c, zZp.r0, zZp.r1, zZp.r2, g0, he, hcc, b0, cw0, okW, hal, bd, st, c1, ofCells, fin]
 have hr : ntfR w = .tup [.agg (cW (ntfA w)), .arr ((notN w.qs w.qs.length).map cN), .int .i64 0] := by unfold ntfR; rw [if_pos hA]
 rw [hr] at hPz
 clear hPn
 rw [hA] at hal
 obtain ⟨z4, zq, zg⟩ := kZh hA
 obtain ⟨r, H1, hown, v0, v2, o0, o2, os0, os2, rfl, hk1, hw⟩ := jZ0 w z z4 zg zq [.cells (cW w), .cells [.nils, .int .i64 0, .nils]]
 have h1 : H1[1]? = some (.cells [.nils, .int .i64 0, .nils]) := hk1 1 (by simp)
 have hl1 := (List.getElem?_eq_some_iff.1 h1).1
 have hcell : ([v0, .int .i64 (max w.next 1), v2] : List V).all V.isCell = true := by simp only [List.all_cons, List.all_nil, hw.r.cell.1, hw.q.cell.1]; rfl
 have st : evStoreV (H1 ++ [.cells [.nils, .int .i64 0, .nils]]) 3 (.ptr H1.length 0) (.agg [v0, .int .i64 (max w.next 1), v2]) = some (V.non, H1 ++ [.cells [v0, .int .i64 (max w.next 1), v2]]) := vZX rfl rfl hcell
 obtain ⟨H2, hH2⟩ : ∃ H2, H2 = H1 ++ [.cells [v0, .int .i64 (max w.next 1), v2]] := ⟨_, rfl⟩
 rw [← hH2] at st
 have hp : H2[H1.length]? = some (.cells [v0, .int .i64 (max w.next 1), v2]) := by rw [hH2]; simp
 have up : ∀ k, k < H1.length → H2[k]? = H1[k]? := fun k hk => by rw [hH2, List.getElem?_append_left hk]
 have c2 := qZ4 hp 2
 have hw0 := hw.r.mono (H' := H2) fun id h => up id (h.elim (hw.r.lt.1 id) (hw.r.lt.2 id))
 have hw2 := hw.q.mono (H' := H2) fun id h => up id (h.elim (hw.q.lt.1 id) (hw.q.lt.2 id))
 have ln := fun H => hw2.len H
 simp only [List.length_map] at ln
 simp [zZp.c, zZp.r0, zZp.r1, zZp.r3, zZp.r4, zZp.r5, g0, he, hcc, b0, cw0, okW, hal, hown, st, c2, ln]
 refine kLoop (NX w H1.length) w.qs.length ⟨rfl, 0, v0, v2, .nils, o0, o2, none, os0, os2, [], [], rfl, by omega, ⟨by simp [he], by simp [he], by simp [he], by simp [he], by simp [he], by simp [he], by simpa using he⟩, by show H2[1]? = _; rw [up 1 hl1]; exact h1, hp, hw0, hw2, VQ.nil _ _ _, fun id h => ?_, fun id h => ⟨fun h2 => hw.ap id h h2, fun h2 => by simp [Ow] at h2⟩, fun id _ h2 => by simp [Ow] at h2⟩ ?_
 ·rcases h with h | h | h
  ·have a := hw.lo0 id h
   have b : id < H1.length := h.elim (hw.r.lt.1 id) (hw.r.lt.2 id)
   simp only [List.length_cons, List.length_nil] at a
   omega
  ·have a := hw.lo2 id h
   have b : id < H1.length := h.elim (hw.q.lt.1 id) (hw.q.lt.2 id)
   simp only [List.length_cons, List.length_nil] at a
   omega
  ·simp [Ow] at h
 obtain ⟨p, hpe⟩ : ∃ p, p = H1.length := ⟨_, rfl⟩
 have hp2 : 2 ≤ p := by omega
 rw [← hpe]
 clear hpe ln hw2 hw0 c2 up hp st hcell hl1 h1 hw hk1 hown g0 he b0 cw0 okW hal hcc hH2 H2 H1 v0 v2 o0 o2 os0 os2 env
 rintro m ⟨env, mk, S⟩ ⟨hm, i, v0, v2, vl, o0, o2, ol, os0, os2, osl, ex, rfl, hi, ⟨k2, k5, k6, k16, k17, k18, hl⟩, h1, hp, q0, q2, ql, hlo, a0, a2⟩
 simp only at hm k2 k5 k6 k16 k17 k18 hl h1 hp q0 q2 ql
 obtain rfl := hm
 have hpl := (List.getElem?_eq_some_iff.1 hp).1
 by_cases c : i < w.qs.length
 ·have c1 : (i : Int) < w.qs.length := by omega
  obtain ⟨q, hq⟩ : ∃ q, w.qs[i]? = some q := ⟨_, List.getElem?_eq_getElem c⟩
  have hgd : w.qs.getD i [] = q := by rw [List.getD_eq_getElem?_getD, hq]; rfl
  have hdr : w.qs.drop i = q :: w.qs.drop (i + 1) := by
   rw [List.drop_eq_getElem_cons c, ← Option.some.inj ((List.getElem?_eq_getElem c).symm.trans hq)]
  have hqi : (List.replicate i [] ++ w.qs.drop i)[i]? = some q := by rw [hdr, List.getElem?_append_right (by simp)]; simp
  have hset : (List.replicate i [] ++ w.qs.drop i).set i [] = List.replicate (i + 1) [] ++ w.qs.drop (i + 1) := by
   rw [hdr, List.set_append_right _ _ (by simp), List.length_replicate, Nat.sub_self, List.set_cons_zero, List.replicate_succ']; simp
  obtain ⟨id2, ep2, x, ox, rfl, hox, ia, ca, hvx, apx, hoxn, upd⟩ := q2.atQ hqi
  have ok : ∀ H : Heap, okCells H none (some [x]) = some (x, H) := fun _ => rfl
  have wr := wrap64 (n := (i : Int) + 1) (by omega) (by omega)
  have sx : evStoreV (S ++ [.cells [.int .i64 0]]) 1 (.ptr S.length 0) (.int .i64 i) = some (V.non, S ++ [.cells [.int .i64 i]]) := by
   rw [vZw (cs := [.int .i64 0]) (by simp) (by simp) ⟨rfl, rfl⟩]; simp [List.set_append]
  obtain ⟨S1, hS1⟩ : ∃ S1, S1 = S ++ [.cells [.int .i64 i]] := ⟨_, rfl⟩
  rw [← hS1] at sx
  have l1 : S1.length = S.length + 1 := by rw [hS1]; simp
  have n1 : ∀ k, k < S.length → S1[k]? = S[k]? := fun k hk => by rw [hS1, List.getElem?_append_left hk]
  have hb1 : S1[S.length]? = some (.cells [.int .i64 i]) := by rw [hS1]; simp
  have lt0 : ∀ id, Ow o0 os0 id → id < S.length := fun id h => h.elim (q0.lt.1 id) (q0.lt.2 id)
  have lt2 : ∀ id, Ow (some id2) os2 id → id < S.length := fun id h => h.elim (q2.lt.1 id) (q2.lt.2 id)
  have ltl : ∀ id, Ow ol osl id → id < S.length := fun id h => h.elim (ql.lt.1 id) (ql.lt.2 id)
  have len8 := fun H => hvx.len H
  simp only [List.length_map] at len8
  have q0' := q0.mono (H' := S1) fun id h => n1 id (lt0 id h)
  have q2' := q2.mono (H' := S1) fun id h => n1 id (lt2 id h)
  have ql' := ql.mono (H' := S1) fun id h => n1 id (ltl id h)
  have hp' : S1[p]? = some (.cells [v0, .int .i64 (max w.next 1), v2]) := by rw [n1 p hpl]; exact hp
  have h1' : S1[1]? = some (.cells [.nils, .int .i64 0, .nils]) := by rw [n1 1 (by omega)]; exact h1
  by_cases hqe : q = []
  ·subst hqe
   have hd : dropN w.qs w.regs (i + 1) = dropN w.qs w.regs i := by simp only [dropN, hgd, if_true]
   have hn : notN w.qs (i + 1) = notN w.qs i := by simp only [notN, hgd, if_true]
   have hrep : List.replicate (i + 1) ([] : List Rec) ++ w.qs.drop (i + 1) = List.replicate i [] ++ w.qs.drop i := by rw [hdr, List.replicate_succ']; simp
   simp [zZp.b13, zZp.r6, zZp.r7, zZp.r8, zZp.r12, k2, k5, k6, k16, k17, k18, hl, c1, ia, ca, ok, sx, len8, wr]
   exact ⟨w.qs.length - (i + 1), by omega, rfl, i + 1, v0, v2, vl, o0, some id2, ol, os0, os2, osl, ex, rfl, by omega, ⟨by simp [hl, k2], by simp [hl, k5], by simp [hl, k6], by simp [hl, k16], by simp [hl, k17], by simp [hl], by simp [hl]⟩, h1', hp', by rw [hd]; exact q0', by rw [hrep]; exact q2', by rw [hn]; exact ql', hlo, a0, a2⟩
  ·have hqn : ((q.length : Int) == 0) = false := by
    have : q.length ≠ 0 := fun e => hqe (List.eq_nil_of_length_eq_zero e)
    simp; exact hqe
   have O2i : Ow (some id2) os2 id2 := .inl rfl
   have O2x : ∀ k, ox = some k → Ow (some id2) os2 k := fun k e => .inr (by rw [← e]; exact List.mem_of_getElem? hox)
   have hvx1 : VL S1 11 x ox (q.map cR) := hvx.mono fun id h => n1 id (hvx.lt h)
   have bd : ∀ (H : Heap) (n : Int), evBuild H [.int .i64 0, .nils] [(0, 1, .int .i64 n), (1, 1, x)] = some (.agg [.int .i64 n, x], H) := fun H n => by
    rcases hvx1 with ⟨rfl | rfl, _⟩ | ⟨_, _, _, rfl, _⟩ <;> rfl
   have bs := bsN S1 (i + 1) x hvx1.cell.1
   have hnl := notN_len w.qs i
   obtain ⟨vl', ol', S2, e2, ql2, l2, kk2, n2⟩ := ql'.add (by_ := 32) (El.N (n := (i : Int) + 1) hvx1) rfl (fun o' ho' id hid hoe => a2 id (O2x id hoe) (.inr (by rw [← hid]; exact ho'))) (fun id hid hoe => a2 id (O2x id hoe) (.inl hid)) (by rw [List.length_map]; unfold roomB; omega)
   have nol : ∀ k, ¬ Ow ol osl k → ol ≠ some k := fun k h e => h (.inl e)
   have base2 : ∀ k, k < S1.length → ¬ Ow ol osl k → S2[k]? = S1[k]? := fun k hk h => kk2 k hk (nol k h)
   have lbS : ¬ Ow ol osl S.length := fun h => by have := ltl _ h; omega
   have hOl : ∀ id, Ow ol' (osl ++ [ox]) id → Ow ol osl id ∨ S1.length ≤ id ∨ ox = some id := fun id h => by
    rcases h with h | h
    ·exact (n2 id h).elim (fun h => .inl (.inl h)) fun h => .inr (.inl h)
    ·rcases List.mem_append.1 h with h | h
     ·exact .inl (.inr h)
     ·exact .inr (.inr (List.mem_singleton.1 h).symm)
   have O2s : ∀ k, Ow (some id2) (os2.set i none) k → Ow (some id2) os2 k := fun k h => by
    rcases h with h | h
    ·exact .inl h
    ·rcases List.mem_or_eq_of_mem_set h with h | h
     ·exact .inr h
     ·cases h
   have eq2 : ∀ k, Ow (some id2) os2 k → S2[k]? = S[k]? := fun k h => by rw [base2 k (by have := lt2 k h; omega) (a2 k h), n1 k (lt2 k h)]
   obtain ⟨S3, ia3, st3, q23, l3, k3⟩ := upd S2 (eq2 id2 O2i) (fun k h => eq2 k (O2s k (.inr h)))
   rw [hset] at q23
   have hb2 : S2[S.length]? = some (.cells [.int .i64 i]) := by rw [base2 _ (by omega) lbS]; exact hb1
   have hb3 : S3[S.length]? = some (.cells [.int .i64 i]) := by rw [k3 _ (by have := lt2 _ O2i; omega)]; exact hb2
   have npl : ¬ Ow ol osl p := fun h => (hlo p (.inr (.inr h))).2 rfl
   have np2 : p ≠ id2 := fun e => (hlo p (.inr (.inl (.inl (by rw [e]))))).2 rfl
   have hp2' : S2[p]? = some (.cells [v0, .int .i64 (max w.next 1), v2]) := by rw [base2 p (by omega) npl]; exact hp'
   have hp3 : S3[p]? = some (.cells [v0, .int .i64 (max w.next 1), v2]) := by rw [k3 p np2]; exact hp2'
   have h12 : S3[1]? = some (.cells [.nils, .int .i64 0, .nils]) := by
    rw [k3 1 (fun e => by have := (hlo id2 (.inr (.inl O2i))).1; omega), base2 1 (by omega) (fun h => by have := (hlo 1 (.inr (.inr h))).1; omega)]; exact h1'
   have q03 : VQ S3 12 1 v0 o0 os0 ((dropN w.qs w.regs i).map cG) ex := q0'.mono fun k h => by
    rw [k3 k (fun e => (a0 k h).1 (.inl (by rw [e]))), base2 k (by have := lt0 k h; omega) (a0 k h).2]
   have hdl := wZR w.qs w.regs i
   obtain ⟨r, S4, hd, os0', ex', q04, sub, l4, k4⟩ := delG (dropN w.qs w.regs i) v0 o0 os0 ex S.length i S3 (by omega) hb3 (fun e => by have := lt0 _ (.inl e); omega) (by omega) q03
   have o0p : o0 ≠ some p := fun e => (hlo p (.inl (.inl e))).2 rfl
   have hp4 : S4[p]? = some (.cells [v0, .int .i64 (max w.next 1), v2]) := by rw [k4 p (by omega) o0p]; exact hp3
   have h14 : S4[1]? = some (.cells [.nils, .int .i64 0, .nils]) := by rw [k4 1 (by omega) (fun e => by have := (hlo 1 (.inl (.inl e))).1; omega)]; exact h12
   have st5 := vZw (off := 0) hp4 (by simp) q04.cell
   obtain ⟨S5, hS5⟩ : ∃ S5, S5 = S4.set p (.cells [r, .int .i64 (max w.next 1), v2]) := ⟨_, rfl⟩
   have st5' : evStoreV S4 1 (.ptr p 0) r = some (V.non, S5) := by rw [hS5]; exact st5
   have up5 : ∀ k, k ≠ p → S5[k]? = S4[k]? := fun k h => by rw [hS5, List.getElem?_set_ne (Ne.symm h)]
   have cb2 := qZ4 hb2 0
   have cb1 := qZ4 hb1 0
   have cp2 := qZ4 hp2' 2
   have cp3 := qZ4 hp3 0
   have O0s : ∀ k, Ow o0 os0' k → Ow o0 os0 k := fun k h => h.imp (fun h => h) (sub k)
   have cond : ∀ id, Ow ol' (osl ++ [ox]) id → id ≠ id2 ∧ o0 ≠ some id ∧ id ≠ p ∧ 2 ≤ id ∧ ¬ Ow o0 os0 id := fun id h => by
    rcases hOl id h with h | h | h
    ·exact ⟨fun e => a2 id2 O2i (by rw [← e]; exact h), fun e => (a0 id (.inl e)).2 h, (hlo id (.inr (.inr h))).2, (hlo id (.inr (.inr h))).1, fun h0 => (a0 id h0).2 h⟩
    ·have := lt2 _ O2i
     exact ⟨by omega, fun e => by have := lt0 id (.inl e); omega, by omega, by omega, fun h0 => by have := lt0 id h0; omega⟩
    ·have hx := O2x id h
     exact ⟨fun e => hoxn (by rw [h, e]), fun e => (a0 id (.inl e)).1 hx, (hlo id (.inr (.inl hx))).2, (hlo id (.inr (.inl hx))).1, fun h0 => (a0 id h0).1 hx⟩
   have ql5 : VQ S5 2 11 vl' ol' (osl ++ [ox]) ((notN w.qs i).map cN ++ [cN ((i : Int) + 1, q)]) [] := ql2.mono fun k h => by
    obtain ⟨h1, h2, h3, _, _⟩ := cond k h
    rw [up5 k h3, k4 k (by have := h.elim (ql2.lt.1 k) (ql2.lt.2 k); omega) h2, k3 k h1]
   have q25 : VQ S5 1 11 v2 (some id2) (os2.set i none) ((List.replicate (i + 1) [] ++ w.qs.drop (i + 1)).map cQ) [] := q23.mono fun k h => by
    have hx := O2s k h
    rw [up5 k (hlo k (.inr (.inl hx))).2, k4 k (h.elim (q23.lt.1 k) (q23.lt.2 k)) (fun e => (a0 k (.inl e)).1 hx)]
   have q05 : VQ S5 12 1 r o0 os0' (((dropN w.qs w.regs i).filter fun g => !goes ((i : Int) + 1) g).map cG) ex' := q04.mono fun k h => up5 k (hlo k (.inl (O0s k h))).2
   have hdn : dropN w.qs w.regs (i + 1) = (dropN w.qs w.regs i).filter fun g => !goes ((i : Int) + 1) g := by simp only [dropN, hgd, if_neg hqe]
   have hnn : notN w.qs (i + 1) = notN w.qs i ++ [((i : Int) + 1, q)] := by simp only [notN, hgd, if_neg hqe]
   have okx : ∀ H : Heap, okCells H none (some [V.int .i64 i]) = some (.int .i64 i, H) := fun _ => rfl
   simp [zZp.b13, zZp.r6, zZp.r7, zZp.r8, zZp.r9, zZp.r10, zZp.r11, zZp.r12, k2, k5, k6, k16, k17, k18, hl, c1, ia, ca, ok, sx, len8, hqe, hqn, cb1, wr, bd, bs, e2, cp2, cb2, ia3, st3, cp3, evs, fS, hd, st5']
   refine ⟨w.qs.length - (i + 1), by omega, rfl, i + 1, r, v2, vl', o0, some id2, ol', os0', os2.set i none, osl ++ [ox], ex', rfl, by omega, ⟨by simp [hl, k2], by simp [hl, k5], by simp [hl], by simp [hl, k16], by simp [hl, k17], by simp [hl], by simp [hl]⟩, by show S5[1]? = _; rw [up5 1 (by omega)]; exact h14, by show S5[p]? = _; rw [hS5]; exact vZ2 hp4 _, by rw [hdn]; exact q05, q25, by rw [hnn, List.map_append]; exact ql5, fun id h => ?_, fun id h => ⟨fun h2 => (a0 id (O0s id h)).1 (O2s id h2), fun h2 => (cond id h2).2.2.2.2 (O0s id h)⟩, fun id h h2 => ?_⟩
   ·rcases h with h | h | h
    ·exact hlo id (.inl (O0s id h))
    ·exact hlo id (.inr (.inl (O2s id h)))
    ·exact ⟨(cond id h).2.2.2.1, (cond id h).2.2.1⟩
   ·rcases hOl id h2 with h3 | h3 | h3
    ·exact a2 id (O2s id h) h3
    ·have := lt2 id (O2s id h); omega
    ·rcases h with h | h
     ·exact hoxn (by rw [h3, h])
     ·exact apx _ h id h3 rfl
 ·have c1 : ¬ (i : Int) < w.qs.length := by omega
  have hie : i = w.qs.length := by omega
  subst hie
  rw [List.drop_length, List.append_nil] at q2
  have cp := qZ4 hp 0
  have hcell : ([v0, .int .i64 (max w.next 1), v2] : List V).all V.isCell = true := by simp only [List.all_cons, List.all_nil, q0.cell.1, q2.cell.1]; rfl
  have st := vZO (n := 3) (A := [v0, .int .i64 (max w.next 1), v2]) h1 rfl rfl hcell
  obtain ⟨S6, hS6⟩ : ∃ S6, S6 = S.set 1 (.cells [v0, .int .i64 (max w.next 1), v2]) := ⟨_, rfl⟩
  rw [← hS6] at st
  have cB : cellsAt S6 (.ptr 1 0) = some [v0, .int .i64 (max w.next 1), v2] := by rw [hS6]; exact qZ4 (vZ2 h1 _) 0
  have up : ∀ id, 2 ≤ id → S6[id]? = S[id]? := fun id h => by rw [hS6, List.getElem?_set_ne (by omega)]
  have q0 := q0.mono (H' := S6) fun id h => up id (hlo id (.inl h)).1
  have q2 := q2.mono (H' := S6) fun id h => up id (hlo id (.inr (.inl h))).1
  have ql := ql.mono (H' := S6) fun id h => up id (hlo id (.inr (.inr h))).1
  have hfin : ∃ H8, fz 64 S6 (.tup [.agg [v0, .int .i64 (max w.next 1), v2], vl, .int .i64 0]) = some (.tup [.agg (cW (ntfA w)), .arr ((notN w.qs w.qs.length).map cN), .int .i64 0], H8) := by
   obtain ⟨H8, f1, g1, j1⟩ := q0.fz (d := 59)
   obtain ⟨H9, f2, g2, j2⟩ := (q2.mono (H' := H8) fun id h => j1 id (fun e => (a0 id (.inl e)).1 h) (fun e => (a0 id (.inr e)).1 h)).fz (d := 59)
   obtain ⟨H10, f3, g3, j3⟩ := ((ql.mono (H' := H8) fun id h => j1 id (fun e => (a0 id (.inl e)).2 h) (fun e => (a0 id (.inr e)).2 h)).mono (H' := H9) fun id h => j2 id (fun e => a2 id (.inl e) h) (fun e => a2 id (.inr e) h)).fz (d := 60)
   refine ⟨H10, ?_⟩
   have e : ∀ (d : Nat) (H : Heap) (n : Int), Go.Ev.fz (d + 1) H (.int .i64 n) = some (.int .i64 n, H) := fun _ _ _ => rfl
   have hag : Go.Ev.fz 63 S6 (.agg [v0, .int .i64 (max w.next 1), v2]) = some (.agg (cW (ntfA w)), H9) := by
    show (mapH (Go.Ev.fz 62) S6 [v0, .int .i64 (max w.next 1), v2]).map (fun p => (V.agg p.1, p.2)) = _
    simp only [mapH, f1, e 61, f2, Option.map_some, ntfA]
   show (mapH (Go.Ev.fz 63) S6 [.agg [v0, .int .i64 (max w.next 1), v2], vl, .int .i64 0]).map (fun p => (V.tup p.1, p.2)) = _
   simp only [mapH, hag, f3, e 62, Option.map_some]
  obtain ⟨H8, hf⟩ := hfin
  have fin := hPz _ _ _ hf
  simp [zZp.c, zZp.b13, zZp.r6, zZp.r14, k2, k5, k6, k16, k17, k18, hl, c1, cp, st, cB, ofCells, fin]
open Go Go.Ev
theorem vZR {n : Int} {k : Nat} (f : Rg → Bool) : ∀ (gs : List Rg) (last last' : Int) (seen seen' : List Pr2), aloneR n k last seen gs = true → last' ≤ last → (∀ x ∈ seen', x ∈ seen) → aloneR n k last' seen' (gs.filter f) = true
 | [], _, _, _, _, _, _, _ => by simp [aloneR]
 | g :: r, last, last', seen, seen', h, hl, hs => by
  by_cases hb : badG n k last g
  ·rw [vZJ hb] at h; cases h
  rw [kZg hb] at h
  have hb' : ¬ badG n k last' g := fun hx => hb (by
   unfold badG at hx ⊢
   rcases hx with hx | hx
   ·exact .inl (by omega)
   ·exact .inr hx)
  have hid : last' ≤ g.id := by
   unfold badG at hb'
   omega
  cases hf : f g
  ·rw [List.filter_cons_of_neg (by simp [hf])]
   split at h
   ·split at h
    ·cases h
    ·exact vZR f r _ _ _ _ h hid fun x hx => List.mem_append_left _ (hs x hx)
   ·exact vZR f r _ _ _ _ h hid hs
  ·rw [List.filter_cons_of_pos (by simp [hf]), kZg hb']
   split at h
   ·rename_i h0
    rw [if_pos h0]
    split at h
    ·cases h
    ·rename_i hn
     rw [if_neg fun hx => hn (hs _ hx)]
     exact vZR f r _ _ _ _ h (Int.le_refl _) fun x hx => by
      rcases List.mem_append.1 hx with hx | hx
      ·exact List.mem_append_left _ (hs x hx)
      ·exact List.mem_append_right _ hx
   ·rename_i h0
    rw [if_neg h0]
    exact vZR f r _ _ _ _ h (Int.le_refl _) hs
theorem wZQ (qs : List (List Rec)) (gs : List Rg) : ∀ i, ∃ f, dropN qs gs i = gs.filter f
 | 0 => ⟨fun _ => true, (List.filter_eq_self.2 fun _ _ => rfl).symm⟩
 | i + 1 => by
  obtain ⟨f, hf⟩ := wZQ qs gs i
  simp only [dropN]
  split
  ·exact ⟨f, hf⟩
  ·exact ⟨_, by rw [hf, List.filter_filter]⟩
theorem alone_ntf {w : Wch} (h : aloneB w = true) : aloneB (ntfA w) = true := by
 obtain ⟨f, hf⟩ := wZQ w.qs w.regs w.qs.length
 have hdl := wZR w.qs w.regs w.qs.length
 unfold aloneB at h ⊢
 split at h
 ·cases h
 rename_i hb
 split at h
 ·cases h
 have hb2 : ¬ badW (ntfA w) := by
  unfold badW at hb ⊢
  simp only [ntfA, List.length_replicate]
  omega
 rw [if_neg hb2]
 have ha2 : (ntfA w).qs.any (fun q => decide (4096 < q.length)) = false := by
  rw [List.any_eq_false]
  intro q hq
  simp only [ntfA] at hq
  rw [List.eq_of_mem_replicate hq]; simp
 rw [if_neg (by rw [ha2]; simp)]
 simp only [ntfA, List.length_replicate, hf]
 by_cases h0 : w.next = 0
 ·have hr : w.regs = [] := List.eq_nil_of_length_eq_zero (by unfold badW at hb; omega)
  rw [hr]; rfl
 ·have : max w.next 1 = w.next := by unfold badW at hb; omega
  rw [this]
  exact vZR f _ _ _ _ _ h (Int.le_refl _) fun _ h => h
theorem getD_rep (n i : Nat) : (List.replicate n ([] : List Rec)).getD i [] = [] := by
 rw [List.getD_eq_getElem?_getD, List.getElem?_replicate]
 split <;> rfl
theorem kZ0 (n : Nat) (gs : List Rg) : ∀ i, dropN (List.replicate n []) gs i = gs
 | 0 => rfl
 | i + 1 => by simp only [dropN, getD_rep, if_true]; exact kZ0 n gs i
theorem not_empty (n : Nat) : ∀ i, notN (List.replicate n []) i = []
 | 0 => rfl
 | i + 1 => by simp only [notN, getD_rep, if_true]; exact not_empty n i
theorem ntf_ntf (w : Wch) : ntfA (ntfA w) = ntfA w := by
 simp only [ntfA, List.length_replicate, kZ0]
 rw [show max (max w.next 1) 1 = max w.next 1 by omega]
theorem ntf_again {w : Wch} (h : aloneB w = true) : ntfR (ntfA w) = .tup [.agg (cW (ntfA w)), .arr [], .int .i64 0] := by
 have hn : notN (ntfA w).qs (ntfA w).qs.length = [] := not_empty _ _
 unfold ntfR
 rw [if_pos (alone_ntf h), ntf_ntf, hn]
 rfl
theorem not_mem {qs : List (List Rec)} {p : Int × List Rec} : ∀ {N : Nat}, p ∈ notN qs N → ∃ i, i < N ∧ p.1 = (i : Int) + 1 ∧ p.2 = qs.getD i [] ∧ p.2 ≠ []
 | 0, h => by cases h
 | N + 1, h => by
  simp only [notN] at h
  split at h
  ·obtain ⟨i, h1, h2⟩ := not_mem h
   exact ⟨i, by omega, h2⟩
  ·rename_i hne
   rcases List.mem_append.1 h with h | h
   ·obtain ⟨i, h1, h2⟩ := not_mem h
    exact ⟨i, by omega, h2⟩
   ·rw [List.mem_singleton.1 h]
    exact ⟨N, by omega, rfl, rfl, hne⟩
theorem not_rise (qs : List (List Rec)) : ∀ N, (notN qs N).Pairwise fun a b => a.1 < b.1
 | 0 => List.Pairwise.nil
 | N + 1 => by
  simp only [notN]
  split
  ·exact not_rise qs N
  ·rw [List.pairwise_append]
   refine ⟨not_rise qs N, List.pairwise_singleton _ _, fun a ha b hb => ?_⟩
   obtain ⟨i, h1, h2, _⟩ := not_mem ha
   rw [List.mem_singleton.1 hb, h2]
   show (i : Int) + 1 < (N : Int) + 1
   omega
theorem kZj {qs : List (List Rec)} {gs : List Rg} {i : Nat} (hq : qs.getD i [] ≠ []) : ∀ {N : Nat}, i < N → ∀ g ∈ dropN qs gs N, goes ((i : Int) + 1) g = false
 | N + 1, h, g, hg => by
  simp only [dropN] at hg
  by_cases e : i = N
  ·subst e
   rw [if_neg hq] at hg
   have := (List.mem_filter.1 hg).2
   simpa using this
  ·split at hg
   ·exact kZj hq (by omega) g hg
   ·exact kZj hq (by omega) g (List.mem_filter.1 hg).1
end Go.Proofs.Ob
