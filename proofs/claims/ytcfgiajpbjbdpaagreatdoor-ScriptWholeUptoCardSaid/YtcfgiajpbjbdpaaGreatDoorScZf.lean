/- Scripts read: the reader's programs. Scripts read: the reader's script, Parse. No conditions. -/
import Derived.Test.YtcfgiajpbjbdpaaGreatDoorScZd
import Derived.Test.YtcfgiajpbjbdpaaGreatDoorScQk
set_option maxHeartbeats 16000000
set_option maxRecDepth 100000
set_option linter.unusedVariables false
set_option linter.unusedSimpArgs false
set_option linter.unusedSectionVars false
namespace Go.Proofs.Sc
open Go Go.Ev
def programP (H : Heap) (p : Nat) (left : Bs) (k many : Nat) (r : V) (H' : Heap) : Prop := ∃ (left' : Bs) (k' many' : Nat) (w : Int) (o : Option Nat) (l : List Cmd), H'[p]? = some (.cells (rdC left' k' many' w)) ∧ Keep p H H' ∧ VL H' 12 r o (l.map cC) ∧ (∀ id, o = some id → H.length ≤ id) ∧
  ((w = 0 ∧ left'.length < left.length ∧ k' + left'.length ≤ k + left.length ∧ many' + left'.length ≤ many + left.length ∧ (lns left').2 = (lns left).2 ∧
    ∀ out : Scr, stp ((lns left).2 == []) (lns left).1 2 many k { out with progs := out.progs ++ [[]] } = stp ((lns left).2 == []) (lns left').1 1 many' k' { out with progs := out.progs ++ [l] }) ∨
   (w ≠ 0 ∧ ∀ out : Scr, stp ((lns left).2 == []) (lns left).1 2 many k { out with progs := out.progs ++ [[]] } = ({}, w, k')))
theorem addC_2 (c : Cmd) (out : Scr) (ps : List (List Cmd)) (l : List Cmd) : addC 2 c { out with progs := ps ++ [l] } = { out with progs := ps ++ [l ++ [c]] } := by simp [addC]
theorem stp_end {fin : Bool} {ls : List Bs} {many k : Nat} {out : Scr} : stp fin (wEnd :: ls) 2 many k out = stp fin ls 1 many (k + 1) out := by
 rw [stp, if_neg (by decide), if_neg (by decide), if_pos ⟨rfl, rfl⟩]
theorem zYbc (H : Heap) (p : Nat) (left : Bs) (k many : Nat) (hp : H[p]? = some (.cells (rdC left k many 0))) (hz : left.length ≤ 1048576) (hk : k + left.length ≤ 2 ^ 40) (hm : many + left.length ≤ 2 ^ 40) : ∃ r h', callW Φ (.fn (.func zZn.k) [] []) [.ptr p 0] H = some (r, h') ∧ (programP H p left k many) r h' := by
 obtain ⟨P, hP⟩ : ∃ P : V → Heap → Prop, P = programP H p left k many := ⟨_, rfl⟩
 suffices hgo : ∃ r h', callW Φ (.fn (.func zZn.k) [] []) [.ptr p 0] H = some (r, h') ∧ P r h' by rw [hP] at hgo; exact hgo
 have hPi : ∀ r h', (programP H p left k many) r h' → P r h' := fun r h' q => by rw [hP]; exact q
 clear hP
 refine kZY zZn.Φ rfl (Nat.le_of_ble_eq_true rfl) (fun env he h0 => ?_)
 have g0 := h0 0 (by simp)
 change eget env 0 = .ptr p 0 at g0
 clear h0
 simp [zZn.c] at he
 simp [zZn.c, zZn.r0, zZn.r1, g0, he]
 have hpl := (List.getElem?_eq_some_iff.1 hp).1
 obtain ⟨I, hI⟩ : ∃ I : Nat → St → Prop, I = fun n st => ∃ (li : Bs) (ki mi : Nat) (v : V) (o : Option Nat) (l : List Cmd), n = li.length ∧ (eget st.env 0 = .ptr p 0 ∧ eget st.env 3 = v ∧ st.env.length = 31) ∧ st.marks = [] ∧ st.heap[p]? = some (.cells (rdC li ki mi 0)) ∧ Keep p H st.heap ∧ VL st.heap 12 v o (l.map cC) ∧ (∀ id, o = some id → H.length ≤ id) ∧ l.length + li.length ≤ left.length ∧ ki + li.length ≤ k + left.length ∧ mi + li.length ≤ many + left.length ∧ (lns li).2 = (lns left).2 ∧
   ∀ out : Scr, stp ((lns left).2 == []) (lns left).1 2 many k { out with progs := out.progs ++ [[]] } = stp ((lns left).2 == []) (lns li).1 2 mi ki { out with progs := out.progs ++ [l] } := ⟨_, rfl⟩
 refine kLoop I left.length (by rw [hI]; exact ⟨left, k, many, .nils, none, [], rfl, ⟨by simp [g0], by simp [he], by simpa using he⟩, rfl, hp, .refl _ _, VL.nil _ _, fun _ h => (by cases h), by simp, by omega, by omega, rfl, fun out => by simp⟩) ?_
 rintro n ⟨env, mk, Hh⟩ hst
 rw [hI] at hst
 obtain ⟨li, ki, mi, v, o, l, rfl, ⟨k0, k3, hl⟩, hmk, hpi, hkp, hvl, hfr, hb1, hb2, hb3, hln, hstp⟩ := hst
 simp only at k0 k3 hl hmk hpi hkp hvl
 obtain rfl := hmk
 have c0 := vZ5 hpi
 simp only [zZn.b9]
 obtain ⟨r1, H1, hcall1, hr1⟩ := zYaW Hh p li ki mi 0 hpi (by omega) (by omega)
 have hop : o ≠ some p := hvl.ne hpi fun _ _ _ _ h => by cases h
 have e3 : ∀ l : Bs, beqS ⟨l.toArray⟩ ⟨#[101, 110, 100]⟩ = (l == [101, 110, 100]) := fun l => T_beq l [101, 110, 100]
 cases hct : cutLine li with
 | none =>
  unfold lineP at hr1
  rw [hct] at hr1
  obtain ⟨rfl, hH1⟩ := hr1
  have hf := hPi v H1 ⟨li, ki + 1, mi, 20, o, l, by rw [hH1]; exact zYaV hpi _, by rw [hH1]; exact hkp.trans (Keep.set _ _ _), hvl.keep (p := p) (by rw [hH1]; exact Keep.set _ _ _) hop, hfr, .inr ⟨by decide, fun out => by
   rw [hstp out, zYbb hct]
   simp [stp]⟩⟩
  simp [zZn.c, zZn.r2, zZn.r3, zZn.r4, evNilchk, evPick, k0, k3, hl, c0, hcall1, evExt, hf]
 | some q =>
  obtain ⟨s, rest⟩ := q
  unfold lineP at hr1
  rw [hct] at hr1
  obtain ⟨rfl, hH1⟩ := hr1
  have hlns := zYbj hct
  obtain ⟨hj, _⟩ := zYaX hct
  have hjl := congrArg List.length hj
  simp only [List.length_append, List.length_cons] at hjl
  have hp1 : H1[p]? = some (.cells (rdC rest (ki + 1) mi 0)) := by rw [hH1]; exact zYaV hpi _
  have hk1 : Keep p H H1 := by rw [hH1]; exact hkp.trans (Keep.set _ _ _)
  have hv1 : VL H1 12 v o (l.map cC) := hvl.keep (p := p) (by rw [hH1]; exact Keep.set _ _ _) hop
  by_cases hse : s = [101, 110, 100]
  ·have q3 : (s == [101, 110, 100]) = true := by simpa using hse
   have hf := hPi v H1 ⟨rest, ki + 1, mi, 0, o, l, hp1, hk1, hv1, hfr, .inl ⟨rfl, by omega, by omega, by omega, by rw [← hln, hlns], fun out => by
    rw [hstp out, hlns, hse, stp_end]⟩⟩
   simp [zZn.c, zZn.r2, zZn.r3, zZn.r4, evNilchk, evPick, k0, k3, hl, c0, hcall1, evExt, e3, q3, hf]
  have q3 : (s == [101, 110, 100]) = false := by simpa using hse
  obtain ⟨r2, H2, hcall2, rfl, hp2, hk2⟩ := zYaY H1 p rest s (ki + 1) mi hp1 (by omega) (by omega)
  have hv2 := hv1.keep hk2 hop
  have hk2' := hk1.trans hk2
  have hp2l := (List.getElem?_eq_some_iff.1 hp2).1
  by_cases hw : whyC s mi = 0
  ·have qw : (whyC s mi == 0) = true := by simpa using hw
   rw [qw] at hcall2
   have st := st12 H2 (cmdA s)
   have cl := cl12 H2 (cmdA s) 0
   obtain ⟨H3, hH3⟩ : ∃ H3, H3 = H2 ++ [.cells (cC (cmdA s))] := ⟨_, rfl⟩
   rw [← hH3] at st cl
   have hv3 : VL H3 12 v o (l.map cC) := by rw [hH3]; exact hv2.push _
   have bs := bsC H3 (cmdA s)
   obtain ⟨v4, o4, H4, ha, hv4, hl4, hr4, hn4⟩ := hv3.addC (cmdA s) (by omega)
   have hl3 : H3.length = H2.length + 1 := by rw [hH3]; simp
   have hk3 : Keep p H H3 := by rw [hH3]; exact hk2'.trans (Keep.push p _ _)
   have hp3 : H3[p]? = some (.cells (rdC rest (ki + 1) (mi + 1) 0)) := by rw [hH3, List.getElem?_append_left hp2l, hp2, hw]
   have hp4 : H4[p]? = some (.cells (rdC rest (ki + 1) (mi + 1) 0)) := by rw [hr4 p (by omega) hop, hp3]
   have hk4 : Keep p H H4 := ⟨Nat.le_trans hk3.1 hl4, fun j hj hjp => by
    rw [hr4 j (by have := hk3.1; omega) (fun e => by have := hfr j e; omega)]
    exact hk3.2 j hj hjp⟩
   simp [zZn.r2, zZn.r3, zZn.r5, zZn.r6, zZn.r8, evNilchk, evPick, V.isCell, k0, k3, hl, c0, hcall1, hcall2, evExt, e3, q3, st, cl, ok12, bs, ha]
   refine ⟨rest.length, by omega, ?_⟩
   rw [hI]
   refine ⟨rest, ki + 1, mi + 1, v4, o4, l ++ [cmdA s], rfl, ⟨by simp [k0], by simp [hl], by simp [hl]⟩, rfl, hp4, hk4, hv4, fun id hid => ?_, by simp; omega, by omega, by omega, ?_, fun out => ?_⟩
   ·rcases hn4 id hid with h | h
    ·exact hfr id h
    ·have := hk3.1; omega
   ·rw [← hln, hlns]
   ·rw [hstp out, hlns, stp_cmd (.inr ⟨rfl, hse⟩), if_pos hw, addC_2]
  ·have qw : (whyC s mi == 0) = false := by simpa using hw
   rw [qw] at hcall2
   have st := st12 H2 (cmdA s)
   have hf := hPi .nils (H2 ++ [.cells (cC (cmdA s))]) ⟨rest, ki + 1, mi + 1, whyC s mi, none, [], by rw [List.getElem?_append_left hp2l]; exact hp2, hk2'.trans (Keep.push p _ _), VL.nil _ _, fun _ h => (by cases h), .inr ⟨hw, fun out => by
    rw [hstp out, hlns, stp_cmd (.inr ⟨rfl, hse⟩), if_neg hw]⟩⟩
   simp [zZn.c, zZn.r2, zZn.r3, zZn.r5, zZn.r6, zZn.r7, evNilchk, evPick, V.isCell, k0, k3, hl, c0, hcall1, hcall2, evExt, e3, q3, st, hf]
open Go Go.Ev
theorem Subs.ne {H : Heap} {a : Nat} {ob : Ob} (ha : H[a]? = some ob) (hn : ∀ z xs ep w, ob ≠ .row z xs ep w) : ∀ {es : List V} {os : List (Option Nat)} {ps : List (List Cmd)}, Subs H es os ps → some a ∉ os
 | [], [], [], _ => by simp
 | _ :: _, _ :: _, _ :: _, ⟨h1, _, h3⟩ => by
  simp only [List.mem_cons, not_or]
  exact ⟨fun e => h1.ne ha hn e.symm, h3.ne ha hn⟩
 | [], [], _ :: _, h => h.elim
 | [], _ :: _, _, h => h.elim
 | _ :: _, [], _, h => h.elim
 | _ :: _, _ :: _, [], h => h.elim
theorem VP.ne {H : Heap} {v : V} {o : Option Nat} {os : List (Option Nat)} {ps : List (List Cmd)} (h : VP H v o os ps) {a : Nat} {cs : List V} (ha : H[a]? = some (.cells cs)) : o ≠ some a ∧ some a ∉ os := by
 have hn : ∀ z xs ep w, Ob.cells cs ≠ .row z xs ep w := fun _ _ _ _ h => by cases h
 rcases h with ⟨rfl, rfl, rfl, rfl⟩ | ⟨id, ep, es, rfl, rfl, hr, hs, hx⟩
 ·exact ⟨by simp, by simp⟩
 ·refine ⟨fun e => ?_, hs.ne ha hn⟩
  cases e
  rw [ha] at hr
  cases hr
theorem VP.keep {H H' : Heap} {p : Nat} {v : V} {o : Option Nat} {os : List (Option Nat)} {ps : List (List Cmd)} (h : VP H v o os ps) (hk : Keep p H H') {cs : List V} (hp : H[p]? = some (.cells cs)) : VP H' v o os ps := by
 obtain ⟨n1, n2⟩ := h.ne hp
 refine h.mono fun id hid => ?_
 rcases hid with hid | hid
 ·exact hk.2 id (h.lt.1 id hid) fun e => n1 (by rw [hid, e])
 ·exact hk.2 id (h.lt.2 id hid) fun e => n2 (by rw [← e]; exact hid)
theorem Keep.at {p : Nat} {H H' : Heap} (h : Keep p H H') {j : Nat} {ob : Ob} (hj : H[j]? = some ob) (hp : j ≠ p) : H'[j]? = some ob := by rw [h.2 j (List.getElem?_eq_some_iff.1 hj).1 hp, hj]
theorem st3 {H : Heap} {q : Nat} {a b c : V} (h : H[q]? = some (.cells [a, b, c])) {v0 v1 : V} (f : Int) (h0 : v0.isCell = true) (h1 : v1.isCell = true) : evStoreV H 3 (.ptr q 0) (.agg [v0, v1, .int .i64 f]) = some (V.non, H.set q (.cells [v0, v1, .int .i64 f])) := by
 have hcc : (V.agg [v0, v1, .int .i64 f]).cells = [v0, v1, .int .i64 f] := rfl
 have hall : ([v0, v1, .int .i64 f] : List V).all V.isCell = true := by simp only [List.all_cons, List.all_nil, h0, h1]; rfl
 unfold evStoreV
 rw [hcc, hall]
 simp [evStore, h, setRange]
def scriptP (H : Heap) (p : Nat) (left : Bs) (r : V) (H' : Heap) : Prop := ∃ (left' : Bs) (k' many' : Nat) (w : Int) (v0 v1 : V) (f : Int), r = .agg [v0, v1, .int .i64 f] ∧ v0.isCell = true ∧ v1.isCell = true ∧ H'[p]? = some (.cells (rdC left' k' many' w)) ∧ Keep p H H' ∧
  ((w = 0 ∧ ∃ (sc : Scr) (o0 o1 : Option Nat) (os : List (Option Nat)), stp ((lns left).2 == []) (lns left).1 0 0 0 {} = (sc, 0, 0) ∧ f = sc.fuel ∧ VL H' 12 v0 o0 (sc.cmds.map cC) ∧ VP H' v1 o1 os sc.progs ∧ ∀ id, o0 = some id → o1 ≠ some id ∧ some id ∉ os) ∨
   (w ≠ 0 ∧ stp ((lns left).2 == []) (lns left).1 0 0 0 {} = ({}, w, k')))
abbrev z3 : List V := [.nils, .nils, .int .i64 0]
theorem fuelR_is {l : Bs} : fuelR l = if pre l wFuel then (if (number (l.drop 5)).isSome ∧ n2 (number (l.drop 5)) = [] then some (n1 (number (l.drop 5))) else none) else none := by
 unfold fuelR pre
 have e : (l.take wFuel.length == wFuel) = true ↔ l.take 5 = wFuel := by simp
 by_cases h : l.take 5 = wFuel
 ·rw [if_pos h, if_pos (e.2 h)]
  cases hn : number (l.drop 5) with
  | none => simp
  | some q =>
   obtain ⟨n, r⟩ := q
   cases r with
   | nil => simp [n1, n2]
   | cons b r => simp [n1, n2]
 ·rw [if_neg h, if_neg fun h2 => h (e.1 h2)]
theorem bsP (H : Heap) (v : V) (h : v.isCell = true ∧ v.cells = [v]) : evBslice H [.nils] 1 1 [(0, v)] = some (.sl H.length 0 0 1, H ++ [.row 1 [[v]] 0 true]) := bs1 H .nils v h
theorem zYbe (H : Heap) (p : Nat) (left : Bs) (hp : H[p]? = some (.cells (rdC left 0 0 0))) (hz : left.length ≤ 1048576) : ∃ r h', callW Φ (.fn (.func zZc.k) [] []) [.ptr p 0] H = some (r, h') ∧ (scriptP H p left) r h' := by
 obtain ⟨P, hP⟩ : ∃ P : V → Heap → Prop, P = scriptP H p left := ⟨_, rfl⟩
 suffices hgo : ∃ r h', callW Φ (.fn (.func zZc.k) [] []) [.ptr p 0] H = some (r, h') ∧ P r h' by rw [hP] at hgo; exact hgo
 have hPi : ∀ r h', (scriptP H p left) r h' → P r h' := fun r h' q => by rw [hP]; exact q
 clear hP
 refine kZY zZc.Φ rfl (Nat.le_of_ble_eq_true rfl) (fun env he h0 => ?_)
 have g0 := h0 0 (by simp)
 change eget env 0 = .ptr p 0 at g0
 clear h0
 simp [zZc.c] at he
 have hpl := (List.getElem?_eq_some_iff.1 hp).1
 obtain ⟨q, hq⟩ : ∃ q, q = H.length := ⟨_, rfl⟩
 obtain ⟨H0, hH0⟩ : ∃ H0, H0 = H ++ [.cells z3, .cells z3] := ⟨_, rfl⟩
 have hal : H ++ [.cells z3] ++ [.cells z3] = H0 := by rw [hH0]; simp
 have hl1 : (H ++ [Ob.cells z3]).length = q + 1 := by rw [hq]; simp
 have hk0 : Keep p H H0 := by rw [hH0]; exact Keep.push p _ _
 have hp0 : H0[p]? = some (.cells (rdC left 0 0 0)) := by rw [hH0, List.getElem?_append_left hpl]; exact hp
 have hq0 : H0[q]? = some (.cells z3) := by rw [hH0, hq]; simp
 have hr0 : H0[q + 1]? = some (.cells z3) := by rw [hH0, hq]; simp
 have hpq : q ≠ p := by omega
 have hpr : q + 1 ≠ p := by omega
 obtain ⟨F, hF⟩ : ∃ F, F = ((lns left).2 == []) := ⟨_, rfl⟩
 obtain ⟨S0, hS0⟩ : ∃ S0, S0 = stp F (lns left).1 0 0 0 {} := ⟨_, rfl⟩
 have hPi' : ∀ r h', scriptP H p left r h' → P r h' := hPi
 unfold scriptP at hPi'
 rw [← hF, ← hS0] at hPi'
 obtain ⟨I, hI⟩ : ∃ I : Nat → St → Prop, I = fun n st => ∃ (li : Bs) (ki mi : Nat) (w : Int) (v1 : V) (f : Int) (o1 : Option Nat) (os : List (Option Nat)) (ps : List (List Cmd)), n = (if w = 0 then li.length + 1 else 0) ∧ (eget st.env 0 = .ptr p 0 ∧ eget st.env 2 = .ptr q 0 ∧ eget st.env 3 = .ptr (q + 1) 0 ∧ st.env.length = 87) ∧ st.marks = [] ∧ st.heap[p]? = some (.cells (rdC li ki mi w)) ∧ Keep p H st.heap ∧ st.heap[q]? = some (.cells z3) ∧ st.heap[q + 1]? = some (.cells [.nils, v1, .int .i64 f]) ∧ VP st.heap v1 o1 os ps ∧ (∀ id, o1 = some id → H.length ≤ id) ∧ (∀ id, some id ∈ os → H.length ≤ id) ∧
   ((w = 0 ∧ li.length ≤ left.length ∧ ki + li.length ≤ left.length ∧ mi + li.length ≤ left.length ∧ ps.length ≤ 256 ∧ (lns li).2 = (lns left).2 ∧ S0 = stp F (lns li).1 1 mi ki { progs := ps, fuel := f }) ∨ (w ≠ 0 ∧ S0 = ({}, w, ki))) := ⟨_, rfl⟩
 have key : ∀ n st, I n st → WK (callW Φ) none (FinX [.cell 2 (some 3)] P) [It.c (.loop zZc.b20), It.b 0, It.c (xS zZc.r21 .ret)] st := by
  intro n st hst
  refine kLoop I n hst ?_
  clear hst n st
  rintro n ⟨env, mk, Hh⟩ hst
  rw [hI] at hst
  obtain ⟨li, ki, mi, w, v1, f, o1, os, ps, rfl, ⟨k0, k2, k3, hl⟩, hmk, hpi, hkp, hqi, hri, hvp, hf1, hf2, hcase⟩ := hst
  simp only at k0 k2 k3 hl hmk hpi hkp hqi hri hvp
  obtain rfl := hmk
  have c0 := vZ5 hpi
  have cr := vZ5 hri
  have hvc := hvp.cell
  have hrq : q + 1 ≠ q := by omega
  have fin : ∀ (H5 : Heap) (v0 : V), v0.isCell = true → H5[q]? = some (.cells z3) → evStoreV H5 3 (.ptr q 0) (.agg [v0, v1, .int .i64 f]) = some (V.non, H5.set q (.cells [v0, v1, .int .i64 f])) ∧ cellsAt (H5.set q (.cells [v0, v1, .int .i64 f])) (.ptr q 0) = some [v0, v1, .int .i64 f] := fun H5 v0 hv0 hq5 =>
   ⟨st3 hq5 f hv0 hvc.1, vZ5 (zYaV hq5 _) 0⟩
  simp only [zZc.b20]
  rcases hcase with ⟨rfl, b1, b2, b3, b4, hln, hs⟩ | ⟨hw, hs⟩
  case inr =>
   have hne : (w == 0) = false := by simpa using hw
   obtain ⟨s1, s2⟩ := fin Hh .nils rfl hqi
   have hf := hPi' (.agg [.nils, v1, .int .i64 f]) (Hh.set q (.cells [.nils, v1, .int .i64 f])) ⟨li, ki, mi, w, .nils, v1, f, rfl, rfl, hvc.1, by rw [List.getElem?_set_ne hpq]; exact hpi, ⟨by rw [List.length_set]; exact hkp.1, fun j hj hjp => by rw [List.getElem?_set_ne (by omega)]; exact hkp.2 j hj hjp⟩, .inr ⟨hw, hs⟩⟩
   simp [zZc.r8, zZc.r21, evNilchk, k0, k2, k3, hl, c0, cr, hne, s1, s2, ofCells, hf]
  obtain ⟨r1, H1, hcall1, hr1⟩ := zYaW Hh p li ki mi 0 hpi (by omega) (by omega)
  cases hct : cutLine li with
  | none =>
   unfold lineP at hr1
   rw [hct] at hr1
   obtain ⟨rfl, hH1⟩ := hr1
   have kp1 : Keep p Hh H1 := by rw [hH1]; exact Keep.set _ _ _
   have hq1 := kp1.at hqi hpq
   have cr1 := vZ5 (kp1.at hri hpr)
   have hp1 : H1[p]? = some (.cells (rdC li (ki + 1) mi 20)) := by rw [hH1]; exact zYaV hpi _
   obtain ⟨s1, s2⟩ := fin H1 .nils rfl hq1
   have hkk := hkp.trans kp1
   have hf := hPi' (.agg [.nils, v1, .int .i64 f]) (H1.set q (.cells [.nils, v1, .int .i64 f])) ⟨li, ki + 1, mi, 20, .nils, v1, f, rfl, rfl, hvc.1, by rw [List.getElem?_set_ne hpq]; exact hp1, ⟨by rw [List.length_set]; exact hkk.1, fun j hj hjp => by rw [List.getElem?_set_ne (by omega)]; exact hkk.2 j hj hjp⟩, .inr ⟨by decide, by rw [hs, zYbb hct]; rfl⟩⟩
   simp [zZc.c, zZc.r8, zZc.r9, zZc.r10, zZc.r11, evNilchk, k0, k2, k3, hl, c0, hcall1, evExt, cr1, s1, s2, ofCells, hf]
  | some qq =>
   obtain ⟨s, rest⟩ := qq
   unfold lineP at hr1
   rw [hct] at hr1
   obtain ⟨rfl, hH1⟩ := hr1
   have hlns := zYbj hct
   obtain ⟨hj, _⟩ := zYaX hct
   have hjl := congrArg List.length hj
   simp only [List.length_append, List.length_cons] at hjl
   have kp1 : Keep p Hh H1 := by rw [hH1]; exact Keep.set _ _ _
   have hq1 := kp1.at hqi hpq
   have hr1 := kp1.at hri hpr
   have cr1 := vZ5 hr1
   have hp1 : H1[p]? = some (.cells (rdC rest (ki + 1) mi 0)) := by rw [hH1]; exact zYaV hpi _
   have hv1 : VP H1 v1 o1 os ps := hvp.keep kp1 hpi
   have hkk := hkp.trans kp1
   have c1 := vZ5 hp1
   have e4 : ∀ l : Bs, beqS ⟨l.toArray⟩ ⟨#[109, 97, 105, 110]⟩ = (l == [109, 97, 105, 110]) := fun l => T_beq l [109, 97, 105, 110]
   have e7 : ∀ l : Bs, beqS ⟨l.toArray⟩ ⟨#[112, 114, 111, 103, 114, 97, 109]⟩ = (l == [112, 114, 111, 103, 114, 97, 109]) := fun l => T_beq l [112, 114, 111, 103, 114, 97, 109]
   have hs1 : S0 = if s = wMain then stp F (lns rest).1 3 mi (ki + 1) { progs := ps, fuel := f } else if s = wProgram then (if ps.length ≥ 256 then ({}, 3, ki + 1) else stp F (lns rest).1 2 mi (ki + 1) { progs := ps ++ [[]], fuel := f }) else ({}, 20, ki + 1) := by
    rw [hs, hlns, stp, if_neg (by decide), if_pos rfl]
   by_cases hmain : s = [109, 97, 105, 110]
   ·have q4 : (s == [109, 97, 105, 110]) = true := by simpa using hmain
    rw [if_pos hmain] at hs1
    obtain ⟨r2, H2, hcall2, left', k', many', w, o, l, hp2, kp2, hv2, hfr2, hres⟩ := zYbk H1 p rest (ki + 1) mi hp1 (by omega) (by omega) (by omega)
    have hq2 := kp2.at hq1 hpq
    have hr2 := kp2.at hr1 hpr
    have hvp2 : VP H2 v1 o1 os ps := hv1.keep kp2 hp1
    have s3 := vZo (off := 0) hr2 (by simp) hv2.cell
    simp only [List.set_cons_zero] at s3
    obtain ⟨H3, hH3⟩ : ∃ H3, H3 = H2.set (q + 1) (.cells [r2, v1, .int .i64 f]) := ⟨_, rfl⟩
    rw [← hH3] at s3
    have hq3 : H3[q]? = some (.cells z3) := by rw [hH3, List.getElem?_set_ne hrq]; exact hq2
    have hr3 : H3[q + 1]? = some (.cells [r2, v1, .int .i64 f]) := by rw [hH3]; exact zYaV hr2 _
    have cr3 := vZ5 hr3
    obtain ⟨s4, s5⟩ := fin H3 r2 hv2.cell.1 hq3
    have hne1 := hv2.ne hr2 fun _ _ _ _ h => by cases h
    have hne0 := hv2.ne hq2 fun _ _ _ _ h => by cases h
    obtain ⟨m1, m2⟩ := hvp2.ne hr2
    obtain ⟨m3, m4⟩ := hvp2.ne hq2
    have same : ∀ id, id ≠ q → id ≠ q + 1 → (H3.set q (.cells [r2, v1, .int .i64 f]))[id]? = H2[id]? := fun id h1 h2 => by rw [List.getElem?_set_ne (Ne.symm h1), hH3, List.getElem?_set_ne (Ne.symm h2)]
    have hf := hPi' (.agg [r2, v1, .int .i64 f]) (H3.set q (.cells [r2, v1, .int .i64 f])) ⟨left', k', many', w, r2, v1, f, rfl, hv2.cell.1, hvc.1, by rw [same p hpq.symm hpr.symm]; exact hp2, ⟨by rw [List.length_set, hH3, List.length_set]; exact (hkk.trans kp2).1, fun j hj hjp => by rw [same j (by omega) (by omega)]; exact (hkk.trans kp2).2 j hj hjp⟩, by
     rcases hres with ⟨rfl, hres⟩ | ⟨hw, hres⟩
     ·refine .inl ⟨rfl, { cmds := l, progs := ps, fuel := f }, o, o1, os, ?_, rfl, hv2.mono fun id hid => same id (fun e => hne0 (by rw [hid, e])) (fun e => hne1 (by rw [hid, e])), hvp2.mono fun id hid => same id (fun e => ?_) (fun e => ?_), fun id hid => ?_⟩
      ·rw [hs1, hF, ← hln, hlns, hres]; simp
      ·subst e
       rcases hid with hid | hid
       ·exact m3 hid
       ·exact m4 hid
      ·subst e
       rcases hid with hid | hid
       ·exact m1 hid
       ·exact m2 hid
      ·have h1 := hfr2 id hid
       exact ⟨fun e => by have := hv1.lt.1 id e; omega, fun e => by have := hv1.lt.2 id e; omega⟩
     ·refine .inr ⟨hw, ?_⟩
      rw [hs1, hF, ← hln, hlns, hres]⟩
    simp [zZc.c, zZc.r8, zZc.r9, zZc.r10, zZc.r12, zZc.r13, zZc.r14, evNilchk, k0, k2, k3, hl, c0, hcall1, evExt, e4, q4, hcall2, s3, cr3, s4, s5, ofCells, hf]
   have q4 : (s == [109, 97, 105, 110]) = false := by simpa using hmain
   rw [if_neg hmain] at hs1
   by_cases hprog : s = [112, 114, 111, 103, 114, 97, 109]
   case neg =>
    have q7 : (s == [112, 114, 111, 103, 114, 97, 109]) = false := by simpa using hprog
    rw [if_neg hprog] at hs1
    have s3 := vZo (off := 3) (x := .int .i64 20) hp1 (by simp) ⟨rfl, rfl⟩
    simp only [List.set_cons_succ, List.set_cons_zero] at s3
    simp [zZc.r8, zZc.r9, zZc.r10, zZc.r12, zZc.r15, zZc.r16, evNilchk, k0, k2, k3, hl, c0, hcall1, evExt, e4, q4, e7, q7, s3]
    refine ⟨0, by omega, ?_⟩
    rw [hI]
    have kp3 : Keep p H1 (H1.set p (.cells (rdC rest (ki + 1) mi 20))) := Keep.set _ _ _
    exact ⟨rest, ki + 1, mi, 20, v1, f, o1, os, ps, rfl, ⟨by simp [k0], by simp [k2], by simp [k3], by simp [hl]⟩, rfl, zYaV hp1 _, hkk.trans kp3, kp3.at hq1 hpq, kp3.at hr1 hpr, hv1.keep kp3 hp1, hf1, hf2, .inr ⟨by decide, hs1⟩⟩
   have q7 : (s == [112, 114, 111, 103, 114, 97, 109]) = true := by simpa using hprog
   rw [if_pos hprog] at hs1
   have ln1 := hv1.len H1
   by_cases h256 : ps.length ≥ 256
   ·have q8 : (((ps.length : Nat) : Int) == 256) = true := by simp; omega
    rw [if_pos h256] at hs1
    have s3 := vZo (off := 3) (x := .int .i64 3) hp1 (by simp) ⟨rfl, rfl⟩
    simp only [List.set_cons_succ, List.set_cons_zero] at s3
    simp [zZc.r8, zZc.r9, zZc.r10, zZc.r12, zZc.r15, zZc.r17, zZc.r18, evNilchk, k0, k2, k3, hl, c0, hcall1, evExt, e4, q4, e7, q7, cr1, ln1, q8, s3]
    refine ⟨0, by omega, ?_⟩
    rw [hI]
    have kp3 : Keep p H1 (H1.set p (.cells (rdC rest (ki + 1) mi 3))) := Keep.set _ _ _
    exact ⟨rest, ki + 1, mi, 3, v1, f, o1, os, ps, rfl, ⟨by simp [k0], by simp [k2], by simp [k3], by simp [hl]⟩, rfl, zYaV hp1 _, hkk.trans kp3, kp3.at hq1 hpq, kp3.at hr1 hpr, hv1.keep kp3 hp1, hf1, hf2, .inr ⟨by decide, hs1⟩⟩
   have q8 : (((ps.length : Nat) : Int) == 256) = false := by simp; omega
   rw [if_neg h256] at hs1
   obtain ⟨r2, H2, hcall2, left', k', many', w, o, l, hp2, kp2, hv2, hfr2, hres⟩ := zYbc H1 p rest (ki + 1) mi hp1 (by omega) (by omega) (by omega)
   have hq2 := kp2.at hq1 hpq
   have hr2 := kp2.at hr1 hpr
   have hvp2 : VP H2 v1 o1 os ps := hv1.keep kp2 hp1
   have bs := bsP H2 r2 hv2.cell
   obtain ⟨v3, o3, H3, ha, hvp3, hl3, hr3, hn3⟩ := hvp2.add hv2 (fun o' ho' id hid e => by
     subst hid
     have := hfr2 id e
     have := hv1.lt.2 id ho'
     omega) (fun id hid e => by
     have := hfr2 id e
     have := hv1.lt.1 id hid
     omega) (by omega)
   have hne3 : ∀ {j : Nat} {cs : List V}, H2[j]? = some (.cells cs) → H3[j]? = some (.cells cs) := fun {j cs} hj => by rw [hr3 j (List.getElem?_eq_some_iff.1 hj).1 (hvp2.ne hj).1, hj]
   have hp3 := hne3 hp2
   have hq3 := hne3 hq2
   have hr3' := hne3 hr2
   have s4 := vZo (off := 1) hr3' (by simp) hvp3.cell
   simp only [List.set_cons_succ, List.set_cons_zero] at s4
   obtain ⟨m1, m2⟩ := hvp3.ne hr3'
   have hkk2 := hkk.trans kp2
   have cr2 := vZ5 hr2
   have kp3 : Keep p H (H3.set (q + 1) (.cells [.nils, v3, .int .i64 f])) := ⟨by rw [List.length_set]; have := hkk2.1; omega, fun j hj hjp => by
    rw [List.getElem?_set_ne (by omega), hr3 j (by have := hkk2.1; omega) (fun e => by have := hf1 j e; omega)]
    exact hkk2.2 j hj hjp⟩
   have hnew : ∃ j, j < li.length + 1 ∧ ∀ env : List V, eget env 0 = .ptr p 0 → eget env 2 = .ptr q 0 → eget env 3 = .ptr (q + 1) 0 → env.length = 87 → I j { env := env, marks := [], heap := H3.set (q + 1) (.cells [.nils, v3, .int .i64 f]) } := by
    have hp4 : (H3.set (q + 1) (.cells [.nils, v3, .int .i64 f]))[p]? = some (.cells (rdC left' k' many' w)) := by rw [List.getElem?_set_ne hpr]; exact hp3
    have hq4 : (H3.set (q + 1) (.cells [.nils, v3, .int .i64 f]))[q]? = some (.cells z3) := by rw [List.getElem?_set_ne hrq]; exact hq3
    have hv4 : VP (H3.set (q + 1) (.cells [.nils, v3, .int .i64 f])) v3 o3 (os ++ [o]) (ps ++ [l]) := hvp3.mono fun id hid => by
     rw [List.getElem?_set_ne]
     rintro rfl
     rcases hid with hid | hid
     ·exact m1 hid
     ·exact m2 hid
    have hf3 : ∀ id, o3 = some id → H.length ≤ id := fun id hid => by
     rcases hn3 id hid with h | h
     ·exact hf1 id h
     ·have := hkk2.1; omega
    have hf4 : ∀ id, some id ∈ os ++ [o] → H.length ≤ id := fun id hid => by
     rcases List.mem_append.1 hid with h | h
     ·exact hf2 id h
     ·have := hfr2 id (List.mem_singleton.1 h).symm; have := hkk.1; omega
    rcases hres with ⟨rfl, g1, g2, g3, g4, g5⟩ | ⟨hw, g5⟩
    ·refine ⟨left'.length + 1, by omega, fun env k0 k2 k3 hl => ?_⟩
     rw [hI]
     exact ⟨left', k', many', 0, v3, f, o3, os ++ [o], ps ++ [l], rfl, ⟨k0, k2, k3, hl⟩, rfl, hp4, kp3, hq4, zYaV hr3' _, hv4, hf3, hf4, .inl ⟨rfl, by omega, by omega, by omega, by simp; omega, by rw [g4, ← hln, hlns], by
      have := g5 { progs := ps, fuel := f }
      rw [hs1, hF, ← hln, hlns]
      exact this⟩⟩
    ·refine ⟨0, by omega, fun env k0 k2 k3 hl => ?_⟩
     rw [hI]
     exact ⟨left', k', many', w, v3, f, o3, os ++ [o], ps ++ [l], by rw [if_neg hw], ⟨k0, k2, k3, hl⟩, rfl, hp4, kp3, hq4, zYaV hr3' _, hv4, hf3, hf4, .inr ⟨hw, by
      have := g5 { progs := ps, fuel := f }
      rw [hs1, hF, ← hln, hlns]
      exact this⟩⟩
   obtain ⟨jn, hjn, hnew⟩ := hnew
   simp [zZc.r8, zZc.r9, zZc.r10, zZc.r12, zZc.r15, zZc.r17, evNilchk, k0, k2, k3, hl, c0, hcall1, evExt, e4, q4, e7, q7, cr1, ln1, q8]
   refine kDrawW zZc.r19.ord ?_
   simp [zZc.r19, List.filterMap_cons, k0, k3, hl, cr1, hcall2, cr2, bs, ha, s4]
   refine ⟨?_, jn, hjn, ?_⟩
   ·simp only [xZ7, xZ2, List.cons_append, List.nil_append]
    exact xZ6 _ rfl rfl rfl rfl
   ·exact hnew _ (by simp [k0]) (by simp [k2]) (by simp [k3]) (by simp [hl])
 obtain ⟨r1, H1, hcall1, hr1⟩ := zYaW H0 p left 0 0 0 hp0 (by omega) (by omega)
 have b1 : evBuild H0 z3 [] = some (.agg z3, H0) := rfl
 have e5 : ∀ s H, callW Φ qZh [T s, .str ⟨#[102, 117, 101, 108, 32]⟩] H = some (cutP s wFuel, H) := fun s H => xZs s wFuel H
 have e0 : ∀ l : Bs, beqS ⟨l.toArray⟩ ⟨#[]⟩ = (l == []) := fun l => T_beq l []
 unfold cutP at e5
 have bad : ∀ (H1 : Heap) (li : Bs) (ki : Nat) (w n : Int) (env : List V), H1[p]? = some (.cells (rdC li ki 0 w)) → Keep p H0 H1 → S0 = ({}, 20, ki) → env.length = 87 → eget env 0 = .ptr p 0 → eget env 2 = .ptr q 0 → eget env 3 = .ptr (q + 1) 0 → eget env 8 = .int .i64 n →
   WK (callW Φ) none (FinX [.cell 2 (some 3)] P) [It.o zZc.r6, It.c (xS zZc.r7 (.seq (.block 0 (.loop zZc.b20)) (xS zZc.r21 .ret)))] { env := env, marks := [], heap := H1 } := by
  intro H1 li ki w n env hp1 kp1 hs hl k0 k2 k3 k8
  have s1 := vZo (off := 3) (x := .int .i64 20) hp1 (by simp) ⟨rfl, rfl⟩
  simp only [List.set_cons_succ, List.set_cons_zero] at s1
  obtain ⟨H2, hH2⟩ : ∃ H2, H2 = H1.set p (.cells (rdC li ki 0 20)) := ⟨_, rfl⟩
  have kp2 : Keep p H0 H2 := by rw [hH2]; exact kp1.trans (Keep.set _ _ _)
  have hp2 : H2[p]? = some (.cells (rdC li ki 0 20)) := by rw [hH2]; exact zYaV hp1 _
  rw [← hH2] at s1
  have hq2 := kp2.at hq0 hpq
  have hr2 := kp2.at hr0 hpr
  have s2 := vZo (off := 2) (x := .int .i64 n) hr2 (by simp) ⟨rfl, rfl⟩
  simp only [List.set_cons_succ, List.set_cons_zero] at s2
  simp [zZc.r6, zZc.r7, evNilchk, k0, k2, k3, k8, hl, s1, s2]
  refine key 0 _ ?_
  rw [hI]
  exact ⟨li, ki, 0, 20, .nils, n, none, [], [], rfl, ⟨by simp [k0], by simp [k2], by simp [k3], by simp [hl]⟩, rfl, by rw [List.getElem?_set_ne hpr]; exact hp2, ⟨by rw [List.length_set]; exact (hk0.trans kp2).1, fun j hj hjp => by rw [List.getElem?_set_ne (by omega)]; exact (hk0.trans kp2).2 j hj hjp⟩, by rw [List.getElem?_set_ne (by omega)]; exact hq2, zYaV hr2 _, VP.nil _, fun _ h => (by cases h), fun _ h => (by cases h), .inr ⟨by decide, hs⟩⟩
 cases hct : cutLine left with
 | none =>
  unfold lineP at hr1
  rw [hct] at hr1
  obtain ⟨rfl, hH1⟩ := hr1
  have hs : S0 = ({}, 20, 1) := by rw [hS0, zYbb hct]; rfl
  have hp1 : H1[p]? = some (.cells (rdC left 1 0 20)) := by rw [hH1]; exact zYaV hp0 _
  have hcp := e5 []
  have hpr0 : pre [] wFuel = false := rfl
  rw [hpr0] at hcp
  have hcp' : ∀ H, callW Φ qZh [.str ⟨#[]⟩, .str ⟨#[102, 117, 101, 108, 32]⟩] H = some (.tup [T [], .bool false], H) := hcp
  have hnum := xZy [] (by simp)
  have hnum' : ∀ H, callW Φ zZO [.str ⟨#[]⟩] H = _ := hnum
  simp [zZc.c, zZc.r0, zZc.r1, zZc.r2, zZc.r3, zZc.r4, zZc.r5, V.isCell, g0, he, ← hq, hl1, hal, b1, hcall1, evExt, hcp', hnum', evPick]
  exact bad H1 left 1 20 _ _ hp1 (by rw [hH1]; exact Keep.set _ _ _) hs (by simp [he]) (by simp [g0]) (by simp [he]) (by simp [he]) (by simp [he]; rfl)
 | some qq =>
  obtain ⟨s, rest⟩ := qq
  unfold lineP at hr1
  rw [hct] at hr1
  obtain ⟨rfl, hH1⟩ := hr1
  have hlns := zYbj hct
  obtain ⟨hj, _⟩ := zYaX hct
  have hjl := congrArg List.length hj
  simp only [List.length_append, List.length_cons] at hjl
  have hp1 : H1[p]? = some (.cells (rdC rest 1 0 0)) := by rw [hH1]; exact zYaV hp0 _
  have kp1 : Keep p H0 H1 := by rw [hH1]; exact Keep.set _ _ _
  have hs : S0 = match fuelR s with
    | none => ({}, 20, 1)
    | some n => stp F (lns rest).1 1 0 1 { fuel := n } := by
   rw [hS0, hlns, stp, if_pos rfl]
   cases fuelR s <;> rfl
  rw [fuelR_is] at hs
  have hcp := e5 s
  cases hpre : pre s wFuel
  ·rw [hpre] at hcp hs
   simp only [Bool.false_eq_true, if_false] at hcp hs
   have hnum := xZy s (by omega)
   simp [zZc.c, zZc.r0, zZc.r1, zZc.r2, zZc.r3, zZc.r4, zZc.r5, V.isCell, g0, he, ← hq, hl1, hal, b1, hcall1, evExt, hcp, hnum, evPick]
   exact bad H1 rest 1 0 _ _ hp1 kp1 hs (by simp [he]) (by simp [g0]) (by simp [he]) (by simp [he]) (by simp [he]; rfl)
  ·rw [hpre] at hcp hs
   simp only [if_true] at hcp hs
   have hd5 : wFuel.length = 5 := rfl
   rw [hd5] at hcp
   have hnum := xZy (s.drop 5) (by rw [List.length_drop]; omega)
   obtain ⟨N, hN⟩ : ∃ N, N = number (s.drop 5) := ⟨_, rfl⟩
   rw [← hN] at hnum hs
   cases hi : N.isSome
   ·rw [hi] at hnum hs
    simp only [Bool.false_eq_true, false_and, if_false] at hs
    simp [zZc.c, zZc.r0, zZc.r1, zZc.r2, zZc.r3, zZc.r4, zZc.r5, V.isCell, g0, he, ← hq, hl1, hal, b1, hcall1, evExt, hcp, hnum, evPick]
    exact bad H1 rest 1 0 _ _ hp1 kp1 hs (by simp [he]) (by simp [g0]) (by simp [he]) (by simp [he]) (by simp [he]; rfl)
   ·rw [hi] at hnum hs
    by_cases h2 : n2 N = []
    ·rw [h2] at hnum hs
     simp only [and_self, if_true] at hs
     have hnum' : ∀ H, callW Φ zZO [T (s.drop 5)] H = some (.tup [.int .i64 (n1 N), .str ⟨#[]⟩, .bool true], H) := hnum
     have e00 : beqS ⟨#[]⟩ ⟨#[]⟩ = true := rfl
     have hq1 := kp1.at hq0 hpq
     have hr1 := kp1.at hr0 hpr
     have s2 := vZo (off := 2) (x := .int .i64 (n1 N)) hr1 (by simp) ⟨rfl, rfl⟩
     simp only [List.set_cons_succ, List.set_cons_zero] at s2
     simp [zZc.c, zZc.r0, zZc.r1, zZc.r2, zZc.r3, zZc.r4, zZc.r5, zZc.r7, V.isCell, g0, he, ← hq, hl1, hal, b1, hcall1, evExt, hcp, hnum', evPick, e00, s2]
     refine key (rest.length + 1) _ ?_
     rw [hI]
     exact ⟨rest, 1, 0, 0, .nils, n1 N, none, [], [], rfl, ⟨by simp [g0], by simp [he], by simp [he], by simp [he]⟩, rfl, by rw [List.getElem?_set_ne hpr]; exact hp1, ⟨by rw [List.length_set]; exact (hk0.trans kp1).1, fun j hj hjp => by rw [List.getElem?_set_ne (by omega)]; exact (hk0.trans kp1).2 j hj hjp⟩, by rw [List.getElem?_set_ne (by omega)]; exact hq1, zYaV hr1 _, VP.nil _, fun _ h => (by cases h), fun _ h => (by cases h), .inl ⟨rfl, by omega, by omega, by omega, by simp, by rw [hlns], hs⟩⟩
    ·have q2 : (n2 N == []) = false := by simpa using h2
     rw [if_neg (fun h => h2 h.2)] at hs
     simp [zZc.c, zZc.r0, zZc.r1, zZc.r2, zZc.r3, zZc.r4, zZc.r5, V.isCell, g0, he, ← hq, hl1, hal, b1, hcall1, evExt, hcp, hnum, evPick, e0, q2]
     exact bad H1 rest 1 0 _ _ hp1 kp1 hs (by simp [he]) (by simp [g0]) (by simp [he]) (by simp [he]) (by simp [he]; rfl)
end Go.Proofs.Sc
