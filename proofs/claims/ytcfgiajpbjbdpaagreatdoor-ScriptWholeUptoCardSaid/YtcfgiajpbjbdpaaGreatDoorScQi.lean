/- A line read as a command. Command: a line read, its length looked at first. No conditions. -/
import Derived.Test.YtcfgiajpbjbdpaaGreatDoorScQg
set_option maxHeartbeats 16000000
set_option maxRecDepth 100000
set_option linter.unusedVariables false
set_option linter.unusedSimpArgs false
set_option linter.unusedSectionVars false
namespace Go.Proofs.Sc
open Go Go.Ev
theorem fields2 (a b : Ob) : evCall Φ 20 qZG [] [a, b] = some (.map 2, [a, b] ++ fO 2) := by kernel_rfl
def cmdX (s : Bs) : Option (Cmd × Bs) := if find (wordOf s) = 0 then none else cmdR (flds (find (wordOf s))) { op := find (wordOf s) } (s.drop (wordOf s).length)
def cmdA (s : Bs) : Cmd := match cmdX s with
 | some (c, _) => c
 | none => {}
def cmdB (s : Bs) : Bool := match cmdX s with
 | some (_, r) => r == []
 | none => false
theorem command_X (s : Bs) : command s = if cmdB s then some (cmdA s) else none := by
 unfold command cmdA cmdB cmdX
 generalize find (wordOf s) = op
 cases op with
 | zero => simp
 | succ n =>
  simp only [Nat.succ_ne_zero, if_false]
  cases h : cmdR (flds (n + 1)) { op := n + 1 } (s.drop (wordOf s).length) with
  | none => simp [h]
  | some p =>
   obtain ⟨c, r⟩ := p
   cases r <;> simp [h]
theorem zYaT (s : Bs) : (wordOf s).length ≤ s.length := by
 have := xZZ s (· != 32)
 have h := congrArg List.length this
 rw [List.length_take] at h
 unfold wordOf
 omega
theorem CA.fz {p : Nat} {H : Heap} {c : Cmd} {L : Bs} (h : CA p H c L) : ∃ v8 v9 v10, H[p]? = some (.cells (cV c v8 v9 v10)) ∧ (cV c v8 v9 v10).all V.isCell = true ∧ (∀ j ob, H[j]? = some (.cells ob) → ∀ cs, ∃ H', Go.Ev.fz 63 (H.set j (.cells cs)) (.agg (cV c v8 v9 v10)) = some (.agg (cC c), H')) := by
 obtain ⟨v8, v9, v10, o9, o10, hc, h8, h9, h10, ha, _⟩ := h
 have hcm : Cm H v8 v9 v10 none o9 o10 c := ⟨h8, .inr h9, .inr h10, (fun id h => by cases h), (fun id h => by cases h), ha⟩
 refine ⟨v8, v9, v10, hc, hcm.cells, fun j ob hj cs => ?_⟩
 have nr : ∀ z xs ep w, Ob.cells ob ≠ .row z xs ep w := fun _ _ _ _ h => by cases h
 have n9 := h9.ne hj nr
 have n10 := h10.ne hj nr
 exact (hcm.mono (H' := H.set j (.cells cs)) fun id hid => by
  rw [List.getElem?_set_ne]
  rintro rfl
  rcases hid with h | h | h
  ·cases h
  ·exact n9 h
  ·exact n10 h).fz 60
theorem CA.iter {H : Heap} {p q : Nat} {c : Cmd} {L : Bs} (h : CA p H c L) {t : ByteArray} {a b : Nat} (hq : H[q]? = some (.iter t a)) (hpq : p ≠ q) : CA p (H.set q (.iter t b)) c L := by
 obtain ⟨v8, v9, v10, o9, o10, hc, h8, h9, h10, ha, hr⟩ := h
 have nr : ∀ z xs ep w, Ob.iter t a ≠ .row z xs ep w := fun _ _ _ _ h => by cases h
 have n9 := h9.ne hq nr
 have n10 := h10.ne hq nr
 refine ⟨v8, v9, v10, o9, o10, by rw [List.getElem?_set_ne (Ne.symm hpq)]; exact hc, h8.none, h9.mono fun id e => List.getElem?_set_ne (fun x => n9 (by rw [e, x])), h10.mono fun id e => List.getElem?_set_ne (fun x => n10 (by rw [e, x])), ha, hr⟩
theorem CA.more {p : Nat} {H : Heap} {c : Cmd} {r : UInt8} {L : Bs} (h : CA p H c (r :: L)) : CA p H c (r :: L) := h
def FH (H : Heap) (f : Bs) (pos : Nat) : Prop := H[0]? = some (.cells z12) ∧ H[2]? = some (.map (fM 2) 11) ∧ Box 2 H ∧ H[17]? = some (.iter ⟨f.toArray⟩ pos)
theorem FH.keep {H H' : Heap} {f : Bs} {pos : Nat} (h : FH H f pos) (hk : Keep 1 H H') : FH H' f pos := by
 obtain ⟨h0, h2, ⟨b1, b2, b3, b4, b5, b6, b7⟩, h17⟩ := h
 have k : ∀ {j : Nat} {o : Ob}, H[j]? = some o → j ≠ 1 → H'[j]? = some o := fun ho hj => by rw [hk.2 _ (List.getElem?_eq_some_iff.1 ho).1 hj]; exact ho
 exact ⟨k h0 (by omega), k h2 (by omega), ⟨k b1 (by omega), k b2 (by omega), k b3 (by omega), k b4 (by omega), k b5 (by omega), k b6 (by omega), k b7 (by omega)⟩, k h17 (by omega)⟩
theorem FH.next {H : Heap} {f : Bs} {pos : Nat} (h : FH H f pos) (p2 : Nat) : FH (H.set 17 (.iter ⟨f.toArray⟩ p2)) f p2 := by
 obtain ⟨h0, h2, ⟨b1, b2, b3, b4, b5, b6, b7⟩, h17⟩ := h
 have k : ∀ {j : Nat} {o : Ob}, H[j]? = some o → j ≠ 17 → (H.set 17 (.iter ⟨f.toArray⟩ p2))[j]? = some o := fun ho hj => by rw [List.getElem?_set_ne (Ne.symm hj)]; exact ho
 exact ⟨k h0 (by omega), k h2 (by omega), ⟨k b1 (by omega), k b2 (by omega), k b3 (by omega), k b4 (by omega), k b5 (by omega), k b6 (by omega), k b7 (by omega)⟩, List.getElem?_set_self (List.getElem?_eq_some_iff.1 h17).1⟩
theorem xZM (s : Bs) (hz : s.length ≤ 1048576) (H : Heap) : callW Φ zZt [T s] H = some (.tup [.agg (cC (cmdA s)), .bool (cmdB s)], H) := by
 refine xZ5 zZt.Φ rfl (args := [T s]) rfl ?_
 obtain ⟨P, hP⟩ : ∃ P : V → Heap → Prop, P = fun r h2 => ∃ h3, fz fzDepth h2 r = some (.tup [.agg (cC (cmdA s)), .bool (cmdB s)], h3) := ⟨_, rfl⟩
 suffices hgo : ∃ r h', evBodyW (callW Φ) zZt.c [T s] [] = some (r, h') ∧ P r h' by rw [hP] at hgo; exact hgo
 have hPz : ∀ r h2 h3, fz fzDepth h2 r = some (.tup [.agg (cC (cmdA s)), .bool (cmdB s)], h3) → P r h2 := fun r h2 h3 hz => by rw [hP]; exact ⟨h3, hz⟩
 have hPn : ∀ r h2, flatN2 r = true → nz2 r = .tup [.agg (cC (cmdA s)), .bool (cmdB s)] → P r h2 := fun r h2 h h1 => hPz r h2 h2 (by rw [← h1]; exact wZl h)
 clear hP
 refine xZ4 (Nat.le_of_ble_eq_true rfl) (fun env he h0 => ?_)
 have g0 := h0 0 (by simp)
 change eget env 0 = T s at g0
 clear h0
 simp [zZt.c] at he
 have e0 : ∀ l : Bs, beqS ⟨l.toArray⟩ ⟨#[]⟩ = (l == []) := fun l => T_beq l []
 have no : cmdX s = none → ∀ h, P (.tup [.agg z12, .bool false]) h := fun hn h => hPz _ _ h (by
  have h1 : cmdA s = {} := by simp only [cmdA, hn]
  have h2 : cmdB s = false := by simp only [cmdB, hn]
  rw [h1, h2]
  rfl)
 have hcz : (V.agg z12).cells = z12 := rfl
 have hfail : ∀ H : Heap, H[0]? = some (.cells z12) → evStoreV H 12 (.ptr 0 0) (.agg z12) = some (V.non, H) ∧ cellsAt H (.ptr 0 0) = some z12 := fun H h => by
  refine ⟨?_, by simp [cellsAt, h]⟩
  have hl := (List.getElem?_eq_some_iff.1 h).1
  have hall : z12.all V.isCell = true := rfl
  unfold evStoreV
  rw [hcz, hall]
  have hs : H.set 0 (.cells z12) = H := by
   apply List.ext_getElem?
   intro i
   by_cases hi : 0 = i
   ·subst hi; rw [List.getElem?_set_self hl, h]
   ·rw [List.getElem?_set_ne hi]
  simp [evStore, h, setRange, hs]
 have hbd0 : ∀ H, evBuild H z12 [] = some (.agg z12, H) := fun H => rfl
 have hcut := xZT s 32 (by omega) [.cells z12]
 have hcut2 : callW Φ qZU [T s, .str ⟨#[32]⟩] [.cells z12] = some (cutV s 32, [.cells z12]) := hcut
 have hw : s.takeWhile (· != 32) = wordOf s := rfl
 simp only [cutV, hw] at hcut2
 have hfd := jZE (wordOf s) [.cells z12]
 have hwl := zYaT s
 obtain ⟨op, hop⟩ : ∃ op, op = find (wordOf s) := ⟨_, rfl⟩
 by_cases c0 : find (wordOf s) = 0
 ·have hn := no (by unfold cmdX; rw [if_pos c0]) [.cells z12]
  rw [c0] at hfd
  have hfd' : callW Φ zZu [T (wordOf s)] [.cells z12] = some (.tup [.int .u8 0, .bool false], [.cells z12]) := hfd
  obtain ⟨f1, f2⟩ := hfail [.cells z12] rfl
  simp [zZt.c, zZt.r0, zZt.r1, zZt.r2, zZt.r3, zZt.r4, g0, he, V.isCell, hcut2, hfd', evExt, hbd0, f1, f2, ofCells, hn]
 obtain ⟨hk, hwd⟩ := zYas c0
 have hop45 : op < 45 := by rw [hop]; simp [known] at hk; exact hk.2
 have hX : cmdX s = cmdR (flds op) { op := op } (s.drop (wordOf s).length) := by unfold cmdX; rw [if_neg c0, hop]
 have hfd' : callW Φ zZu [T (wordOf s)] [.cells z12] = some (.tup [.int .u8 op, .bool true], [.cells z12]) := by rw [hfd, hop]; simp [c0]
 have hbd1 : ∀ H, evBuild H z12 [(0, 1, .int .u8 op)] = some (.agg (cV { op := op } .nils .nils .nils), H) := fun H => rfl
 have st1 : evStoreV [.cells z12, .cells z12] 12 (.ptr 1 0) (.agg (cV { op := op } .nils .nils .nils)) = some (V.non, [.cells z12, .cells (cV { op := op } .nils .nils .nils)]) := by
  have hall : (cV { op := op } .nils .nils .nils).all V.isCell = true := rfl
  have hcv : (V.agg (cV { op := op } .nils .nils .nils)).cells = cV { op := op } .nils .nils .nils := rfl
  unfold evStoreV
  rw [hcv, hall]
  simp [evStore, setRange]
 have hsl := fun h : Heap => zYaw (h := h) (l := s) (k := .i64) (a := ((wordOf s).length : Int)) (by omega) (by omega)
 simp only [Int.toNat_natCast] at hsl
 have hfl : callW Φ qZG [] [.cells z12, .cells (cV { op := op } .nils .nils .nils)] = some (.map 2, [.cells z12, .cells (cV { op := op } .nils .nils .nils)] ++ fO 2) := vZ4 (fields2 _ _)
 have hof := fun H => wZz op (by omega) H
 obtain ⟨H0, hH0⟩ : ∃ H0, H0 = ([.cells z12, .cells (cV { op := op } .nils .nils .nils)] ++ fO 2 : Heap) := ⟨_, rfl⟩
 rw [← hH0] at hfl
 obtain ⟨H1, hH1⟩ : ∃ H1, H1 = H0 ++ [.iter ⟨(flds op).toArray⟩ 0] := ⟨_, rfl⟩
 have hrg : evRngs H0 (T (flds op)) = some (.ptr 17 0, H1) := by
  simp only [evRngs, qZ5, hH1]
  rw [hH0]
  rfl
 simp [zZt.c, zZt.r0, zZt.r1, zZt.r2, zZt.r3, zZt.r5, zZt.r6, zZt.r7, zZt.r8, g0, he, V.isCell, hcut2, hfd', evExt, hbd1, st1, vZm, hsl, hfl, hof, evField, hrg]
 obtain ⟨I, hI⟩ : ∃ I : Nat → St → Prop, I = fun m st => ∃ (pos : Nat) (c : Cmd) (t : Bs), m = (flds op).length - pos ∧ pos ≤ (flds op).length ∧ (eget st.env 0 = T t ∧ eget st.env 2 = .ptr 0 0 ∧ eget st.env 9 = .ptr 1 0 ∧ eget st.env 10 = .map 2 ∧ eget st.env 39 = .ptr 17 0 ∧ st.env.length = 64) ∧ st.marks = [] ∧
  FH st.heap (flds op) pos ∧ CA 1 st.heap c ((flds op).drop pos) ∧ t.length ≤ 1048576 ∧ cmdX s = cmdR ((flds op).drop pos) c t := ⟨_, rfl⟩
 refine kLoop I (flds op).length (by
  rw [hI]
  refine ⟨0, { op := op }, s.drop (wordOf s).length, rfl, by omega, ⟨by simp [he], by simp [he], by simp [he], by simp [he], by simp [he], by simp [he]⟩, rfl, ?_, ?_, by simp; omega, hX⟩
  ·rw [hH1, hH0]; exact ⟨rfl, rfl, ⟨rfl, rfl, rfl, rfl, rfl, rfl, rfl⟩, rfl⟩
  ·rw [hH1, hH0]; exact ⟨.nils, .nils, .nils, none, none, rfl, .inr (VL.nil _ _), VL.nil _ _, VL.nil _ _, (fun id h => by cases h), (fun _ => ⟨rfl, rfl⟩), (fun _ => ⟨rfl, rfl⟩), fun _ => rfl⟩) ?_
 rintro m ⟨env, mk, Hh⟩ hst
 rw [hI] at hst
 obtain ⟨pos, c, t, rfl, hp, ⟨k0, k2, k9, k10, k39, hl⟩, hm, hF, hca, htl, hcx⟩ := hst
 simp only at k0 k2 k9 k10 k39 hl hm hF hca
 obtain rfl := hm
 by_cases hp2 : pos < (flds op).length
 ·obtain ⟨r, hr⟩ : ∃ r, (flds op)[pos]? = some r := ⟨_, List.getElem?_eq_getElem hp2⟩
  have hdr : (flds op).drop pos = r :: (flds op).drop (pos + 1) := by rw [List.drop_eq_getElem_cons hp2]; congr 1; exact (List.getElem?_eq_some_iff.1 hr).2
  have hmem := List.mem_of_getElem? hr
  have hlet := (jZ6 op).2 r hmem
  have hsm := wZR hmem
  have hnd : (r :: (flds op).drop (pos + 1)).Nodup := by rw [← hdr]; exact (jZ6 op).1.sublist (List.drop_sublist _ _)
  obtain ⟨H2, hH2⟩ : ∃ H2, H2 = Hh.set 17 (.iter ⟨(flds op).toArray⟩ (pos + 1)) := ⟨_, rfl⟩
  have hn : evNxt Hh (.ptr 17 0) = some (.tup [.bool true, .int .i64 pos, .int .i32 r.toNat], H2) := by rw [nxt_byte hF.2.2.2 hr hsm, hH2]
  have hF2 : FH H2 (flds op) (pos + 1) := by rw [hH2]; exact hF.next _
  have hca2 : CA 1 H2 c (r :: (flds op).drop (pos + 1)) := by rw [hH2, ← hdr]; exact hca.iter hF.2.2.2 (by omega)
  rw [hdr] at hcx
  have bad : cmdX s = none → ∀ H : Heap, H[0]? = some (.cells z12) → P (.tup [.agg z12, .bool false]) H := fun h H _ => no h H
  cases t with
  | nil =>
   have hx := no (hcx.trans rfl) H2
   obtain ⟨f1, f2⟩ := hfail H2 hF2.1
   have hc0 := cut0 32 H2
   simp only [zZt.b16]
   simp [zZt.c, zZt.r9, zZt.r10, zZt.r11, zZt.r12, zZt.r14, zZt.r15, k0, k2, k9, k10, k39, hl, hn, evExt, hc0, hbd0, f1, f2, ofCells, hx]
  | cons e t =>
   simp only [List.length_cons] at htl
   have hc1 := cut1 e 32 t H2
   by_cases e32 : e = 32
   ·simp only [e32, if_true, decide_true] at hc1
    have hcx2 : cmdX s = (match rd r c t with | some (c', s'') => cmdR ((flds op).drop (pos + 1)) c' s'' | none => none) := by rw [hcx, e32]; rfl
    obtain ⟨x, H3, hcall, hkeep, hrr⟩ := rd_call (n := 2) (p := 1) hlet hnd hca2 hF2.2.2.1 (s := t) (by omega)
    have hF3 := hF2.keep hkeep
    have hlk := zYaR (n := 2) hlet hF2.2.1
    cases hrd : rd r c t with
    | none =>
     rw [hrd] at hrr hcx2
     obtain ⟨u, rfl⟩ := hrr
     have hx := no hcx2 H3
     obtain ⟨f1, f2⟩ := hfail H3 hF3.1
     simp only [zZt.b16]
     rw [e32] at k0
     simp [zZt.c, zZt.r9, zZt.r10, zZt.r11, zZt.r12, zZt.r13, zZt.r14, zZt.r15, k0, k2, k9, k10, k39, hl, hn, evExt, hc1, hlk, evField, hcall, hbd0, f1, f2, ofCells, hx]
    | some q =>
     obtain ⟨c', s'⟩ := q
     rw [hrd] at hrr hcx2
     obtain ⟨rfl, hca3, hs'⟩ := hrr
     simp only [zZt.b16]
     rw [e32] at k0
     simp [zZt.r9, zZt.r10, zZt.r11, zZt.r12, zZt.r13, zZt.r14, k0, k2, k9, k10, k39, hl, hn, evExt, hc1, hlk, evField, hcall]
     refine ⟨(flds op).length - (pos + 1), by omega, ?_⟩
     rw [hI]
     exact ⟨pos + 1, c', s', rfl, by omega, ⟨by simp [hl], by simp [k2], by simp [k9], by simp [k10], by simp [k39], by simp [hl]⟩, rfl, hF3, hca3, by omega, hcx2⟩
   ·simp only [e32, if_false, decide_false] at hc1
    have hx := no (hcx.trans (by simp only [cmdR]; rw [if_neg e32])) H2
    obtain ⟨f1, f2⟩ := hfail H2 hF2.1
    simp only [zZt.b16]
    simp [zZt.c, zZt.r9, zZt.r10, zZt.r11, zZt.r12, zZt.r14, zZt.r15, k0, k2, k9, k10, k39, hl, hn, evExt, hc1, hbd0, f1, f2, ofCells, hx]
 ·have hpe : pos = (flds op).length := by omega
  have hn : evNxt Hh (.ptr 17 0) = some (.tup [.bool false], Hh) := nxt_end (l := flds op) (by rw [← hpe]; exact hF.2.2.2)
  rw [List.drop_eq_nil_of_le (by omega)] at hcx hca
  have hA : cmdA s = c := by simp only [cmdA, hcx, cmdR]
  have hB : cmdB s = (t == []) := by simp only [cmdB, hcx, cmdR]
  obtain ⟨v8, v9, v10, hc, hall, hfz⟩ := hca.fz
  have hcv : (V.agg (cV c v8 v9 v10)).cells = cV c v8 v9 v10 := rfl
  have cl := vZ5 hc 0
  have l0 := (List.getElem?_eq_some_iff.1 hF.1).1
  obtain ⟨H2, hz2⟩ := hfz 0 z12 hF.1 (cV c v8 v9 v10)
  have hs : evStoreV Hh 12 (.ptr 0 0) (.agg (cV c v8 v9 v10)) = some (V.non, Hh.set 0 (.cells (cV c v8 v9 v10))) := by
   unfold evStoreV
   rw [hcv, hall]
   simp [evStore, hF.1, setRange]
  have cl2 : cellsAt (Hh.set 0 (.cells (cV c v8 v9 v10))) (.ptr 0 0) = some (cV c v8 v9 v10) := by simp [cellsAt, l0]
  have hf : P (.tup [.agg (cV c v8 v9 v10), .bool (t == [])]) (Hh.set 0 (.cells (cV c v8 v9 v10))) := by
   refine hPz _ _ H2 ?_
   rw [hA, hB]
   show (mapH (Go.Ev.fz 63) _ [.agg (cV c v8 v9 v10), .bool (t == [])]).map (fun p => (V.tup p.1, p.2)) = _
   simp only [mapH, hz2]
   rfl
  simp only [zZt.b16]
  cases ht : t == []
  all_goals
   rw [ht] at hf
   simp [zZt.c, zZt.r9, zZt.r17, k0, k2, k9, k10, k39, hl, hn, evExt, cl, hs, cl2, e0, ht, ofCells, hf]
open Go Go.Ev
def cmdE (s : Bs) : Cmd × Int := if s.length > maxS then ({}, 4) else match command s with
 | some c => (c, 0)
 | none => ({}, 20)
abbrev cmdT (p : Cmd × Int) : V := .tup [.agg (cC p.1), .int .i64 p.2]
theorem xZx (s : Bs) (hz : s.length < 2 ^ 40) (H : Heap) : callW Φ zZ5 [T s] H = some (.tup [.agg (cC (cmdE s).1), .int .i64 (cmdE s).2], H) := by
 refine xZ5 zZ5.Φ rfl (args := [T s]) rfl ?_
 obtain ⟨P, hP⟩ : ∃ P : V → Heap → Prop, P = fun r h2 => ∃ h3, fz fzDepth h2 r = some (.tup [.agg (cC (cmdE s).1), .int .i64 (cmdE s).2], h3) := ⟨_, rfl⟩
 suffices hgo : ∃ r h', evBodyW (callW Φ) zZ5.c [T s] [] = some (r, h') ∧ P r h' by rw [hP] at hgo; exact hgo
 have hPz : ∀ r h2 h3, fz fzDepth h2 r = some (.tup [.agg (cC (cmdE s).1), .int .i64 (cmdE s).2], h3) → P r h2 := fun r h2 h3 hz => by rw [hP]; exact ⟨h3, hz⟩
 have hPn : ∀ r h2, flatN2 r = true → nz2 r = .tup [.agg (cC (cmdE s).1), .int .i64 (cmdE s).2] → P r h2 := fun r h2 h h1 => hPz r h2 h2 (by rw [← h1]; exact wZl h)
 clear hP
 refine xZ4 (Nat.le_of_ble_eq_true rfl) (fun env he h0 => ?_)
 have g0 := h0 0 (by simp)
 change eget env 0 = T s at g0
 clear h0
 simp [zZ5.c] at he
 have hcz : (V.agg z12).cells = z12 := rfl
 have hbd0 : ∀ H, evBuild H z12 [] = some (.agg z12, H) := fun H => rfl
 have bad : ∀ (n : Int), cmdE s = ({}, n) → ∀ h, P (.tup [.agg z12, .int .i64 n]) h := fun n hn h => hPz _ _ h (by rw [hn]; rfl)
 have good : ∀ c, cmdE s = (c, 0) → ∀ h, P (.tup [.agg (cC c), .int .i64 0]) h := fun c hn h => hPz _ _ h (by rw [hn]; exact wZl rfl)
 by_cases c : 1048576 < s.length
 ·have hb := bad 4 (by unfold cmdE; rw [if_pos (show s.length > maxS from c)])
  have c1 : (1048576 : Int) < (s.length : Int) := by omega
  have s1 : evStoreV [.cells z12] 12 (.ptr 0 0) (.agg z12) = some (V.non, [.cells z12]) := rfl
  have c2 : cellsAt [.cells z12] (.ptr 0 0) = some z12 := rfl
  simp [zZ5.c, zZ5.r0, zZ5.r1, zZ5.r2, zZ5.r3, zZ5.r4, zZ5.r5, zZ5.r6, g0, he, V.isCell, vZm, c, c1, hbd0, s1, c2, ofCells, hb]
 ·have c1 : ¬ (1048576 : Int) < (s.length : Int) := by omega
  have hc := fun H => xZM s (by omega) H
  have hcc : ∀ x : Cmd, (V.agg (cC x)).cells = cC x := fun x => rfl
  have s1 : ∀ x : Cmd, evStoreV [.cells z12, .cells z12] 12 (.ptr 1 0) (.agg (cC x)) = some (V.non, [.cells z12, .cells (cC x)]) := fun x => by
   have hall : (cC x).all V.isCell = true := rfl
   unfold evStoreV
   rw [hcc, hall]
   simp [evStore, setRange]
  have s2 : ∀ (x : Cmd) (o : Ob), evStoreV [.cells z12, o] 12 (.ptr 0 0) (.agg (cC x)) = some (V.non, [.cells (cC x), o]) := fun x o => by
   have hall : (cC x).all V.isCell = true := rfl
   unfold evStoreV
   rw [hcc, hall]
   simp [evStore, setRange]
  have s3 : ∀ (o : Ob), evStoreV [.cells z12, o] 12 (.ptr 0 0) (.agg z12) = some (V.non, [.cells z12, o]) := fun o => rfl
  have l1 : ∀ (x : Cmd) (o : Ob), cellsAt [o, .cells (cC x)] (.ptr 1 0) = some (cC x) := fun x o => rfl
  have l2 : ∀ (x : List V) (o : Ob), cellsAt [.cells x, o] (.ptr 0 0) = some x := fun x o => rfl
  have hE : cmdE s = if cmdB s then (cmdA s, 0) else ({}, 20) := by
   unfold cmdE
   rw [if_neg (show ¬ s.length > maxS from c), command_X]
   cases cmdB s <;> rfl
  cases hB : cmdB s
  ·have hb := bad 20 (by rw [hE, hB]; rfl)
   simp [zZ5.c, zZ5.r0, zZ5.r1, zZ5.r2, zZ5.r3, zZ5.r4, zZ5.r5, zZ5.r6, g0, he, V.isCell, vZm, c, c1, hc, hB, evExt, s1, hbd0, s3, l2, ofCells, hb]
  ·have hg := good (cmdA s) (by rw [hE, hB]; rfl)
   simp [zZ5.c, zZ5.r0, zZ5.r1, zZ5.r2, zZ5.r3, zZ5.r4, zZ5.r5, zZ5.r6, g0, he, V.isCell, vZm, c, c1, hc, hB, evExt, s1, l1, s2, l2, ofCells, hg]
end Go.Proofs.Sc
