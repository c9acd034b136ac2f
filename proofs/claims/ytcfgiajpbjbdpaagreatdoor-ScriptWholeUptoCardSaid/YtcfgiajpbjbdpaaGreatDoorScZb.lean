/- Scripts written: counting, the writer. Scripts written: the program's Print. No conditions. -/
import Derived.Test.YtcfgiajpbjbdpaaGreatDoorScM
import Derived.Test.YtcfgiajpbjbdpaaGreatDoorScZa
import Derived.Test.YtcfgiajpbjbdpaaGreatDoorScO
set_option maxHeartbeats 16000000
set_option maxRecDepth 100000
set_option linter.unusedVariables false
set_option linter.unusedSimpArgs false
set_option linter.unusedSectionVars false
namespace Go.Proofs.Sc
open Go Go.Ev
abbrev cP (p : List Cmd) : List V := [.arr (p.map cC)]
abbrev cS (s : Scr) : List V := [.arr (s.cmds.map cC), .arr (s.progs.map cP), .int .i64 s.fuel]
theorem st12 (X : Heap) (d : Cmd) : evStoreV (X ++ [.cells z12]) 12 (.ptr X.length 0) (.agg (cC d)) = some (V.non, X ++ [.cells (cC d)]) := by
 have hcc : (V.agg (cC d)).cells = cC d := rfl
 have hall : (cC d).all V.isCell = true := rfl
 unfold evStoreV
 rw [hcc, hall]
 simp only [and_self, vZ1, setRange]
 simp
theorem cl12 (X : Heap) (d : Cmd) (off : Nat) : cellsAt (X ++ [.cells (cC d)]) (.ptr X.length off) = some ((cC d).drop off) := by simp [cellsAt]
theorem ok12 (c : Cmd) (H : Heap) : okCells H (some 12) (some (cC c)) = some (.agg (cC c), H) := rfl
theorem zYbq {h : Heap} {l : List Cmd} {k : IntKind} {i : Nat} {c : Cmd} (hx : l[i]? = some c) : iaddrV h 12 (.arr (l.map cC)) (.int k i) = some (.iptr (cC c)) := wZm (enc := cC) (fun _ => rfl) hx
theorem zYbs {h : Heap} {l : List (List Cmd)} {k : IntKind} {i : Nat} {c : List Cmd} (hx : l[i]? = some c) : iaddrV h 1 (.arr (l.map cP)) (.int k i) = some (.iptr (cP c)) := wZm (enc := cP) (fun _ => rfl) hx
def SzS (s : Scr) : Prop := allC s SzL ∧ ok64 s.fuel ∧ count s + s.progs.length ≤ 1048576
theorem sum_take (l : List Nat) (i : Nat) {x : Nat} (h : l[i]? = some x) : (l.take (i + 1)).sum = (l.take i).sum + x := by rw [List.take_add_one, h]; simp
theorem zYaM : ∀ (l : List Nat) (i : Nat), (l.take i).sum ≤ l.sum
 | [], i => by simp
 | x :: l, 0 => by simp
 | x :: l, i + 1 => by have := zYaM l i; simp only [List.take_succ_cons, List.sum_cons]; omega
theorem len_in {s : Scr} {p : List Cmd} (h : p ∈ s.progs) : p.length ≤ count s := by
 unfold count
 have : ∀ ps : List (List Cmd), p ∈ ps → p.length ≤ (ps.map List.length).sum := by
  intro ps
  induction ps with
  | nil => intro h; cases h
  | cons q ps ih =>
   intro h
   simp only [List.map_cons, List.sum_cons]
   rcases List.mem_cons.1 h with rfl | h
   ·omega
   ·have := ih h; omega
 have := this _ h
 omega
theorem zYbg (s : Scr) (z : SzS s) (H : Heap) : callW Φ zZ7 [.agg (cS s)] H = some (.int .i64 (count s), H) := by
 have : ∃ hh, evBodyW (callW Φ) zZ7.c [.agg (cS s)] [] = some (.int .i64 (count s), hh) := by
  refine wZg (Nat.le_of_ble_eq_true rfl) (fun env he h0 => ?_)
  have g0 := h0 0 (by simp)
  change eget env 0 = .agg (cS s) at g0
  clear h0
  simp [zZ7.c] at he
  have hcc : (V.agg (cS s)).cells = cS s := rfl
  have b0 : evBox [] (cS s) = some (.ptr 0 0, [.cells (cS s)]) := jZU [] _ rfl
  have c0 : ∀ off, cellsAt [.cells (cS s)] (.ptr 0 off) = some ((cS s).drop off) := fun off => rfl
  have z3 := z.2.2
  unfold count at z3
  simp [zZ7.c, zZ7.r0, zZ7.r1, zZ7.r2, zZ7.r8, g0, he, hcc, b0, c0]
  obtain ⟨I, hI⟩ : ∃ I : Nat → St → Prop, I = fun m st => ∃ (i : Nat), m = s.progs.length - i ∧ i ≤ s.progs.length ∧ (eget st.env 3 = .int .i64 (s.cmds.length + ((s.progs.map List.length).take i).sum : Nat) ∧ eget st.env 10 = .arr (s.progs.map cP) ∧ eget st.env 11 = .int .i64 s.progs.length ∧ eget st.env 12 = .int .i64 i ∧ st.env.length = 22) ∧ st.marks = [] := ⟨_, rfl⟩
  refine kLoop I s.progs.length (by rw [hI]; exact ⟨0, rfl, by omega, ⟨by simp [he], by simp [he], by simp [he], by simp [he], by simpa using he⟩, rfl⟩) ?_
  rintro m ⟨env, mk, Hh⟩ hst
  rw [hI] at hst
  obtain ⟨i, rfl, hi, ⟨k3, k10, k11, k12, hl⟩, hm⟩ := hst
  simp only at k3 k10 k11 k12 hl hm
  obtain rfl := hm
  by_cases c : i < s.progs.length
  ·obtain ⟨p, hp⟩ : ∃ p, s.progs[i]? = some p := ⟨_, List.getElem?_eq_getElem c⟩
   have ia := zYbs (h := Hh) (k := .i64) hp
   have wr := wrap64 (n := (i : Int) + 1) (by omega) (by omega)
   have hs := sum_take (s.progs.map List.length) i (x := p.length) (by rw [List.getElem?_map, hp]; rfl)
   have hle := zYaM (s.progs.map List.length) (i + 1)
   obtain ⟨S, hS⟩ : ∃ S, S = ((s.progs.map List.length).take i).sum := ⟨_, rfl⟩
   rw [← hS] at k3 hs
   have w2 := wrap64 (n := ((s.cmds.length + S : Nat) : Int) + (p.length : Int)) (by omega) (by omega)
   simp only [zZ7.b7]
   simp only [Int.natCast_add] at k3 w2
   simp [zZ7.b7, zZ7.r3, zZ7.r4, zZ7.r5, zZ7.r6, k3, k10, k11, k12, hl, c, ia, wr, w2]
   refine ⟨s.progs.length - (i + 1), by omega, ?_⟩
   rw [hI]
   refine ⟨i + 1, rfl, by omega, ⟨?_, by simp [k10], by simp [k11], by simp [hl], by simp [hl]⟩, rfl⟩
   rw [hs]
   simp [hl]
   omega
  ·have hie : i = s.progs.length := by omega
   have hf : ((s.progs.map List.length).take i).sum = (s.progs.map List.length).sum := by rw [List.take_of_length_le (by rw [List.length_map]; omega)]
   rw [hf] at k3
   simp only [zZ7.b7]
   simp [zZ7.b7, zZ7.r3, zZ7.r4, zZ7.r5, zZ7.r6, zZ7.c, zZ7.r0, zZ7.r1, zZ7.r2, zZ7.r8, k3, k10, k11, k12, hl, c, count]
 obtain ⟨h', hb⟩ := this
 exact qZ7 (h := H) zZ7.Φ rfl (args := [.agg (cS s)]) rfl hb rfl
theorem zYbv (l : List Cmd) (z : ∀ c ∈ l, c.op < 256) (hl : l.length ≤ 2 ^ 40) (H : Heap) : callW Φ zZ9 [.arr (l.map cC)] H = some (.bool (!allK l), H) := by
 have : ∃ hh, evBodyW (callW Φ) zZ9.c [.arr (l.map cC)] [] = some (.bool (!allK l), hh) := by
  refine wZg (Nat.le_of_ble_eq_true rfl) (fun env he h0 => ?_)
  have g0 := h0 0 (by simp)
  change eget env 0 = .arr (l.map cC) at g0
  clear h0
  simp [zZ9.c] at he
  simp [zZ9.c, zZ9.r0, zZ9.r1, zZ9.r8, g0, he]
  obtain ⟨I, hI⟩ : ∃ I : Nat → St → Prop, I = fun m st => ∃ (i : Nat), m = l.length - i ∧ i ≤ l.length ∧ (eget st.env 5 = .arr (l.map cC) ∧ eget st.env 6 = .int .i64 l.length ∧ eget st.env 7 = .int .i64 i ∧ st.env.length = 16) ∧ st.marks = [] ∧ allK (l.take i) = true := ⟨_, rfl⟩
  refine kLoop I l.length (by rw [hI]; exact ⟨0, rfl, by omega, ⟨by simp [he], by simp [he], by simp [he], by simpa using he⟩, rfl, rfl⟩) ?_
  rintro m ⟨env, mk, Hh⟩ hst
  rw [hI] at hst
  obtain ⟨i, rfl, hi, ⟨k5, k6, k7, hle⟩, hm, hk⟩ := hst
  simp only at k5 k6 k7 hle hm
  obtain rfl := hm
  simp only [zZ9.b7]
  by_cases c : i < l.length
  ·obtain ⟨d, hd⟩ : ∃ d, l[i]? = some d := ⟨_, List.getElem?_eq_getElem c⟩
   have hmem := List.mem_of_getElem? hd
   have ia := zYbq (h := Hh) (k := .i64) hd
   have wr := wrap64 (n := (i : Int) + 1) (by omega) (by omega)
   have hw := jZF d.op (z d hmem)
   have e0 : ∀ l : Bs, beqS ⟨l.toArray⟩ ⟨#[]⟩ = (l == []) := fun l => T_beq l []
   have htk : allK (l.take (i + 1)) = known d.op := by
    rw [List.take_add_one, hd]
    unfold allK at hk ⊢
    rw [List.all_append, hk]
    simp
   cases hko : known d.op
   ·have hwn : word d.op = [] := by
     by_cases hw : word d.op = []
     ·exact hw
     ·rw [zYay.2 hw] at hko; cases hko
    have hall : allK l = false := by
     unfold allK
     rw [List.all_eq_false]
     exact ⟨d, hmem, by simp [hko]⟩
    have e00 : beqS ⟨#[]⟩ ⟨#[]⟩ = true := rfl
    simp [zZ9.b7, zZ9.r2, zZ9.r3, zZ9.r4, zZ9.r5, zZ9.r6, V.isCell, k5, k6, k7, hle, c, ia, ok12, st12, cl12, hw, hwn, e00, hall]
   ·have hwn : (word d.op == []) = false := by simpa using zYay.1 hko
    simp [zZ9.b7, zZ9.r2, zZ9.r3, zZ9.r4, zZ9.r5, zZ9.r6, V.isCell, k5, k6, k7, hle, c, ia, ok12, st12, cl12, hw, e0, hwn, wr]
    refine ⟨l.length - (i + 1), by omega, ?_⟩
    rw [hI]
    exact ⟨i + 1, rfl, by omega, ⟨by simp [k5], by simp [k6], by simp [hle], by simp [hle]⟩, rfl, by rw [htk, hko]⟩
  ·have hie : i = l.length := by omega
   rw [hie, List.take_length] at hk
   simp [zZ9.b7, zZ9.r2, zZ9.r3, zZ9.r4, zZ9.r5, zZ9.r6, zZ9.c, zZ9.r0, zZ9.r1, zZ9.r8, k5, k6, k7, hle, c, hk]
 obtain ⟨h', hb⟩ := this
 exact qZ7 (h := H) zZ9.Φ rfl (args := [.arr (l.map cC)]) rfl hb rfl
def Wr (H : Heap) (p : Nat) (o : Option Nat) (q : Bs × Int) : Prop := ∃ v, H[p]? = some (.cells [v, .int .i64 q.2]) ∧ VL H 1 v o (q.1.map cB)
def Ch (H H' : Heap) (p : Nat) (o o' : Option Nat) : Prop := H.length ≤ H'.length ∧ (∀ j, j < H.length → j ≠ p → o ≠ some j → H'[j]? = H[j]?) ∧ ∀ id, o' = some id → o = some id ∨ H.length ≤ id
theorem Ch.refl (H : Heap) (p : Nat) (o : Option Nat) : Ch H H p o o := ⟨Nat.le_refl _, fun _ _ _ _ => rfl, fun _ h => .inl h⟩
theorem Ch.trans {H H1 H2 : Heap} {p : Nat} {o o1 o2 : Option Nat} (h1 : Ch H H1 p o o1) (h2 : Ch H1 H2 p o1 o2) : Ch H H2 p o o2 := by
 obtain ⟨a1, a2, a3⟩ := h1
 obtain ⟨b1, b2, b3⟩ := h2
 refine ⟨Nat.le_trans a1 b1, fun j hj hp ho => ?_, fun id hid => ?_⟩
 ·rw [b2 j (by omega) hp (fun e => by
   rcases a3 j e with h | h
   ·exact ho h
   ·omega), a2 j hj hp ho]
 ·rcases b3 id hid with h | h
  ·exact a3 id h
  ·right; omega
theorem Ch.push {H H' : Heap} {p : Nat} {o o' : Option Nat} (h : Ch H H' p o o') (E : Heap) : Ch H (H' ++ E) p o o' := by
 obtain ⟨a1, a2, a3⟩ := h
 exact ⟨by rw [List.length_append]; omega, fun j hj hp ho => by rw [List.getElem?_append_left (by omega), a2 j hj hp ho], a3⟩
theorem Wr.push {H : Heap} {p : Nat} {o : Option Nat} {q : Bs × Int} (h : Wr H p o q) (E : Heap) : Wr (H ++ E) p o q := by
 obtain ⟨v, h1, h2⟩ := h
 exact ⟨v, by rw [List.getElem?_append_left (List.getElem?_eq_some_iff.1 h1).1]; exact h1, h2.push E⟩
def Good (q : Bs × Int) (B : Bs) : Prop := (q.2 = 0 → q.1 = B ∧ B.length ≤ maxS) ∧ (q.2 ≠ 0 → q.2 = 4 ∧ maxS < B.length)
theorem Good.more {q : Bs × Int} {B : Bs} (h : Good q B) (h0 : q.2 ≠ 0) (C : Bs) : Good q (B ++ C) := ⟨fun e => absurd e h0, fun e => ⟨(h.2 e).1, by have := (h.2 e).2; rw [List.length_append]; omega⟩⟩
theorem zYaU (H : Heap) (p : Nat) (o : Option Nat) (q : Bs × Int) (B s : Bs) (hw : Wr H p o q) (hg : Good q B) (hs : s.length ≤ 2 ^ 40) : ∃ r h', callW Φ (.fn (.func zZ1.k) [] []) [.ptr p 0, T s] H = some (r, h') ∧ (fun r H' => ∃ q' o', Wr H' p o' q' ∧ Good q' (B ++ (s ++ [10])) ∧ Ch H H' p o o') r h' := by
 obtain ⟨P, hP⟩ : ∃ P : V → Heap → Prop, P = fun r H' => ∃ q' o', Wr H' p o' q' ∧ Good q' (B ++ (s ++ [10])) ∧ Ch H H' p o o' := ⟨_, rfl⟩
 suffices hgo : ∃ r h', callW Φ (.fn (.func zZ1.k) [] []) [.ptr p 0, T s] H = some (r, h') ∧ P r h' by rw [hP] at hgo; exact hgo
 have hPi : ∀ r h', (fun r H' => ∃ q' o', Wr H' p o' q' ∧ Good q' (B ++ (s ++ [10])) ∧ Ch H H' p o o') r h' → P r h' := fun r h' q => by rw [hP]; exact q
 clear hP
 refine kZY zZ1.Φ rfl (Nat.le_of_ble_eq_true rfl) (fun env he h0 => ?_)
 have g0 := h0 0 (by simp)
 change eget env 0 = .ptr p 0 at g0
 have g1 := h0 1 (by simp)
 change eget env 1 = T s at g1
 clear h0
 simp [zZ1.c] at he
 obtain ⟨v, hp, hv⟩ := hw
 obtain ⟨out, why⟩ := q
 simp only at hp hv
 have hlt := (List.getElem?_eq_some_iff.1 hp).1
 have c0 := vZ5 hp
 by_cases h0 : why = 0
 ·subst h0
  obtain ⟨hB0, hB⟩ := hg.1 rfl
  simp only at hB0 hB hv hp
  subst hB0
  unfold maxS at hB
  obtain ⟨v1, o1, H1, a1, a2, a3, a4, a5⟩ := hv.app (by_ := 1) (es := s.map cB) (plainB s) (q := T s) (by simp only [elemsOf, T_bytes]) (by simp [roomB]; omega)
  rw [← List.map_append] at a2
  obtain ⟨v2, o2, H2, b1, b2, b3, b4, b5⟩ := a2.add (by_ := 1) (es := [cB 10]) (plainB [10]) (by simp [roomB]; omega)
  have hbs := bs1 H1 (.int .u8 0) (.int .u8 10) ⟨rfl, rfl⟩
  have e10 : (((10 : UInt8).toNat : Nat) : Int) = 10 := rfl
  simp only [cB, e10, List.length_cons, List.length_nil] at b1
  have hop : o ≠ some p := hv.ne hp fun _ _ _ _ h => by cases h
  have hop1 : o1 ≠ some p := fun e => by
   rcases a5 p e with h | h
   ·exact hop h
   ·omega
  have hop2 : o2 ≠ some p := fun e => by
   rcases b5 p e with h | h
   ·exact hop1 h
   ·omega
  have hp2 : H2[p]? = some (.cells [v, .int .i64 0]) := by rw [b4 p (by omega) hop1, a4 p hlt hop, hp]
  have s1 := vZo (off := 0) hp2 (by simp) b2.cell
  simp only [List.set_cons_zero] at s1
  obtain ⟨H3, hH3⟩ : ∃ H3, H3 = H2.set p (.cells [v2, .int .i64 0]) := ⟨_, rfl⟩
  rw [← hH3] at s1
  have hp3 : H3[p]? = some (.cells [v2, .int .i64 0]) := by rw [hH3, List.getElem?_set_self (by omega)]
  have hv3 : VL H3 1 v2 o2 ((out ++ (s ++ [10])).map cB) := by
   have := b2.mono (h' := H3) fun id hid => by rw [hH3, List.getElem?_set_ne (fun e => hop2 (by rw [hid, e]))]
   simpa [cB] using this
  have hch : Ch H H3 p o o2 := by
   refine ⟨by rw [hH3, List.length_set]; omega, fun j hj hjp hjo => ?_, fun id hid => ?_⟩
   ·rw [hH3, List.getElem?_set_ne (by omega), b4 j (by omega) (fun e => by
     rcases a5 j e with h | h
     ·exact hjo h
     ·omega), a4 j hj hjo]
   ·rcases b5 id hid with h | h
    ·rcases a5 id h with h | h
     ·exact .inl h
     ·exact .inr h
    ·right; omega
  have c3 := vZ5 hp3
  have hln := hv3.len H3
  rw [List.length_map] at hln
  by_cases hbig : 1048576 < (out ++ (s ++ [10])).length
  ·have hbig' : (1048576 : Int) < ((out ++ (s ++ [10])).length : Int) := by omega
   have s2 := vZo (off := 1) (x := .int .i64 4) hp3 (by simp) ⟨rfl, rfl⟩
   simp only [List.set_cons_succ, List.set_cons_zero] at s2
   have hf := hPi (.tup []) (H3.set p (.cells [v2, .int .i64 4])) ⟨(out ++ (s ++ [10]), 4), o2, ⟨v2, by rw [List.getElem?_set_self (by rw [hH3, List.length_set]; omega)], hv3.mono fun id hid => by rw [List.getElem?_set_ne (fun e => hop2 (by rw [hid, e]))]⟩, ⟨fun h => (by cases h), fun _ => ⟨rfl, hbig⟩⟩, by
    refine ⟨by rw [List.length_set]; exact hch.1, fun j hj hjp hjo => ?_, hch.2.2⟩
    rw [List.getElem?_set_ne (by omega)]
    exact hch.2.1 j hj hjp hjo⟩
   obtain ⟨N, hN⟩ : ∃ N, N = (out ++ (s ++ [10])).length := ⟨_, rfl⟩
   rw [← hN] at hln hbig'
   simp [zZ1.c, zZ1.r0, zZ1.r1, zZ1.r2, zZ1.r3, evNilchk, g0, g1, he, c0, a1, hbs, b1, s1, c3, hln, hbig', s2, hf]
  ·have hbig' : ¬ (1048576 : Int) < ((out ++ (s ++ [10])).length : Int) := by omega
   have hf := hPi (.tup []) H3 ⟨(out ++ (s ++ [10]), 0), o2, ⟨v2, hp3, hv3⟩, ⟨fun _ => ⟨rfl, by unfold maxS; omega⟩, fun h => absurd rfl h⟩, hch⟩
   obtain ⟨N, hN⟩ : ∃ N, N = (out ++ (s ++ [10])).length := ⟨_, rfl⟩
   rw [← hN] at hln hbig'
   simp [zZ1.c, zZ1.r0, zZ1.r1, zZ1.r2, zZ1.r3, evNilchk, g0, g1, he, c0, a1, hbs, b1, s1, c3, hln, hbig', hf]
 ·have hne : (why == 0) = false := by simpa using h0
  have hf := hPi (.tup []) H ⟨(out, why), o, ⟨v, hp, hv⟩, hg.more h0 _, .refl _ _ _⟩
  simp [zZ1.c, zZ1.r0, zZ1.r1, zZ1.r2, zZ1.r3, evNilchk, g0, g1, he, c0, hne, hf]
theorem lnB_take (l : List Cmd) {i : Nat} {c : Cmd} (h : l[i]? = some c) : lnB (l.take (i + 1)) = lnB (l.take i) ++ (lineB c ++ [10]) := by rw [List.take_add_one, h]; exact lnB_snoc _ _
theorem lnB_pre (l : List Cmd) (i : Nat) : ∃ C, lnB l = lnB (l.take i) ++ C := ⟨lnB (l.drop i), by
 unfold lnB
 rw [← List.flatMap_append, List.take_append_drop]⟩
theorem zYaZ (H : Heap) (p : Nat) (o : Option Nat) (q : Bs × Int) (B : Bs) (l : List Cmd) (hw : Wr H p o q) (hg : Good q B) (hl : l.length ≤ 2 ^ 40) (hz : ∀ c ∈ l, SzL c ∧ known c.op = true) : ∃ r h', callW Φ (.fn (.func zZy.k) [] []) [.ptr p 0, .arr (l.map cC)] H = some (r, h') ∧ (fun r H' => ∃ q' o', Wr H' p o' q' ∧ Good q' (B ++ lnB l) ∧ Ch H H' p o o') r h' := by
 obtain ⟨P, hP⟩ : ∃ P : V → Heap → Prop, P = fun r H' => ∃ q' o', Wr H' p o' q' ∧ Good q' (B ++ lnB l) ∧ Ch H H' p o o' := ⟨_, rfl⟩
 suffices hgo : ∃ r h', callW Φ (.fn (.func zZy.k) [] []) [.ptr p 0, .arr (l.map cC)] H = some (r, h') ∧ P r h' by rw [hP] at hgo; exact hgo
 have hPi : ∀ r h', (fun r H' => ∃ q' o', Wr H' p o' q' ∧ Good q' (B ++ lnB l) ∧ Ch H H' p o o') r h' → P r h' := fun r h' q => by rw [hP]; exact q
 clear hP
 refine kZY zZy.Φ rfl (Nat.le_of_ble_eq_true rfl) (fun env he h0 => ?_)
 have g0 := h0 0 (by simp)
 change eget env 0 = .ptr p 0 at g0
 have g1 := h0 1 (by simp)
 change eget env 1 = .arr (l.map cC) at g1
 clear h0
 simp [zZy.c] at he
 simp [zZy.c, zZy.r0, g0, g1, he]
 obtain ⟨I, hI⟩ : ∃ I : Nat → St → Prop, I = fun m st => ∃ (i : Nat) (q1 : Bs × Int) (o1 : Option Nat), m = l.length - i ∧ i ≤ l.length ∧ (eget st.env 0 = .ptr p 0 ∧ eget st.env 8 = .arr (l.map cC) ∧ eget st.env 9 = .int .i64 l.length ∧ eget st.env 10 = .int .i64 i ∧ st.env.length = 34) ∧ st.marks = [] ∧ Wr st.heap p o1 q1 ∧ Good q1 (B ++ lnB (l.take i)) ∧ Ch H st.heap p o o1 := ⟨_, rfl⟩
 refine kLoop I l.length (by rw [hI]; exact ⟨0, q, o, rfl, by omega, ⟨by simp [g0], by simp [he], by simp [he], by simp [he], by simpa using he⟩, rfl, hw, by simpa [lnB] using hg, .refl _ _ _⟩) ?_
 rintro m ⟨env, mk, Hh⟩ hst
 rw [hI] at hst
 obtain ⟨i, q1, o1, rfl, hi, ⟨k0, k8, k9, k10, hle⟩, hm, hw1, hg1, hc1⟩ := hst
 simp only at k0 k8 k9 k10 hle hm hw1 hg1 hc1
 obtain rfl := hm
 simp only [zZy.b9]
 by_cases c : i < l.length
 ·obtain ⟨d, hd⟩ : ∃ d, l[i]? = some d := ⟨_, List.getElem?_eq_getElem c⟩
  obtain ⟨zd, kd⟩ := hz d (List.mem_of_getElem? hd)
  have ia := zYbq (h := Hh) (k := .i64) hd
  have wr := wrap64 (n := (i : Int) + 1) (by omega) (by omega)
  obtain ⟨v, hp, hv⟩ := hw1
  have hpl := (List.getElem?_eq_some_iff.1 hp).1
  have hp1 : (Hh ++ [.cells (cC d)])[p]? = some (.cells [v, .int .i64 q1.2]) := by rw [List.getElem?_append_left hpl, hp]
  have hw2 : Wr (Hh ++ [.cells (cC d)]) p o1 q1 := Wr.push ⟨v, hp, hv⟩ _
  have hc2 := hc1.push [.cells (cC d)]
  have c0 := vZ5 hp1
  have hln := fun H => kZ5 d zd H
  have htk := lnB_take l hd
  by_cases h0 : q1.2 = 0
  ·have hne : (q1.2 != 0) = false := by simpa using h0
   by_cases h1 : (lineR d).2 = 0
   ·have hne1 : ((lineR d).2 != 0) = false := by simpa using h1
    have hl1 : (lineR d).1 = lineB d ∧ (lineB d).length ≤ maxS := by
     unfold lineR at h1 ⊢
     rw [kd] at h1 ⊢
     simp only [if_true] at h1 ⊢
     split at h1
     ·cases h1
     ·rename_i h; rw [if_neg h]; exact ⟨rfl, by omega⟩
    obtain ⟨r, H2, hcall, q2, o2, w2, g2, ch2⟩ := zYaU (Hh ++ [.cells (cC d)]) p o1 q1 (B ++ lnB (l.take i)) (lineR d).1 hw2 hg1 (by rw [hl1.1]; have := hl1.2; unfold maxS at this; omega)
    simp [zZy.b9, zZy.r1, zZy.r2, zZy.r3, zZy.r4, zZy.r5, zZy.r6, zZy.r7, zZy.r8, evNilchk, V.isCell, k0, k8, k9, k10, hle, c, ia, ok12, st12, cl12, c0, hne, hln, evExt, hne1, hcall, wr]
    refine ⟨l.length - (i + 1), by omega, ?_⟩
    rw [hI]
    refine ⟨i + 1, q2, o2, rfl, by omega, ⟨by simp [k0], by simp [k8], by simp [k9], by simp [hle], by simp [hle]⟩, rfl, w2, ?_, hc2.trans ch2⟩
    rw [htk, ← List.append_assoc, ← hl1.1]
    exact g2
   ·have hne1 : ((lineR d).2 != 0) = true := by simpa using h1
    have hl1 : (lineR d).2 = 4 ∧ maxS < (lineB d).length := by
     unfold lineR at h1 ⊢
     rw [kd] at h1 ⊢
     simp only [if_true] at h1 ⊢
     split at h1
     ·rename_i h; rw [if_pos h]; exact ⟨rfl, h⟩
     ·exact absurd rfl h1
    have s2 := vZo (off := 1) (x := .int .i64 (lineR d).2) hp1 (by simp) ⟨rfl, rfl⟩
    simp only [List.set_cons_succ, List.set_cons_zero] at s2
    have hop : o1 ≠ some p := hv.ne hp fun _ _ _ _ h => by cases h
    obtain ⟨C, hC⟩ := lnB_pre l (i + 1)
    have hf := hPi (.tup []) ((Hh ++ [Ob.cells (cC d)]).set p (.cells [v, .int .i64 (lineR d).2])) ⟨(q1.1, (lineR d).2), o1, ⟨v, by rw [List.getElem?_set_self (by simp; omega)], (hv.push _).mono fun id hid => by rw [List.getElem?_set_ne (fun e => hop (by rw [hid, e]))]⟩, ⟨fun h => absurd h h1, fun _ => ⟨hl1.1, by
      have := hl1.2
      rw [hC, htk]
      simp only [List.length_append]
      omega⟩⟩, by
     refine ⟨by rw [List.length_set]; exact hc2.1, fun j hj hjp hjo => ?_, hc2.2.2⟩
     rw [List.getElem?_set_ne (by omega)]
     exact hc2.2.1 j hj hjp hjo⟩
    simp [zZy.b9, zZy.r1, zZy.r2, zZy.r3, zZy.r4, zZy.r5, zZy.r6, zZy.r7, zZy.r8, evNilchk, V.isCell, k0, k8, k9, k10, hle, c, ia, ok12, st12, cl12, c0, hne, hln, evExt, hne1, s2, hf]
  ·have hne : (q1.2 != 0) = true := by simpa using h0
   obtain ⟨C, hC⟩ := lnB_pre l i
   have hf := hPi (.tup []) (Hh ++ [.cells (cC d)]) ⟨q1, o1, hw2, by rw [hC, ← List.append_assoc]; exact hg1.more h0 _, hc2⟩
   simp [zZy.b9, zZy.r1, zZy.r2, zZy.r3, zZy.r4, zZy.r5, zZy.r6, zZy.r7, zZy.r8, evNilchk, V.isCell, k0, k8, k9, k10, hle, c, ia, ok12, st12, cl12, c0, hne, hf]
 ·have hie : i = l.length := by omega
  rw [hie, List.take_length] at hg1
  have hf := hPi (.tup []) Hh ⟨q1, o1, hw1, hg1, hc1⟩
  simp [zZy.b9, zZy.r1, zZy.r2, zZy.r3, zZy.r4, zZy.r5, zZy.r6, zZy.r7, zZy.r8, evNilchk, zZy.c, zZy.r0, k0, k8, k9, k10, hle, c, hf]
open Go Go.Ev
theorem prB_take (l : List (List Cmd)) {i : Nat} {p : List Cmd} (h : l[i]? = some p) : (l.take (i + 1)).flatMap prB = (l.take i).flatMap prB ++ prB p := by rw [List.take_add_one, h]; simp
theorem allC_mem {s : Scr} {P : Cmd → Prop} (h : allC s P) {l : List Cmd} (hl : l ∈ s.cmds :: s.progs) : ∀ c ∈ l, P c := by
 rcases List.mem_cons.1 hl with rfl | hl
 ·exact h.1
 ·exact h.2 l hl
theorem len_mem {s : Scr} {l : List Cmd} (hl : l ∈ s.cmds :: s.progs) : l.length ≤ count s := by
 rcases List.mem_cons.1 hl with rfl | hl
 ·unfold count; omega
 ·exact len_in hl
theorem Ch.cells {H H' : Heap} {p : Nat} {o o' : Option Nat} (h : Ch H H' p o o') {j : Nat} {ob : Ob} (hj : H[j]? = some ob) (hp : j ≠ p) (ho : o ≠ some j) : H'[j]? = some ob := by
 rw [h.2.1 j (List.getElem?_eq_some_iff.1 hj).1 hp ho, hj]
theorem zYbi (s : Scr) (z : SzS s) (H : Heap) : callW Φ zZl [.agg (cS s)] H = some (.tup [T (printR s).1, .int .i64 (printR s).2], H) := by
 have : ∃ hh, evBodyW (callW Φ) zZl.c [.agg (cS s)] [] = some (.tup [T (printR s).1, .int .i64 (printR s).2], hh) := by
  refine wZg (Nat.le_of_ble_eq_true rfl) (fun env he h0 => ?_)
  have g0 := h0 0 (by simp)
  change eget env 0 = .agg (cS s) at g0
  clear h0
  simp [zZl.c] at he
  have hcc : (V.agg (cS s)).cells = cS s := rfl
  have b0 : evBox [] (cS s) = some (.ptr 0 0, [.cells (cS s)]) := jZU [] _ rfl
  have c0 : ∀ off, cellsAt [.cells (cS s)] (.ptr 0 off) = some ((cS s).drop off) := fun off => rfl
  have ok3 : ∀ H, okCells H (some 3) (some (cS s)) = some (.agg (cS s), H) := fun H => rfl
  have hct := zYbg s z
  have z3 := z.2.2
  by_cases d1 : 256 < s.progs.length
  ·have hres : printR s = ([], 3) := by unfold printR; rw [if_pos (.inl d1)]
   have d1' : (256 : Int) < (s.progs.length : Int) := by omega
   simp [zZl.c, zZl.r0, zZl.r1, zZl.r2, g0, he, hcc, b0, c0, d1, d1', evPick, hres]
  have d1' : ¬ (256 : Int) < (s.progs.length : Int) := by omega
  by_cases d2 : 8192 < count s
  ·have hres : printR s = ([], 3) := by unfold printR; rw [if_pos (.inr d2)]
   have d2' : (8192 : Int) < (count s : Int) := by omega
   simp [zZl.c, zZl.r0, zZl.r1, zZl.r2, g0, he, hcc, b0, c0, ok3, d1, d1', hct, d2, d2', evPick, hres]
  have d2' : ¬ (8192 : Int) < (count s : Int) := by omega
  have hP1 : printR s = if s.progs.all allK && allK s.cmds then (if (printB s).length > maxS then ([], 4) else (printB s, 0)) else ([], 23) := by unfold printR; rw [if_neg (by omega)]
  obtain ⟨L, hL⟩ : ∃ L, L = s.cmds :: s.progs := ⟨_, rfl⟩
  have hLl : L.length = s.progs.length + 1 := by rw [hL]; rfl
  have hbs := bs1 [.cells (cS s)] .nils (.arr (s.cmds.map cC)) ⟨rfl, rfl⟩
  have hv0 : VL [.cells (cS s), .row 1 [cP s.cmds] 0 true] 1 (.sl 1 0 0 1) (some 1) [cP s.cmds] := .inr ⟨1, 0, rfl, rfl, rfl, fun e he => by
   obtain rfl := List.mem_singleton.1 he
   exact ⟨rfl, rfl, rfl⟩⟩
  have hpl : plainR 1 (s.progs.map cP) := plainR.map (enc := cP) (fun _ => rfl) (fun _ => rfl) (fun _ => rfl) _
  obtain ⟨v1, o1, H1, a1, a2, a3, a4, a5⟩ := hv0.app (by_ := 24) hpl (q := .arr (s.progs.map cP)) rfl (by simp [roomB]; omega)
  have a2' : VL H1 1 v1 o1 (L.map cP) := by rw [hL]; exact a2
  have hH0 : H1[0]? = some (.cells (cS s)) := by rw [a4 0 (by simp) (by simp)]; rfl
  have ln1 := a2'.len H1
  rw [List.length_map] at ln1
  simp only [List.length_cons, List.length_nil, List.cons_append, List.nil_append] at hbs
  have c00 : ∀ (o : Ob) off, cellsAt [.cells (cS s), o] (.ptr 0 off) = some ((cS s).drop off) := fun o off => rfl
  simp [zZl.c, zZl.r0, zZl.r1, zZl.r3, g0, he, hcc, b0, c0, c00, ok3, d1, d1', hct, d2, d2', evPick, hbs, a1, ln1]
  obtain ⟨I, hI⟩ : ∃ I : Nat → St → Prop, I = fun m st => ∃ (i : Nat), m = L.length - i ∧ i ≤ L.length ∧ (eget st.env 1 = .ptr 0 0 ∧ eget st.env 23 = v1 ∧ eget st.env 24 = .int .i64 L.length ∧ eget st.env 25 = .int .i64 i ∧ st.env.length = 75) ∧ st.marks = [] ∧ st.heap = H1 ∧ (L.take i).all allK = true := ⟨_, rfl⟩
  refine kLoop I L.length (by rw [hI]; exact ⟨0, rfl, by omega, ⟨by simp [he], by simp [he], by simp [he], by simp [he], by simpa using he⟩, rfl, rfl, rfl⟩) ?_
  rintro m ⟨env, mk, Hh⟩ hst
  rw [hI] at hst
  obtain ⟨i, rfl, hi, ⟨k1, k23, k24, k25, hl⟩, hm, hh, hk⟩ := hst
  simp only at k1 k23 k24 k25 hl hm hh
  obtain rfl := hm
  obtain rfl := hh
  simp only [zZl.b9]
  have hall : (s.progs.all allK && allK s.cmds) = L.all allK := by rw [hL, List.all_cons, Bool.and_comm]
  by_cases c : i < L.length
  ·obtain ⟨l, hli⟩ : ∃ l, L[i]? = some l := ⟨_, List.getElem?_eq_getElem c⟩
   have hmem := List.mem_of_getElem? hli
   have hmem2 := hmem
   rw [hL] at hmem2
   obtain ⟨id, ep, ho, hia, hca⟩ := a2'.at (k := .i64) (n := (i : Int)) (by omega) (e := cP l) (by rw [Int.toNat_natCast, List.getElem?_map, hli]; rfl)
   have hca := hca 0
   rw [Int.toNat_natCast] at hia hca
   have hw := zYbv l (fun d hd => (allC_mem z.1 hmem2 d hd).1) (by have := len_mem hmem2; omega)
   have wr := wrap64 (n := (i : Int) + 1) (by omega) (by omega)
   cases hlk : allK l
   ·have hres : printR s = ([], 23) := by
     rw [hP1, hall, if_neg]
     simp only [List.all_eq_true]
     intro h
     have := h l hmem
     rw [hlk] at this
     cases this
    simp [zZl.r4, zZl.r5, zZl.r6, zZl.r7, zZl.c, k1, k23, k24, k25, hl, c, hia, hca, hw, hlk, hres]
   ·simp [zZl.r4, zZl.r5, zZl.r6, zZl.r8, k1, k23, k24, k25, hl, c, hia, hca, hw, hlk, wr]
    refine ⟨L.length - (i + 1), by omega, ?_⟩
    rw [hI]
    refine ⟨i + 1, rfl, by omega, ⟨by simp [k1], by simp [k23], by simp [k24], by simp [hl], by simp [hl]⟩, rfl, rfl, ?_⟩
    rw [List.take_add_one, hli, List.all_append, hk]
    simp [hlk]
  have hie : i = L.length := by omega
  rw [hie, List.take_length] at hk
  have hak : ∀ l ∈ L, allK l = true := List.all_eq_true.1 hk
  have hP2 : printR s = if (printB s).length > maxS then ([], 4) else (printB s, 0) := by rw [hP1, hall, if_pos hk]
  have hzk : ∀ l ∈ L, ∀ d ∈ l, SzL d ∧ known d.op = true := fun l hl d hd => by
   refine ⟨allC_mem z.1 (by rw [← hL]; exact hl) d hd, ?_⟩
   have := hak l hl
   unfold allK at this
   exact List.all_eq_true.1 this d hd
  clear hI hk hP1 hall
  obtain ⟨p, hp⟩ : ∃ p, p = Hh.length := ⟨_, rfl⟩
  have hH0' := (List.getElem?_eq_some_iff.1 hH0).1
  obtain ⟨H2, hH2⟩ : ∃ H2, H2 = Hh ++ [.cells [.nils, .int .i64 0]] := ⟨_, rfl⟩
  have hbd : evBuild Hh [.nils, .int .i64 0] [] = some (.agg [.nils, .int .i64 0], Hh) := rfl
  have hcg : (V.agg [.nils, .int .i64 0]).cells = [.nils, .int .i64 0] := rfl
  have hbx : evBox Hh [.nils, .int .i64 0] = some (.ptr p 0, H2) := by rw [hp, hH2]; exact jZU Hh _ rfl
  have w0 : Wr H2 p none ([], 0) := ⟨.nils, by rw [hH2, hp]; simp, VL.nil _ _⟩
  have ch0 : Ch H2 H2 p none none := .refl _ _ _
  have h20 : H2[0]? = some (.cells (cS s)) := by rw [hH2, List.getElem?_append_left hH0']; exact hH0
  have hp0 : 0 ≠ p := by omega
  have cc20 := vZ5 h20
  have hit := zYaG z.2.1
  have had := add_T (a := wFuel) (b := itoa s.fuel) (by have := kZ4 z.2.1; simp; omega)
  have hadT : binV .add (.str ⟨#[102, 117, 101, 108, 32]⟩) (T (itoa s.fuel)) = some (T (wFuel ++ itoa s.fuel)) := had
  obtain ⟨r3, H3, hcall3, q3, o3, w3, gd3, ch3⟩ := zYaU H2 p none ([], 0) [] (wFuel ++ itoa s.fuel) w0 ⟨fun _ => ⟨rfl, by simp⟩, fun h => absurd rfl h⟩ (by have := kZ4 z.2.1; simp; omega)
  rw [List.nil_append] at gd3
  obtain ⟨Fu, hFu⟩ : ∃ Fu, Fu = wFuel ++ itoa s.fuel := ⟨_, rfl⟩
  rw [← hFu] at hcall3 gd3 hadT
  have h30 := ch3.cells h20 hp0 (by simp)
  have cc30 := vZ5 h30
  have clm : ¬ (i : Int) < (L.length : Int) := by omega
  simp [zZl.r4, zZl.r10, zZl.r11, zZl.r12, k1, k23, k24, k25, hl, c, clm, hbd, hcg, hbx, cc20, hit, hadT, hcall3, cc30]
  obtain ⟨B1, hB1⟩ : ∃ B1, B1 = Fu ++ [10] := ⟨_, rfl⟩
  rw [← hB1] at gd3
  obtain ⟨J, hJ⟩ : ∃ J : Nat → St → Prop, J = fun m st => ∃ (i : Nat) (q : Bs × Int) (o : Option Nat), m = s.progs.length - i ∧ i ≤ s.progs.length ∧ (eget st.env 1 = .ptr 0 0 ∧ eget st.env 6 = .ptr p 0 ∧ eget st.env 41 = .arr (s.progs.map cP) ∧ eget st.env 42 = .int .i64 s.progs.length ∧ eget st.env 43 = .int .i64 i ∧ st.env.length = 75) ∧ st.marks = [] ∧ Wr st.heap p o q ∧ Good q (B1 ++ (s.progs.take i).flatMap prB) ∧ Ch H2 st.heap p none o := ⟨_, rfl⟩
  refine kLoop J s.progs.length (by rw [hJ]; exact ⟨0, q3, o3, rfl, by omega, ⟨by simp [k1], by simp [hl], by simp [hl], by simp [hl], by simp [hl], by simp [hl]⟩, rfl, w3, by simpa using gd3, ch3⟩) ?_
  clear k1 k23 k24 k25 hl w3 gd3 ch3 hcall3 h30 cc30 clm
  rintro m ⟨env, mk, H5⟩ hst
  rw [hJ] at hst
  obtain ⟨j, q, o, rfl, hj, ⟨k1, k6, k41, k42, k43, hl⟩, hm, w5, gd5, ch5⟩ := hst
  simp only at k1 k6 k41 k42 k43 hl hm w5 gd5 ch5
  obtain rfl := hm
  simp only [zZl.b19]
  by_cases cj : j < s.progs.length
  ·obtain ⟨l, hli⟩ : ∃ l, s.progs[j]? = some l := ⟨_, List.getElem?_eq_getElem cj⟩
   have hmem := List.mem_of_getElem? hli
   have ia := zYbs (h := H5) (k := .i64) hli
   have wr := wrap64 (n := (j : Int) + 1) (by omega) (by omega)
   obtain ⟨r6, H6, hcall6, q6, o6, w6, gd6, ch6⟩ := zYaU H5 p o q _ wProgram w5 gd5 (by simp)
   obtain ⟨r7, H7, hcall7, q7, o7, w7, gd7, ch7⟩ := zYaZ H6 p o6 q6 _ l w6 gd6 (by have := len_in hmem; omega) (hzk l (by rw [hL]; simp [hmem]))
   obtain ⟨r8, H8, hcall8, q8, o8, w8, gd8, ch8⟩ := zYaU H7 p o7 q7 _ wEnd w7 gd7 (by simp)
   have e6 : callW Φ zZ1 [.ptr p 0, .str ⟨#[112, 114, 111, 103, 114, 97, 109]⟩] H5 = some (r6, H6) := hcall6
   have e8 : callW Φ zZ1 [.ptr p 0, .str ⟨#[101, 110, 100]⟩] H7 = some (r8, H8) := hcall8
   simp [zZl.r13, zZl.r14, zZl.r15, zZl.r16, zZl.r17, zZl.r18, k1, k6, k41, k42, k43, hl, cj, ia, e6, hcall7, e8, wr]
   refine ⟨s.progs.length - (j + 1), by omega, ?_⟩
   rw [hJ]
   refine ⟨j + 1, q8, o8, rfl, by omega, ⟨by simp [k1], by simp [k6], by simp [k41], by simp [k42], by simp [hl], by simp [hl]⟩, rfl, w8, ?_, ((ch5.trans ch6).trans ch7).trans ch8⟩
   rw [prB_take _ hli]
   simpa [prB] using gd8
  have hje : j = s.progs.length := by omega
  rw [hje, List.take_length] at gd5
  obtain ⟨r6, H6, hcall6, q6, o6, w6, gd6, ch6⟩ := zYaU H5 p o q _ wMain w5 gd5 (by simp)
  have h60 := (ch5.trans ch6).cells h20 hp0 (by simp)
  have cc60 := vZ5 h60
  obtain ⟨r7, H7, hcall7, ⟨out, why⟩, o7, ⟨v7, w7, vl7⟩, gd7, ch7⟩ := zYaZ H6 p o6 q6 _ s.cmds w6 gd6 (by have := len_mem (s := s) (l := s.cmds) (by simp); omega) (hzk s.cmds (by rw [hL]; simp))
  have e6 : callW Φ zZ1 [.ptr p 0, .str ⟨#[109, 97, 105, 110]⟩] H5 = some (r6, H6) := hcall6
  have cc7 := vZ5 w7
  have hPB : B1 ++ s.progs.flatMap prB ++ (wMain ++ [10]) ++ lnB s.cmds = printB s := by rw [hB1, hFu]; simp [printB]
  rw [hPB] at gd7
  simp only at w7 vl7 cc7
  by_cases hw : why = 0
  ·subst hw
   obtain ⟨g1, g2⟩ := gd7.1 rfl
   simp only at g1
   have hres : printR s = (out, 0) := by rw [hP2, if_neg (by unfold maxS at g2 ⊢; omega), g1]
   have hcv := xZq vl7
   simp [zZl.c, zZl.r13, zZl.r20, zZl.r21, zZl.r22, zZl.r24, evNilchk, k1, k6, k41, k42, k43, hl, cj, e6, cc60, hcall7, cc7, hcv, hres]
  ·obtain ⟨g1, g2⟩ := gd7.2 hw
   simp only at g1
   have hres : printR s = ([], 4) := by rw [hP2, if_pos g2]
   subst g1
   simp [zZl.c, zZl.r13, zZl.r20, zZl.r21, zZl.r22, evNilchk, k1, k6, k41, k42, k43, hl, cj, e6, cc60, hcall7, cc7]
   refine kDraw1 zZl.r23.ord ?_
   simp [zZl.r23, evNilchk, k6, hl, cc7, hres]
 obtain ⟨h', hb⟩ := this
 exact qZ7 (h := H) zZl.Φ rfl (args := [.agg (cS s)]) rfl hb rfl
end Go.Proofs.Sc
