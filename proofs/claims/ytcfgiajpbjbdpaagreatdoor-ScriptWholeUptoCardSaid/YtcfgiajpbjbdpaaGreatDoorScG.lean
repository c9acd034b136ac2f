/- A command without the fields that its op has not: the book's. The ops' words, and which fields a command keeps: the law's walk. No conditions. -/
import Derived.Test.YtcfgiajpbjbdpaaGreatDoorScF
import Derived.Laws.RangeString
set_option maxHeartbeats 16000000
set_option maxRecDepth 100000
set_option linter.unusedVariables false
set_option linter.unusedSimpArgs false
set_option linter.unusedSectionVars false
namespace Go.Proofs.Sc
open Go Go.Ev
def vZ8 (c : Cmd) (pos : Nat) (v8 v9 v10 : V) (o8 o9 o10 : Option Nat) (env : List V) (H : Heap) : Prop := (env.length = 88 ∧ eget env 1 = .ptr 0 0 ∧ eget env 2 = .ptr 1 0 ∧ eget env 3 = .ptr 2 0 ∧ eget env 4 = T (flds c.op) ∧ eget env 5 = .int .i64 pos) ∧ (H[0]? = some (.cells (cC c)) ∧ H[1]? = some (.cells z12) ∧ H[2]? = some (.cells (cV (puts ((flds c.op).take pos) c { op := c.op }) v8 v9 v10))) ∧ Cm H v8 v9 v10 o8 o9 o10 (puts ((flds c.op).take pos) c { op := c.op })
def vZu (c : Cmd) (m : Nat) (s : St) : Prop := s.marks = [] ∧ ∃ pos v8 v9 v10 o8 o9 o10, m = (flds c.op).length - pos ∧ pos ≤ (flds c.op).length ∧ vZ8 c pos v8 v9 v10 o8 o9 o10 s.env s.heap
theorem jZB {c : Cmd} {pos : Nat} {m : Nat} (hp : pos < (flds c.op).length) (hm : m = (flds c.op).length - pos) {s : St} (hs : s.marks = []) (v8 v9 v10 : V) (o8 o9 o10 : Option Nat) (h : vZ8 c (pos + 1) v8 v9 v10 o8 o9 o10 s.env s.heap) : ∃ j, j < m ∧ vZu c j s :=
 ⟨(flds c.op).length - (pos + 1), by omega, hs, pos + 1, v8, v9, v10, o8, o9, o10, rfl, by omega, h⟩
theorem jZg {c : Cmd} (z : SzP c) {Q : Ex → St → Prop} {k : List It} {m : Nat} {s : St} (hI : vZu c m s)
  (hend : ∀ s v8 v9 v10 o8 o9 o10, s.marks = [] → eget s.env 2 = .ptr 1 0 → eget s.env 3 = .ptr 2 0 → s.env.length = 88 → s.heap[1]? = some (.cells z12) → s.heap[2]? = some (.cells (cV (plain c) v8 v9 v10)) → Cm s.heap v8 v9 v10 o8 o9 o10 (plain c) → WX (callW Φ) none Q 0 k s) :
  WK (callW Φ) none (fun e s' => match e with | .normal => ∃ j, j < m ∧ vZu c j s' | .exit i => WX (callW Φ) none Q i k s' | .ret => Q .ret s') [.c zZb.b31] s := by
 obtain ⟨env, mk, H⟩ := s
 obtain ⟨hm, pos, v8, v9, v10, o8, o9, o10, hmm, hp, ⟨e0, e1, e2, e3, e4, e5⟩, ⟨h0, h1, h2⟩, hc⟩ := hI
 simp only at hm e0 e1 e2 e3 e4 e5 h0 h1 h2  hc
 obtain rfl := hm
 obtain ⟨d, hd⟩ : ∃ d, d = puts ((flds c.op).take pos) c { op := c.op } := ⟨_, rfl⟩
 rw [← hd] at h2 hc
 have l0 := (List.getElem?_eq_some_iff.1 h0).1
 have l1 := (List.getElem?_eq_some_iff.1 h1).1
 have l2 := (List.getElem?_eq_some_iff.1 h2).1
 have nr : ∀ {cs : List V} z xs ep w, Ob.cells cs ≠ .row z xs ep w := fun _ _ _ _ h => by cases h
 have n82 := hc.d.ne h2 nr
 have n92 := hc.l.ne h2 nr
 have n02 := hc.k.ne h2 nr
 by_cases hp2 : pos < (flds c.op).length
 ·obtain ⟨r, hr⟩ : ∃ r, (flds c.op)[pos]? = some r := ⟨_, List.getElem?_eq_getElem hp2⟩
  have hmem := List.mem_of_getElem? hr
  have hsm := wZR hmem
  have htk : puts ((flds c.op).take (pos + 1)) c { op := c.op } = put r c d := by rw [List.take_add_one, hr, hd]; exact puts_snoc _ _ _ _
  have nxt : ∀ {s : St}, s.marks = [] → ∀ (v8 v9 v10 : V) (o8 o9 o10 : Option Nat), vZ8 c (pos + 1) v8 v9 v10 o8 o9 o10 s.env s.heap → ∃ j, j < m ∧ vZu c j s := fun hs v8 v9 v10 o8 o9 o10 h => jZB hp2 hmm hs v8 v9 v10 o8 o9 o10 h
  obtain ⟨H1, hH1⟩ : ∃ H1, H1 = H := ⟨_, rfl⟩
  have g0 := h0
  have g1 := h1
  have g2 := h2
  have hc1 := hc
  have lH1 : H1.length = H.length := by rw [hH1]
  rw [← hH1] at g0 g1 g2 hc1
  have ix := idx_T (h := H1) (k := .i64) (n := (pos : Int)) (by omega) (by simpa using hr)
  have hlt : (pos : Int) < (flds c.op).length := by omega
  have wr := wrap64 (n := (pos : Int) + 1) (by omega) (by have : (flds c.op).length < 10 := flds_len c.op; omega)
  have c0 := vZ5 g0
  have st : ∀ (off : Nat) (x : V), off < 12 → x.isCell = true ∧ x.cells = [x] → evStoreV H1 1 (.ptr 2 off) x = some (V.non, H1.set 2 (.cells ((cV d v8 v9 v10).set off x))) := fun off x ho hx => vZo g2 ho hx
  have fin : ∀ (cs : List V), (H1.set 2 (.cells cs))[0]? = some (.cells (cC c)) ∧ (H1.set 2 (.cells cs))[1]? = some (.cells z12) ∧ (H1.set 2 (.cells cs))[2]? = some (.cells cs) := fun cs =>
   ⟨by rw [List.getElem?_set_ne (by omega)]; exact g0, by rw [List.getElem?_set_ne (by omega)]; exact g1, by rw [List.getElem?_set_self (by omega)]⟩
  have fc : ∀ (cs : List V), Cm (H1.set 2 (.cells cs)) v8 v9 v10 o8 o9 o10 d := fun cs => hc1.mono fun id hid => by
   rw [List.getElem?_set_ne]
   rintro rfl
   rcases hid with h | h | h
   ·exact n82 h
   ·exact n92 h
   ·exact n02 h
  have hlet := (jZ6 c.op).2 r hmem
  simp only [letters, List.mem_cons, List.not_mem_nil, or_false] at hlet
  rcases hlet with rfl | rfl | rfl | rfl | rfl | rfl | rfl | rfl | rfl | rfl | rfl
  ·have s1 := st 1 (.int .i64 c.a) (by omega) ⟨rfl, rfl⟩
   simp [zZb.b31, zZb.r6, zZb.r7, zZb.r8, zZb.r9, zZb.r10, zZb.r11, zZb.r12, zZb.r13, zZb.r14, zZb.r15, zZb.r16, zZb.r17, zZb.r18, zZb.r19, zZb.r20, zZb.r21, zZb.r22, zZb.r23, zZb.r24, zZb.r25, zZb.r26, zZb.r27, zZb.r28, zZb.r29, zZb.r30, e0, e1, e2, e3, e4, e5, ix, wr, hp2, vZm, ← hH1, c0, s1]
   refine nxt rfl v8 v9 v10 o8 o9 o10 ⟨⟨by simp [e0], by simp [e1], by simp [e2], by simp [e3], by simp [e4], by simp [e0]⟩, ⟨(fin _).1, (fin _).2.1, by rw [htk]; exact (fin _).2.2⟩, ?_⟩
   rw [htk]
   exact ⟨(fc _).d, (fc _).l, (fc _).k, hc1.a1, hc1.a2, hc1.a3⟩
  ·have s1 := st 2 (.int .i64 c.b) (by omega) ⟨rfl, rfl⟩
   simp [zZb.b31, zZb.r6, zZb.r7, zZb.r8, zZb.r9, zZb.r10, zZb.r11, zZb.r12, zZb.r13, zZb.r14, zZb.r15, zZb.r16, zZb.r17, zZb.r18, zZb.r19, zZb.r20, zZb.r21, zZb.r22, zZb.r23, zZb.r24, zZb.r25, zZb.r26, zZb.r27, zZb.r28, zZb.r29, zZb.r30, e0, e1, e2, e3, e4, e5, ix, wr, hp2, vZm, ← hH1, c0, s1]
   refine nxt rfl v8 v9 v10 o8 o9 o10 ⟨⟨by simp [e0], by simp [e1], by simp [e2], by simp [e3], by simp [e4], by simp [e0]⟩, ⟨(fin _).1, (fin _).2.1, by rw [htk]; exact (fin _).2.2⟩, ?_⟩
   rw [htk]
   exact ⟨(fc _).d, (fc _).l, (fc _).k, hc1.a1, hc1.a2, hc1.a3⟩
  ·have s1 := st 3 (.int .i64 c.c) (by omega) ⟨rfl, rfl⟩
   simp [zZb.b31, zZb.r6, zZb.r7, zZb.r8, zZb.r9, zZb.r10, zZb.r11, zZb.r12, zZb.r13, zZb.r14, zZb.r15, zZb.r16, zZb.r17, zZb.r18, zZb.r19, zZb.r20, zZb.r21, zZb.r22, zZb.r23, zZb.r24, zZb.r25, zZb.r26, zZb.r27, zZb.r28, zZb.r29, zZb.r30, e0, e1, e2, e3, e4, e5, ix, wr, hp2, vZm, ← hH1, c0, s1]
   refine nxt rfl v8 v9 v10 o8 o9 o10 ⟨⟨by simp [e0], by simp [e1], by simp [e2], by simp [e3], by simp [e4], by simp [e0]⟩, ⟨(fin _).1, (fin _).2.1, by rw [htk]; exact (fin _).2.2⟩, ?_⟩
   rw [htk]
   exact ⟨(fc _).d, (fc _).l, (fc _).k, hc1.a1, hc1.a2, hc1.a3⟩
  ·have s1 := st 4 (.int .i64 c.n) (by omega) ⟨rfl, rfl⟩
   simp [zZb.b31, zZb.r6, zZb.r7, zZb.r8, zZb.r9, zZb.r10, zZb.r11, zZb.r12, zZb.r13, zZb.r14, zZb.r15, zZb.r16, zZb.r17, zZb.r18, zZb.r19, zZb.r20, zZb.r21, zZb.r22, zZb.r23, zZb.r24, zZb.r25, zZb.r26, zZb.r27, zZb.r28, zZb.r29, zZb.r30, e0, e1, e2, e3, e4, e5, ix, wr, hp2, vZm, ← hH1, c0, s1]
   refine nxt rfl v8 v9 v10 o8 o9 o10 ⟨⟨by simp [e0], by simp [e1], by simp [e2], by simp [e3], by simp [e4], by simp [e0]⟩, ⟨(fin _).1, (fin _).2.1, by rw [htk]; exact (fin _).2.2⟩, ?_⟩
   rw [htk]
   exact ⟨(fc _).d, (fc _).l, (fc _).k, hc1.a1, hc1.a2, hc1.a3⟩
  ·have s1 := st 5 (.int .i64 c.m) (by omega) ⟨rfl, rfl⟩
   simp [zZb.b31, zZb.r6, zZb.r7, zZb.r8, zZb.r9, zZb.r10, zZb.r11, zZb.r12, zZb.r13, zZb.r14, zZb.r15, zZb.r16, zZb.r17, zZb.r18, zZb.r19, zZb.r20, zZb.r21, zZb.r22, zZb.r23, zZb.r24, zZb.r25, zZb.r26, zZb.r27, zZb.r28, zZb.r29, zZb.r30, e0, e1, e2, e3, e4, e5, ix, wr, hp2, vZm, ← hH1, c0, s1]
   refine nxt rfl v8 v9 v10 o8 o9 o10 ⟨⟨by simp [e0], by simp [e1], by simp [e2], by simp [e3], by simp [e4], by simp [e0]⟩, ⟨(fin _).1, (fin _).2.1, by rw [htk]; exact (fin _).2.2⟩, ?_⟩
   rw [htk]
   exact ⟨(fc _).d, (fc _).l, (fc _).k, hc1.a1, hc1.a2, hc1.a3⟩
  ·have s1 := st 6 (T c.s) (by omega) ⟨rfl, rfl⟩
   simp [zZb.b31, zZb.r6, zZb.r7, zZb.r8, zZb.r9, zZb.r10, zZb.r11, zZb.r12, zZb.r13, zZb.r14, zZb.r15, zZb.r16, zZb.r17, zZb.r18, zZb.r19, zZb.r20, zZb.r21, zZb.r22, zZb.r23, zZb.r24, zZb.r25, zZb.r26, zZb.r27, zZb.r28, zZb.r29, zZb.r30, e0, e1, e2, e3, e4, e5, ix, wr, hp2, vZm, ← hH1, c0, s1]
   refine nxt rfl v8 v9 v10 o8 o9 o10 ⟨⟨by simp [e0], by simp [e1], by simp [e2], by simp [e3], by simp [e4], by simp [e0]⟩, ⟨(fin _).1, (fin _).2.1, by rw [htk]; exact (fin _).2.2⟩, ?_⟩
   rw [htk]
   exact ⟨(fc _).d, (fc _).l, (fc _).k, hc1.a1, hc1.a2, hc1.a3⟩
  ·have s1 := st 7 (T c.t) (by omega) ⟨rfl, rfl⟩
   simp [zZb.b31, zZb.r6, zZb.r7, zZb.r8, zZb.r9, zZb.r10, zZb.r11, zZb.r12, zZb.r13, zZb.r14, zZb.r15, zZb.r16, zZb.r17, zZb.r18, zZb.r19, zZb.r20, zZb.r21, zZb.r22, zZb.r23, zZb.r24, zZb.r25, zZb.r26, zZb.r27, zZb.r28, zZb.r29, zZb.r30, e0, e1, e2, e3, e4, e5, ix, wr, hp2, vZm, ← hH1, c0, s1]
   refine nxt rfl v8 v9 v10 o8 o9 o10 ⟨⟨by simp [e0], by simp [e1], by simp [e2], by simp [e3], by simp [e4], by simp [e0]⟩, ⟨(fin _).1, (fin _).2.1, by rw [htk]; exact (fin _).2.2⟩, ?_⟩
   rw [htk]
   exact ⟨(fc _).d, (fc _).l, (fc _).k, hc1.a1, hc1.a2, hc1.a3⟩
  ·obtain ⟨H1b, hH1b⟩ : ∃ H1b, H1b = H1 ++ [Ob.row 1 [] 0 true] := ⟨_, rfl⟩
   have hbs : evBslice H1 [.int .u16 0] 0 1 [] = some (.sl H1.length 0 0 0, H1b) := by rw [hH1b]; simp [evBslice, placeParts, chunks]
   have hv0 : VL H1b 1 (.sl H1.length 0 0 0) (some H1.length) [] := .inr ⟨H1.length, 0, rfl, rfl, by rw [hH1b]; simp, fun e he => by cases he⟩
   obtain ⟨v', o', H2, ha, hv, hl2, hrest, hnew⟩ := hv0.app (by_ := 2) (es := c.data.map cU) (plainU _) (q := .arr (c.data.map cU)) rfl (by simpa using z.2.1)
   have old : ∀ j, j < H1.length → H2[j]? = H1[j]? := fun j hj => by rw [hrest j (by rw [hH1b]; simp; omega) (by simp; omega), hH1b, List.getElem?_append_left hj]
   have hnew2 : ∀ id, o' = some id → H1.length ≤ id := fun id hid => (hnew id hid).elim (fun h => by cases h; exact Nat.le_refl _) (fun h => by rw [hH1b] at h; simp at h; omega)
   have c0b : ∀ off, cellsAt H1b (.ptr 0 off) = some ((cC c).drop off) := vZ5 (by rw [hH1b, List.getElem?_append_left (by omega)]; exact g0)
   simp only [List.nil_append] at hv
   have q0 : H2[0]? = some (.cells (cC c)) := by rw [old 0 (by omega)]; exact g0
   have q1 : H2[1]? = some (.cells z12) := by rw [old 1 (by omega)]; exact g1
   have q2 : H2[2]? = some (.cells (cV d v8 v9 v10)) := by rw [old 2 (by omega)]; exact g2
   have m2 := (List.getElem?_eq_some_iff.1 q2).1
   have s1 := vZo (off := 8) q2 (by simp) ⟨hv.cell.1, hv.cell.2⟩
   simp [zZb.b31, zZb.r6, zZb.r7, zZb.r8, zZb.r9, zZb.r10, zZb.r11, zZb.r12, zZb.r13, zZb.r14, zZb.r15, zZb.r16, zZb.r17, zZb.r18, zZb.r19, zZb.r20, zZb.r21, zZb.r22, zZb.r23, zZb.r24, zZb.r25, zZb.r26, zZb.r27, zZb.r28, zZb.r29, zZb.r30, e0, e1, e2, e3, e4, e5, ix, wr, hp2, vZm, ← hH1, c0, ha, s1, hbs, c0b]
   have keep : ∀ {o : Option Nat} {v : V} {xs : List (List V)}, SV H1 v o xs → o ≠ some 2 → ∀ cs, SV (H2.set 2 (.cells cs)) v o xs := fun {o v xs} h hn cs => h.mono fun id hid => by rw [List.getElem?_set_ne (fun e => hn (by rw [hid, e])), old id (h.lt hid)]
   have hv2 : ∀ cs, SV (H2.set 2 (.cells cs)) v' o' (c.data.map cU) := fun cs => .inr (hv.mono fun id hid => by rw [List.getElem?_set_ne (fun e => by have := hnew2 id hid; omega)])
   have ap : ∀ {o : Option Nat} {v : V} {xs : List (List V)}, SV H1 v o xs → Apart o' o := fun {o v xs} h id h1 h2 => by have := hnew2 id h1; have := h.lt h2; omega
   refine nxt rfl v' v9 v10 o' o9 o10 ⟨⟨by simp [e0], by simp [e1], by simp [e2], by simp [e3], by simp [e4], by simp [e0]⟩, ⟨by rw [List.getElem?_set_ne (by omega)]; exact q0, by rw [List.getElem?_set_ne (by omega)]; exact q1, by rw [htk, List.getElem?_set_self m2]; rfl⟩, ?_⟩
   rw [htk]
   exact ⟨hv2 _, keep hc1.l n92 _, keep hc1.k n02 _, ap hc1.l, ap hc1.k, hc1.a3⟩
  ·obtain ⟨H1b, hH1b⟩ : ∃ H1b, H1b = H1 ++ [Ob.row 1 [] 0 true] := ⟨_, rfl⟩
   have hbs : evBslice H1 [.int .i64 0] 0 1 [] = some (.sl H1.length 0 0 0, H1b) := by rw [hH1b]; simp [evBslice, placeParts, chunks]
   have hv0 : VL H1b 1 (.sl H1.length 0 0 0) (some H1.length) [] := .inr ⟨H1.length, 0, rfl, rfl, by rw [hH1b]; simp, fun e he => by cases he⟩
   obtain ⟨v', o', H2, ha, hv, hl2, hrest, hnew⟩ := hv0.app (by_ := 8) (es := c.list.map cI) (plainN _) (q := .arr (c.list.map cI)) rfl (by simpa using z.2.2.1)
   have old : ∀ j, j < H1.length → H2[j]? = H1[j]? := fun j hj => by rw [hrest j (by rw [hH1b]; simp; omega) (by simp; omega), hH1b, List.getElem?_append_left hj]
   have hnew2 : ∀ id, o' = some id → H1.length ≤ id := fun id hid => (hnew id hid).elim (fun h => by cases h; exact Nat.le_refl _) (fun h => by rw [hH1b] at h; simp at h; omega)
   have c0b : ∀ off, cellsAt H1b (.ptr 0 off) = some ((cC c).drop off) := vZ5 (by rw [hH1b, List.getElem?_append_left (by omega)]; exact g0)
   simp only [List.nil_append] at hv
   have q0 : H2[0]? = some (.cells (cC c)) := by rw [old 0 (by omega)]; exact g0
   have q1 : H2[1]? = some (.cells z12) := by rw [old 1 (by omega)]; exact g1
   have q2 : H2[2]? = some (.cells (cV d v8 v9 v10)) := by rw [old 2 (by omega)]; exact g2
   have m2 := (List.getElem?_eq_some_iff.1 q2).1
   have s1 := vZo (off := 9) q2 (by simp) ⟨hv.cell.1, hv.cell.2⟩
   simp [zZb.b31, zZb.r6, zZb.r7, zZb.r8, zZb.r9, zZb.r10, zZb.r11, zZb.r12, zZb.r13, zZb.r14, zZb.r15, zZb.r16, zZb.r17, zZb.r18, zZb.r19, zZb.r20, zZb.r21, zZb.r22, zZb.r23, zZb.r24, zZb.r25, zZb.r26, zZb.r27, zZb.r28, zZb.r29, zZb.r30, e0, e1, e2, e3, e4, e5, ix, wr, hp2, vZm, ← hH1, c0, ha, s1, hbs, c0b]
   have keep : ∀ {o : Option Nat} {v : V} {xs : List (List V)}, SV H1 v o xs → o ≠ some 2 → ∀ cs, SV (H2.set 2 (.cells cs)) v o xs := fun {o v xs} h hn cs => h.mono fun id hid => by rw [List.getElem?_set_ne (fun e => hn (by rw [hid, e])), old id (h.lt hid)]
   have hv2 : ∀ cs, SV (H2.set 2 (.cells cs)) v' o' (c.list.map cI) := fun cs => .inr (hv.mono fun id hid => by rw [List.getElem?_set_ne (fun e => by have := hnew2 id hid; omega)])
   have ap : ∀ {o : Option Nat} {v : V} {xs : List (List V)}, SV H1 v o xs → Apart o' o := fun {o v xs} h id h1 h2 => by have := hnew2 id h1; have := h.lt h2; omega
   refine nxt rfl v8 v' v10 o8 o' o10 ⟨⟨by simp [e0], by simp [e1], by simp [e2], by simp [e3], by simp [e4], by simp [e0]⟩, ⟨by rw [List.getElem?_set_ne (by omega)]; exact q0, by rw [List.getElem?_set_ne (by omega)]; exact q1, by rw [htk, List.getElem?_set_self m2]; rfl⟩, ?_⟩
   rw [htk]
   exact ⟨keep hc1.d n82 _, hv2 _, keep hc1.k n02 _, (ap hc1.d).symm, hc1.a2, ap hc1.k⟩
  ·obtain ⟨H1b, hH1b⟩ : ∃ H1b, H1b = H1 ++ [Ob.row 1 [] 0 true] := ⟨_, rfl⟩
   have hbs : evBslice H1 [.str ⟨#[]⟩] 0 1 [] = some (.sl H1.length 0 0 0, H1b) := by rw [hH1b]; simp [evBslice, placeParts, chunks]
   have hv0 : VL H1b 1 (.sl H1.length 0 0 0) (some H1.length) [] := .inr ⟨H1.length, 0, rfl, rfl, by rw [hH1b]; simp, fun e he => by cases he⟩
   obtain ⟨v', o', H2, ha, hv, hl2, hrest, hnew⟩ := hv0.app (by_ := 16) (es := c.names.map cT) (plainT _) (q := .arr (c.names.map cT)) rfl (by simpa using z.2.2.2)
   have old : ∀ j, j < H1.length → H2[j]? = H1[j]? := fun j hj => by rw [hrest j (by rw [hH1b]; simp; omega) (by simp; omega), hH1b, List.getElem?_append_left hj]
   have hnew2 : ∀ id, o' = some id → H1.length ≤ id := fun id hid => (hnew id hid).elim (fun h => by cases h; exact Nat.le_refl _) (fun h => by rw [hH1b] at h; simp at h; omega)
   have c0b : ∀ off, cellsAt H1b (.ptr 0 off) = some ((cC c).drop off) := vZ5 (by rw [hH1b, List.getElem?_append_left (by omega)]; exact g0)
   simp only [List.nil_append] at hv
   have q0 : H2[0]? = some (.cells (cC c)) := by rw [old 0 (by omega)]; exact g0
   have q1 : H2[1]? = some (.cells z12) := by rw [old 1 (by omega)]; exact g1
   have q2 : H2[2]? = some (.cells (cV d v8 v9 v10)) := by rw [old 2 (by omega)]; exact g2
   have m2 := (List.getElem?_eq_some_iff.1 q2).1
   have s1 := vZo (off := 10) q2 (by simp) ⟨hv.cell.1, hv.cell.2⟩
   simp [zZb.b31, zZb.r6, zZb.r7, zZb.r8, zZb.r9, zZb.r10, zZb.r11, zZb.r12, zZb.r13, zZb.r14, zZb.r15, zZb.r16, zZb.r17, zZb.r18, zZb.r19, zZb.r20, zZb.r21, zZb.r22, zZb.r23, zZb.r24, zZb.r25, zZb.r26, zZb.r27, zZb.r28, zZb.r29, zZb.r30, e0, e1, e2, e3, e4, e5, ix, wr, hp2, vZm, ← hH1, c0, ha, s1, hbs, c0b]
   have keep : ∀ {o : Option Nat} {v : V} {xs : List (List V)}, SV H1 v o xs → o ≠ some 2 → ∀ cs, SV (H2.set 2 (.cells cs)) v o xs := fun {o v xs} h hn cs => h.mono fun id hid => by rw [List.getElem?_set_ne (fun e => hn (by rw [hid, e])), old id (h.lt hid)]
   have hv2 : ∀ cs, SV (H2.set 2 (.cells cs)) v' o' (c.names.map cT) := fun cs => .inr (hv.mono fun id hid => by rw [List.getElem?_set_ne (fun e => by have := hnew2 id hid; omega)])
   have ap : ∀ {o : Option Nat} {v : V} {xs : List (List V)}, SV H1 v o xs → Apart o' o := fun {o v xs} h id h1 h2 => by have := hnew2 id h1; have := h.lt h2; omega
   refine nxt rfl v8 v9 v' o8 o9 o' ⟨⟨by simp [e0], by simp [e1], by simp [e2], by simp [e3], by simp [e4], by simp [e0]⟩, ⟨by rw [List.getElem?_set_ne (by omega)]; exact q0, by rw [List.getElem?_set_ne (by omega)]; exact q1, by rw [htk, List.getElem?_set_self m2]; rfl⟩, ?_⟩
   rw [htk]
   exact ⟨keep hc1.d n82 _, keep hc1.l n92 _, hv2 _, hc1.a1, (ap hc1.d).symm, (ap hc1.l).symm⟩
  ·have s1 := st 11 (.bool c.yes) (by omega) ⟨rfl, rfl⟩
   simp [zZb.b31, zZb.r6, zZb.r7, zZb.r8, zZb.r9, zZb.r10, zZb.r11, zZb.r12, zZb.r13, zZb.r14, zZb.r15, zZb.r16, zZb.r17, zZb.r18, zZb.r19, zZb.r20, zZb.r21, zZb.r22, zZb.r23, zZb.r24, zZb.r25, zZb.r26, zZb.r27, zZb.r28, zZb.r29, zZb.r30, e0, e1, e2, e3, e4, e5, ix, wr, hp2, vZm, ← hH1, c0, s1]
   refine nxt rfl v8 v9 v10 o8 o9 o10 ⟨⟨by simp [e0], by simp [e1], by simp [e2], by simp [e3], by simp [e4], by simp [e0]⟩, ⟨(fin _).1, (fin _).2.1, by rw [htk]; exact (fin _).2.2⟩, ?_⟩
   rw [htk]
   exact ⟨(fc _).d, (fc _).l, (fc _).k, hc1.a1, hc1.a2, hc1.a3⟩
 ·have hpe : pos = (flds c.op).length := by omega
  have hlt : ¬ (pos : Int) < (flds c.op).length := by omega
  have hpl : d = plain c := by rw [hd, hpe, List.take_length]; rfl
  rw [hpl] at h2 hc
  simp [zZb.b31, zZb.r6, zZb.r7, zZb.r8, zZb.r9, zZb.r10, zZb.r11, zZb.r12, zZb.r13, zZb.r14, zZb.r15, zZb.r16, zZb.r17, zZb.r18, zZb.r19, zZb.r20, zZb.r21, zZb.r22, zZb.r23, zZb.r24, zZb.r25, zZb.r26, zZb.r27, zZb.r28, zZb.r29, zZb.r30, e0, e1, e2, e3, e4, e5, hp2, vZm]
  exact hend _ v8 v9 v10 o8 o9 o10 rfl (by simp [e2]) (by simp [e3]) (by simp [e0]) h1 h2 hc
theorem jZC (c : Cmd) (z : SzP c) (H : Heap) : callW Φ zZb [.agg (cC c)] H = some (.agg (cC (plain c)), H) := by
 refine xZ5 zZb.Φ rfl (args := [.agg (cC c)]) rfl ?_
 obtain ⟨P, hP⟩ : ∃ P : V → Heap → Prop, P = fun r h2 => ∃ h3, fz fzDepth h2 r = some (.agg (cC (plain c)), h3) := ⟨_, rfl⟩
 suffices hgo : ∃ r h', evBodyW (callW Φ) zZb.c [.agg (cC c)] [] = some (r, h') ∧ P r h' by rw [hP] at hgo; exact hgo
 have hPz : ∀ r h2 h3, fz fzDepth h2 r = some (.agg (cC (plain c)), h3) → P r h2 := fun r h2 h3 hz => by rw [hP]; exact ⟨h3, hz⟩
 have hPn : ∀ r h2, flatN2 r = true → nz2 r = .agg (cC (plain c)) → P r h2 := fun r h2 h h1 => hPz r h2 h2 (by rw [← h1]; exact wZl h)
 clear hP
 refine xZ4 (Nat.le_of_ble_eq_true rfl) (fun env he h0 => ?_)
 have g0 := h0 0 (by simp)
 change eget env 0 = .agg (cC c) at g0
 clear h0
 simp [zZb.c] at he
 have hcc : (V.agg (cC c)).cells = cC c := rfl
 have b0 : evBox [] (cC c) = some (.ptr 0 0, [.cells (cC c)]) := jZU [] _ (by simp [V.isCell])
 have hf := jZf c.op z.1
 have hk := wZc c.op z.1
 have c0 : ∀ (H : Heap) off, cellsAt (.cells (cC c) :: H) (.ptr 0 off) = some ((cC c).drop off) := fun H off => rfl
 have st0 : ∀ ys, evStore [.cells (cC c), .cells z12, .cells z12] (.ptr 2 0) ys = (setRange z12 0 ys).map fun cs' => (V.non, [.cells (cC c), .cells z12, .cells cs']) := fun ys => by
  have := vZ1 [.cells (cC c), .cells z12] z12 ys 0
  simpa using this
 have sr : setRange z12 0 (cV { op := c.op } .nils .nils .nils) = some (cV { op := c.op } .nils .nils .nils) := rfl
 have hbd : ∀ H, evBuild H z12 [(0, 1, .int .u8 c.op)] = some (.agg (cV { op := c.op } .nils .nils .nils), H) := fun H => rfl
 have hcv : (V.agg (cV { op := c.op } .nils .nils .nils)).cells = cV { op := c.op } .nils .nils .nils := rfl
 have hce : (cV { op := c.op } .nils .nils .nils).all V.isCell = true := rfl
 have hsv : evStoreV [.cells (cC c), .cells z12, .cells z12] 12 (.ptr 2 0) (.agg (cV { op := c.op } .nils .nils .nils)) = some (V.non, [.cells (cC c), .cells z12, .cells (cV { op := c.op } .nils .nils .nils)]) := by
  unfold evStoreV
  rw [hcv, hce, st0, sr]
  rfl
 have hend : ∀ s v8 v9 v10 o8 o9 o10, s.marks = [] → eget s.env 2 = .ptr 1 0 → eget s.env 3 = .ptr 2 0 → s.env.length = 88 → s.heap[1]? = some (.cells z12) → s.heap[2]? = some (.cells (cV (plain c) v8 v9 v10)) → Cm s.heap v8 v9 v10 o8 o9 o10 (plain c) →
   WX (callW Φ) none (FinX [Rv.cell 2 (some 12)] P) 0 [.b 0, .c (xS zZb.r32 .ret)] s := by
  rintro ⟨env, mk, H⟩ v8 v9 v10 o8 o9 o10 hm e2 e3 hl h1 h2 hc
  simp only at hm e2 e3 hl h1 h2 hc
  obtain rfl := hm
  have l1 := (List.getElem?_eq_some_iff.1 h1).1
  have c2 := vZ5 h2 0
  have hcc : (V.agg (cV (plain c) v8 v9 v10)).cells = cV (plain c) v8 v9 v10 := rfl
  have hs : evStoreV H 12 (.ptr 1 0) (.agg (cV (plain c) v8 v9 v10)) = some (V.non, H.set 1 (.cells (cV (plain c) v8 v9 v10))) := by
   unfold evStoreV
   rw [hcc, hc.cells]
   simp [evStore, h1, setRange]
  have nr : ∀ {cs : List V} z xs ep w, Ob.cells cs ≠ .row z xs ep w := fun _ _ _ _ h => by cases h
  have n81 := hc.d.ne h1 nr
  have n91 := hc.l.ne h1 nr
  have n01 := hc.k.ne h1 nr
  have hc' : Cm (H.set 1 (.cells (cV (plain c) v8 v9 v10))) v8 v9 v10 o8 o9 o10 (plain c) := hc.mono fun id hid => by
   rw [List.getElem?_set_ne]
   rintro rfl
   rcases hid with h | h | h
   ·exact n81 h
   ·exact n91 h
   ·exact n01 h
  obtain ⟨H3, hz⟩ := hc'.fz 61
  have hPf := hPz _ _ _ hz
  have cl : cellsAt (H.set 1 (.cells (cV (plain c) v8 v9 v10))) (.ptr 1 0) = some (cV (plain c) v8 v9 v10) := by simp [cellsAt, l1]
  simp [zZb.c, zZb.r32, e2, e3, hl, c2, hs, cl, ofCells, hPf]
 cases hko : known c.op
 ·have hp0 : plain c = { op := c.op } := by
   have : flds c.op = [] := flds_unknown hko
   simp [plain, this, puts]
  have hz : fz fzDepth [.cells (cC c), .cells (cV { op := c.op } .nils .nils .nils), .cells (cV { op := c.op } .nils .nils .nils)] (.agg (cV { op := c.op } .nils .nils .nils)) = some (.agg (cC (plain c)), [.cells (cC c), .cells (cV { op := c.op } .nils .nils .nils), .cells (cV { op := c.op } .nils .nils .nils)]) := by rw [hp0]; rfl
  have hPf := hPz _ _ _ hz
  have hsv2 : evStoreV [.cells (cC c), .cells z12, .cells (cV { op := c.op } .nils .nils .nils)] 12 (.ptr 1 0) (.agg (cV { op := c.op } .nils .nils .nils)) = some (V.non, [.cells (cC c), .cells (cV { op := c.op } .nils .nils .nils), .cells (cV { op := c.op } .nils .nils .nils)]) := by
   unfold evStoreV
   rw [hcv, hce]
   simp [evStore, setRange]
  have cl2 : cellsAt [.cells (cC c), .cells z12, .cells (cV { op := c.op } .nils .nils .nils)] (.ptr 2 0) = some (cV { op := c.op } .nils .nils .nils) := rfl
  have cl1 : cellsAt [.cells (cC c), .cells (cV { op := c.op } .nils .nils .nils), .cells (cV { op := c.op } .nils .nils .nils)] (.ptr 1 0) = some (cV { op := c.op } .nils .nils .nils) := rfl
  simp [zZb.c, zZb.r0, zZb.r1, zZb.r2, zZb.r3, zZb.r4, zZb.r5, zZb.r32, g0, he, hcc, b0, c0, hbd, hsv, hk, hko, cl2, hsv2, cl1, ofCells, hPf]
 ·simp [zZb.c, zZb.r0, zZb.r1, zZb.r2, zZb.r4, zZb.r5, g0, he, hcc, b0, c0, hbd, hsv, hf, hk, hko]
  refine kLoop (fun m s => vZu c m s) (flds c.op).length ⟨rfl, 0, .nils, .nils, .nils, none, none, none, rfl, by omega, ⟨by simp [he], by simp [he], by simp [he], by simp [he], by simp [he], by simp [he]⟩, ⟨rfl, rfl, rfl⟩, ⟨.inr (VL.nil _ _), .inr (VL.nil _ _), .inr (VL.nil _ _), (fun id h => by cases h), (fun id h => by cases h), (fun id h => by cases h)⟩⟩ ?_
  intro m s hI
  exact jZg z hI hend
open Go Go.Ev
theorem WO_of_WK {call : CallF} {l : List Cp} {s : St} {R : St → Prop} (h : WK call none (fun e s' => e = .normal ∧ R s') [.o l] s) : ∃ s1, WO call l s (fun r => r = s1) ∧ R s1 := by
 simp only [WK] at h
 obtain ⟨s1, h1, _, h2⟩ := h
 exact ⟨s1, ⟨s1, h1, rfl⟩, h2⟩
theorem WO_eq {call : CallF} {a : List Cp} {s s1 : St} {Q : St → Prop} (h : WO call a s (fun r => r = s1)) (hq : Q s1) : WO call a s Q := by
 obtain ⟨_, h1, rfl⟩ := h
 exact ⟨_, h1, hq⟩
theorem kDrawW {call : CallF} {rnd : Option Nat} {Q : Ex → St → Prop} {s : St} {k : List It} {ops : List Cp} {af : List (List Nat)} {fl l : List Nat} {ls : List (List Nat)} (h : orders2 ops af ops.length (List.replicate ops.length false) = some (l :: ls))
  (hw : WK call none (fun e r => e = .normal ∧ (∀ l' ∈ ls, WK call none (fun e' r' => e' = .normal ∧ r' = r) [.o (l'.filterMap (ops[·]?))] s) ∧ WK call rnd Q k r) [.o (l.filterMap (ops[·]?))] s) : WK call rnd Q (.c (.draw ops af fl) :: k) s := by
 obtain ⟨s1, h1, h2, h3⟩ := WO_of_WK hw
 exact kDraw2 h (WO_eq h1 ⟨fun l' hl' => by
  obtain ⟨s2, h4, rfl⟩ := WO_of_WK (h2 l' hl')
  exact h4, h3⟩)
theorem eqc_bf {h : Heap} (x y : Bool) : evEqc h false (.leaf .b) (.bool x) (.bool y) = some (.bool (x == y), h) := by cases x <;> cases y <;> rfl
theorem puts_le (c : Cmd) : (plain c).data.length ≤ c.data.length ∧ (plain c).list.length ≤ c.list.length ∧ (plain c).names.length ≤ c.names.length := by
 rw [vZ0]
 simp only [keep]
 refine ⟨?_, ?_, ?_⟩ <;> split <;> simp
theorem SzP.szc {c : Cmd} (z : SzP c) : Szc c := by
 obtain ⟨h1, h2, h3, h4⟩ := z
 unfold roomB at *
 exact ⟨h1, by omega, by omega, by omega⟩
theorem SzP.plain {c : Cmd} (z : SzP c) : SzP (plain c) := by
 obtain ⟨h1, h2, h3, h4⟩ := z
 obtain ⟨p1, p2, p3⟩ := puts_le c
 refine ⟨by rw [jZM]; exact h1, ?_, ?_, ?_⟩
 ·exact Nat.le_trans (Nat.mul_le_mul_right _ p1) h2
 ·exact Nat.le_trans (Nat.mul_le_mul_right _ p2) h3
 ·exact Nat.le_trans (Nat.mul_le_mul_right _ p3) h4
theorem wZd (op : Nat) (w : Bs) (c : Cmd) (h : op < 256) (z : SzP c) (H : Heap) : callW Φ zZw [.int .u8 op, T w, .agg (cC c)] H = some (.bool true, H) := by
 have : ∃ hh, evBodyW (callW Φ) zZw.c [.int .u8 op, T w, .agg (cC c)] [] = some (.bool true, hh) := by
  have hf1 := jZE w
  have hf2 := kZn w
  have hw1 := jZF op h
  have hw2 := wZp op h
  have hp1 := jZm c z
  have hp2 := jZC c z
  have hs := kZo (plain c) (plain c) z.plain.szc z.plain.szc
  have hb := zYao
  have hcc : (V.agg (cC c)).cells = cC c := rfl
  have b0 : evBox [] (cC c) = some (.ptr 0 0, [.cells (cC c)]) := jZU [] _ (by simp [V.isCell])
  have c0 : cellsAt [.cells (cC c)] (.ptr 0 0) = some (cC c) := rfl
  have ok : ∀ H, okCells H (some 12) (some (cC c)) = some (.agg (cC c), H) := fun H => rfl
  have key : ∀ env : List V, env.length = 46 → eget env 0 = .int .u8 op → eget env 5 = .ptr 0 0 → eget env 7 = .int .u8 (find w) → eget env 8 = .bool (decide (find w ≠ 0)) → eget env 9 = .int .u8 (find w) → eget env 10 = .bool (decide (find w ≠ 0)) →
    WK (callW Φ) none (FinV [.tmp 6] (.bool true)) [It.c (.draw zZw.r3 [[], [0], [], [2, 1], [1, 3], [4, 3], [5], [5], [6, 7, 5], [5, 8], [9, 5], [10], [10], [11, 12, 10], [10, 13], [14, 10], [15], [16, 15, 15], [15], [18, 17, 15], [17, 19, 19, 15], [15, 20], [21, 20], [22, 22], [22, 23], [24, 23, 0, 1, 2, 3, 4, 5, 6, 7, 8, 9, 10, 11, 12, 13, 14, 15, 16, 17, 18, 19, 20, 21, 22, 23, 24]] [0, 2, 4, 5, 6, 7, 8, 9, 10, 11, 12, 14, 15, 21, 22, 24, 25]), It.c .ret] { env := env, marks := [], heap := [.cells (cC c)] } := by
   intro env he k0 k5 k7 k8 k9 k10
   refine kDrawW zZw.r3.ord ?_
   simp (config := { maxSteps := 5000000 }) [zZw.r3, List.filterMap_cons, k0, k5, k7, k8, k9, k10, he, hw1, hw2, hp1, hp2, hs, hb, c0, ok, evPick, T_beq, eqc_bf]
   repeat' apply And.intro
   all_goals
    simp only [xZ7, xZ2, List.cons_append, List.nil_append]
    exact xZ6 _ rfl rfl rfl rfl
  refine wZg (Nat.le_of_ble_eq_true rfl) (fun env he h0 => ?_)
  have g0 := h0 0 (by simp)
  change eget env 0 = .int .u8 op at g0
  have g1 := h0 1 (by simp)
  change eget env 1 = T w at g1
  have g2 := h0 2 (by simp)
  change eget env 2 = .agg (cC c) at g2
  clear h0
  simp [zZw.c] at he
  simp [zZw.c, zZw.r0, zZw.r1, zZw.r2, g0, g1, g2, he, hcc, b0, hf1, hf2, evExt, -FinV]
  exact key _ (by simp [he]) (by simp [g0]) (by simp [he]) (by simp [he]) (by simp [he]) (by simp [he]) (by simp [he])
 obtain ⟨h', hb⟩ := this
 exact qZ7 (h := H) zZw.Φ rfl (args := [.int .u8 op, T w, .agg (cC c)]) rfl hb rfl
end Go.Proofs.Sc
