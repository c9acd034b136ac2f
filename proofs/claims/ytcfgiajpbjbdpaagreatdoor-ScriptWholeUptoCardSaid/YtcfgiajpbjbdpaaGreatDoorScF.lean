/- A command without the fields that its op has not: the program's. No conditions. -/
import Derived.Test.YtcfgiajpbjbdpaaGreatDoorScE
import Derived.Laws.RangeString
set_option maxHeartbeats 16000000
set_option maxRecDepth 100000
set_option linter.unusedVariables false
set_option linter.unusedSimpArgs false
set_option linter.unusedSectionVars false
namespace Go.Proofs.Sc
open Go Go.Ev
def SzP (c : Cmd) : Prop := c.op < 256 ∧ c.data.length * 2 ≤ roomB ∧ c.list.length * 8 ≤ roomB ∧ c.names.length * 16 ≤ roomB
theorem plainU (l : List Nat) : plainR 1 (l.map cU) := plainR.map (enc := cU) (fun _ => rfl) (fun _ => rfl) (fun _ => rfl) l
theorem plainN (l : List Int) : plainR 1 (l.map cI) := plainR.map (enc := cI) (fun _ => rfl) (fun _ => rfl) (fun _ => rfl) l
theorem plainT (l : List Bs) : plainR 1 (l.map cT) := plainR.map (enc := cT) (fun _ => rfl) (fun _ => rfl) (fun _ => rfl) l
abbrev z12 : List V := [.int .u8 0, .int .i64 0, .int .i64 0, .int .i64 0, .int .i64 0, .int .i64 0, .str ⟨#[]⟩, .str ⟨#[]⟩, .nils, .nils, .nils, .bool false]
theorem puts_snoc (l : Bs) (r : UInt8) (c d : Cmd) : puts (l ++ [r]) c d = put r c (puts l c d) := by simp [puts]
theorem vZo {H : Heap} {id off : Nat} {cs : List V} {x : V} (h : H[id]? = some (.cells cs)) (ho : off < cs.length) (hx : x.isCell = true ∧ x.cells = [x]) : evStoreV H 1 (.ptr id off) x = some (V.non, H.set id (.cells (cs.set off x))) := by
 have : setRange cs off [x] = some (cs.set off x) := by
  unfold setRange
  rw [if_pos (by simp; omega), List.set_eq_take_append_cons_drop, if_pos ho]
  simp
 simp [evStoreV, hx.1, hx.2, evStore, h, this]
theorem vZ5 {H : Heap} {id : Nat} {cs : List V} (h : H[id]? = some (.cells cs)) (off : Nat) : cellsAt H (.ptr id off) = some (cs.drop off) := by simp [cellsAt, h]
theorem decode_byte {s : ByteArray} {p : Nat} {b : UInt8} (h : s[p]? = some b) (hb : b.toNat < 128) : Utf8.decode s p = (b.toNat, 1) := by
 obtain ⟨hp, he⟩ := getElem?_eq_some_iff.1 h
 rw [decode_ascii s p hp (by rw [he]; exact hb), he]
theorem nxt_byte {H : Heap} {id : Nat} {l : Bs} {pos : Nat} {b : UInt8} (h : H[id]? = some (.iter ⟨l.toArray⟩ pos)) (hb : l[pos]? = some b) (hs : b.toNat < 128) :
  evNxt H (.ptr id 0) = some (.tup [.bool true, .int .i64 pos, .int .i32 b.toNat], H.set id (.iter ⟨l.toArray⟩ (pos + 1))) := by
 have hp := (List.getElem?_eq_some_iff.1 hb).1
 have hg : (⟨l.toArray⟩ : ByteArray)[pos]? = some b := by rw [T_get]; exact hb
 have hd := decode_byte (s := ⟨l.toArray⟩) (p := pos) (b := b) hg hs
 simp [evNxt, h, vZm, hp, hd]
theorem nxt_end {H : Heap} {id : Nat} {l : Bs} (h : H[id]? = some (.iter ⟨l.toArray⟩ l.length)) : evNxt H (.ptr id 0) = some (.tup [.bool false], H) := by
 simp [evNxt, h, vZm]
theorem flds_len (op : Nat) : (flds op).length < 10 := by
 by_cases h : op < 45
 ·exact (show ∀ op : Fin 45, (flds op).length < 10 by decide) ⟨op, h⟩
 ·rw [(jZN h).2]; decide
theorem flds_unknown {op : Nat} (h : known op = false) : flds op = [] := by
 by_cases h0 : op = 0
 ·subst h0; rfl
 ·refine (jZN fun hl => ?_).2
  simp [known] at h
  omega
theorem wZR {op : Nat} {r : UInt8} (h : r ∈ flds op) : r.toNat < 128 := by
 have := (jZ6 op).2 r h
 simp only [letters, List.mem_cons, List.not_mem_nil, or_false] at this
 rcases this with rfl | rfl | rfl | rfl | rfl | rfl | rfl | rfl | rfl | rfl | rfl <;> decide
def vZU (c : Cmd) (pos : Nat) (v8 v9 v10 : V) (o8 o9 o10 : Option Nat) (env : List V) (H : Heap) : Prop := (env.length = 77 ∧ eget env 1 = .ptr 0 0 ∧ eget env 2 = .ptr 1 0 ∧ eget env 3 = .ptr 2 0 ∧ eget env 13 = .ptr 3 0) ∧ (H[0]? = some (.cells (cC c)) ∧ H[1]? = some (.cells z12) ∧ H[2]? = some (.cells (cV (puts ((flds c.op).take pos) c { op := c.op }) v8 v9 v10)) ∧ H[3]? = some (.iter ⟨(flds c.op).toArray⟩ pos)) ∧ Cm H v8 v9 v10 o8 o9 o10 (puts ((flds c.op).take pos) c { op := c.op })
def vZj (c : Cmd) (m : Nat) (s : St) : Prop := s.marks = [] ∧ ∃ pos v8 v9 v10 o8 o9 o10, m = (flds c.op).length - pos ∧ pos ≤ (flds c.op).length ∧ vZU c pos v8 v9 v10 o8 o9 o10 s.env s.heap
theorem jZl {c : Cmd} {pos : Nat} {m : Nat} (hp : pos < (flds c.op).length) (hm : m = (flds c.op).length - pos) {s : St} (hs : s.marks = []) (v8 v9 v10 : V) (o8 o9 o10 : Option Nat) (h : vZU c (pos + 1) v8 v9 v10 o8 o9 o10 s.env s.heap) : ∃ j, j < m ∧ vZj c j s :=
 ⟨(flds c.op).length - (pos + 1), by omega, hs, pos + 1, v8, v9, v10, o8, o9, o10, rfl, by omega, h⟩
theorem wZV {c : Cmd} (z : SzP c) {Q : Ex → St → Prop} {k : List It} {m : Nat} {s : St} (hI : vZj c m s)
  (hend : ∀ s v8 v9 v10 o8 o9 o10, s.marks = [] → eget s.env 2 = .ptr 1 0 → eget s.env 3 = .ptr 2 0 → s.env.length = 77 → s.heap[1]? = some (.cells z12) → s.heap[2]? = some (.cells (cV (plain c) v8 v9 v10)) → Cm s.heap v8 v9 v10 o8 o9 o10 (plain c) → WX (callW Φ) none Q 0 k s) :
  WK (callW Φ) none (fun e s' => match e with | .normal => ∃ j, j < m ∧ vZj c j s' | .exit i => WX (callW Φ) none Q i k s' | .ret => Q .ret s') [.c zZa.b28] s := by
 obtain ⟨env, mk, H⟩ := s
 obtain ⟨hm, pos, v8, v9, v10, o8, o9, o10, hmm, hp, ⟨e0, e1, e2, e3, e4⟩, ⟨h0, h1, h2, h3⟩, hc⟩ := hI
 simp only at hm e0 e1 e2 e3 e4 h0 h1 h2 h3 hc
 obtain rfl := hm
 obtain ⟨d, hd⟩ : ∃ d, d = puts ((flds c.op).take pos) c { op := c.op } := ⟨_, rfl⟩
 rw [← hd] at h2 hc
 have l0 := (List.getElem?_eq_some_iff.1 h0).1
 have l1 := (List.getElem?_eq_some_iff.1 h1).1
 have l2 := (List.getElem?_eq_some_iff.1 h2).1
 have l3 := (List.getElem?_eq_some_iff.1 h3).1
 have nr : ∀ {cs : List V} z xs ep w, Ob.cells cs ≠ .row z xs ep w := fun _ _ _ _ h => by cases h
 have n82 := hc.d.ne h2 nr
 have n92 := hc.l.ne h2 nr
 have n02 := hc.k.ne h2 nr
 have nr3 : ∀ {s : ByteArray} {p : Nat} z xs ep w, Ob.iter s p ≠ .row z xs ep w := fun _ _ _ _ h => by cases h
 have n83 := hc.d.ne h3 nr3
 have n93 := hc.l.ne h3 nr3
 have n03 := hc.k.ne h3 nr3
 by_cases hp2 : pos < (flds c.op).length
 ·obtain ⟨r, hr⟩ : ∃ r, (flds c.op)[pos]? = some r := ⟨_, List.getElem?_eq_getElem hp2⟩
  have hmem := List.mem_of_getElem? hr
  have hsm := wZR hmem
  have htk : puts ((flds c.op).take (pos + 1)) c { op := c.op } = put r c d := by rw [List.take_add_one, hr, hd]; exact puts_snoc _ _ _ _
  have nxt : ∀ {s : St}, s.marks = [] → ∀ (v8 v9 v10 : V) (o8 o9 o10 : Option Nat), vZU c (pos + 1) v8 v9 v10 o8 o9 o10 s.env s.heap → ∃ j, j < m ∧ vZj c j s := fun hs v8 v9 v10 o8 o9 o10 h => jZl hp2 hmm hs v8 v9 v10 o8 o9 o10 h
  obtain ⟨H1, hH1⟩ : ∃ H1, H1 = H.set 3 (.iter ⟨(flds c.op).toArray⟩ (pos + 1)) := ⟨_, rfl⟩
  have hn : evNxt H (.ptr 3 0) = some (.tup [.bool true, .int .i64 pos, .int .i32 r.toNat], H1) := by rw [hH1]; exact nxt_byte h3 hr hsm
  have g0 : H1[0]? = some (.cells (cC c)) := by rw [hH1, List.getElem?_set_ne (by omega)]; exact h0
  have g1 : H1[1]? = some (.cells z12) := by rw [hH1, List.getElem?_set_ne (by omega)]; exact h1
  have g2 : H1[2]? = some (.cells (cV d v8 v9 v10)) := by rw [hH1, List.getElem?_set_ne (by omega)]; exact h2
  have g3 : H1[3]? = some (.iter ⟨(flds c.op).toArray⟩ (pos + 1)) := by rw [hH1, List.getElem?_set_self l3]
  have hc1 : Cm H1 v8 v9 v10 o8 o9 o10 d := hc.mono fun id hid => by
   rw [hH1, List.getElem?_set_ne]
   rintro rfl
   rcases hid with h | h | h
   ·exact n83 h
   ·exact n93 h
   ·exact n03 h
  have lH1 : H1.length = H.length := by rw [hH1]; simp
  have c0 := vZ5 g0
  have st : ∀ (off : Nat) (x : V), off < 12 → x.isCell = true ∧ x.cells = [x] → evStoreV H1 1 (.ptr 2 off) x = some (V.non, H1.set 2 (.cells ((cV d v8 v9 v10).set off x))) := fun off x ho hx => vZo g2 ho hx
  have fin : ∀ (cs : List V), (H1.set 2 (.cells cs))[0]? = some (.cells (cC c)) ∧ (H1.set 2 (.cells cs))[1]? = some (.cells z12) ∧ (H1.set 2 (.cells cs))[2]? = some (.cells cs) ∧ (H1.set 2 (.cells cs))[3]? = some (.iter ⟨(flds c.op).toArray⟩ (pos + 1)) := fun cs =>
   ⟨by rw [List.getElem?_set_ne (by omega)]; exact g0, by rw [List.getElem?_set_ne (by omega)]; exact g1, by rw [List.getElem?_set_self (by omega)], by rw [List.getElem?_set_ne (by omega)]; exact g3⟩
  have fc : ∀ (cs : List V), Cm (H1.set 2 (.cells cs)) v8 v9 v10 o8 o9 o10 d := fun cs => hc1.mono fun id hid => by
   rw [List.getElem?_set_ne]
   rintro rfl
   rcases hid with h | h | h
   ·exact n82 h
   ·exact n92 h
   ·exact n02 h
  have hlet := (jZ6 c.op).2 r hmem
  simp only [letters, List.mem_cons, List.not_mem_nil, or_false] at hlet
  rcases hlet with rfl | rfl | rfl | rfl | rfl | rfl | rfl | rfl | rfl | rfl | rfl
  ·have s1 := st 1 (.int .i64 c.a) (by omega) ⟨rfl, rfl⟩
   simp [zZa.b28, zZa.r3, zZa.r4, zZa.r5, zZa.r6, zZa.r7, zZa.r8, zZa.r9, zZa.r10, zZa.r11, zZa.r12, zZa.r13, zZa.r14, zZa.r15, zZa.r16, zZa.r17, zZa.r18, zZa.r19, zZa.r20, zZa.r21, zZa.r22, zZa.r23, zZa.r24, zZa.r25, zZa.r26, zZa.r27, e0, e1, e2, e3, e4, hn, evExt, c0, s1]
   refine nxt rfl v8 v9 v10 o8 o9 o10 ⟨⟨by simp [e0], by simp [e1], by simp [e2], by simp [e3], by simp [e4]⟩, ⟨(fin _).1, (fin _).2.1, by rw [htk]; exact (fin _).2.2.1, (fin _).2.2.2⟩, ?_⟩
   rw [htk]
   exact ⟨(fc _).d, (fc _).l, (fc _).k, hc1.a1, hc1.a2, hc1.a3⟩
  ·have s1 := st 2 (.int .i64 c.b) (by omega) ⟨rfl, rfl⟩
   simp [zZa.b28, zZa.r3, zZa.r4, zZa.r5, zZa.r6, zZa.r7, zZa.r8, zZa.r9, zZa.r10, zZa.r11, zZa.r12, zZa.r13, zZa.r14, zZa.r15, zZa.r16, zZa.r17, zZa.r18, zZa.r19, zZa.r20, zZa.r21, zZa.r22, zZa.r23, zZa.r24, zZa.r25, zZa.r26, zZa.r27, e0, e1, e2, e3, e4, hn, evExt, c0, s1]
   refine nxt rfl v8 v9 v10 o8 o9 o10 ⟨⟨by simp [e0], by simp [e1], by simp [e2], by simp [e3], by simp [e4]⟩, ⟨(fin _).1, (fin _).2.1, by rw [htk]; exact (fin _).2.2.1, (fin _).2.2.2⟩, ?_⟩
   rw [htk]
   exact ⟨(fc _).d, (fc _).l, (fc _).k, hc1.a1, hc1.a2, hc1.a3⟩
  ·have s1 := st 3 (.int .i64 c.c) (by omega) ⟨rfl, rfl⟩
   simp [zZa.b28, zZa.r3, zZa.r4, zZa.r5, zZa.r6, zZa.r7, zZa.r8, zZa.r9, zZa.r10, zZa.r11, zZa.r12, zZa.r13, zZa.r14, zZa.r15, zZa.r16, zZa.r17, zZa.r18, zZa.r19, zZa.r20, zZa.r21, zZa.r22, zZa.r23, zZa.r24, zZa.r25, zZa.r26, zZa.r27, e0, e1, e2, e3, e4, hn, evExt, c0, s1]
   refine nxt rfl v8 v9 v10 o8 o9 o10 ⟨⟨by simp [e0], by simp [e1], by simp [e2], by simp [e3], by simp [e4]⟩, ⟨(fin _).1, (fin _).2.1, by rw [htk]; exact (fin _).2.2.1, (fin _).2.2.2⟩, ?_⟩
   rw [htk]
   exact ⟨(fc _).d, (fc _).l, (fc _).k, hc1.a1, hc1.a2, hc1.a3⟩
  ·have s1 := st 4 (.int .i64 c.n) (by omega) ⟨rfl, rfl⟩
   simp [zZa.b28, zZa.r3, zZa.r4, zZa.r5, zZa.r6, zZa.r7, zZa.r8, zZa.r9, zZa.r10, zZa.r11, zZa.r12, zZa.r13, zZa.r14, zZa.r15, zZa.r16, zZa.r17, zZa.r18, zZa.r19, zZa.r20, zZa.r21, zZa.r22, zZa.r23, zZa.r24, zZa.r25, zZa.r26, zZa.r27, e0, e1, e2, e3, e4, hn, evExt, c0, s1]
   refine nxt rfl v8 v9 v10 o8 o9 o10 ⟨⟨by simp [e0], by simp [e1], by simp [e2], by simp [e3], by simp [e4]⟩, ⟨(fin _).1, (fin _).2.1, by rw [htk]; exact (fin _).2.2.1, (fin _).2.2.2⟩, ?_⟩
   rw [htk]
   exact ⟨(fc _).d, (fc _).l, (fc _).k, hc1.a1, hc1.a2, hc1.a3⟩
  ·have s1 := st 5 (.int .i64 c.m) (by omega) ⟨rfl, rfl⟩
   simp [zZa.b28, zZa.r3, zZa.r4, zZa.r5, zZa.r6, zZa.r7, zZa.r8, zZa.r9, zZa.r10, zZa.r11, zZa.r12, zZa.r13, zZa.r14, zZa.r15, zZa.r16, zZa.r17, zZa.r18, zZa.r19, zZa.r20, zZa.r21, zZa.r22, zZa.r23, zZa.r24, zZa.r25, zZa.r26, zZa.r27, e0, e1, e2, e3, e4, hn, evExt, c0, s1]
   refine nxt rfl v8 v9 v10 o8 o9 o10 ⟨⟨by simp [e0], by simp [e1], by simp [e2], by simp [e3], by simp [e4]⟩, ⟨(fin _).1, (fin _).2.1, by rw [htk]; exact (fin _).2.2.1, (fin _).2.2.2⟩, ?_⟩
   rw [htk]
   exact ⟨(fc _).d, (fc _).l, (fc _).k, hc1.a1, hc1.a2, hc1.a3⟩
  ·have s1 := st 6 (T c.s) (by omega) ⟨rfl, rfl⟩
   simp [zZa.b28, zZa.r3, zZa.r4, zZa.r5, zZa.r6, zZa.r7, zZa.r8, zZa.r9, zZa.r10, zZa.r11, zZa.r12, zZa.r13, zZa.r14, zZa.r15, zZa.r16, zZa.r17, zZa.r18, zZa.r19, zZa.r20, zZa.r21, zZa.r22, zZa.r23, zZa.r24, zZa.r25, zZa.r26, zZa.r27, e0, e1, e2, e3, e4, hn, evExt, c0, s1]
   refine nxt rfl v8 v9 v10 o8 o9 o10 ⟨⟨by simp [e0], by simp [e1], by simp [e2], by simp [e3], by simp [e4]⟩, ⟨(fin _).1, (fin _).2.1, by rw [htk]; exact (fin _).2.2.1, (fin _).2.2.2⟩, ?_⟩
   rw [htk]
   exact ⟨(fc _).d, (fc _).l, (fc _).k, hc1.a1, hc1.a2, hc1.a3⟩
  ·have s1 := st 7 (T c.t) (by omega) ⟨rfl, rfl⟩
   simp [zZa.b28, zZa.r3, zZa.r4, zZa.r5, zZa.r6, zZa.r7, zZa.r8, zZa.r9, zZa.r10, zZa.r11, zZa.r12, zZa.r13, zZa.r14, zZa.r15, zZa.r16, zZa.r17, zZa.r18, zZa.r19, zZa.r20, zZa.r21, zZa.r22, zZa.r23, zZa.r24, zZa.r25, zZa.r26, zZa.r27, e0, e1, e2, e3, e4, hn, evExt, c0, s1]
   refine nxt rfl v8 v9 v10 o8 o9 o10 ⟨⟨by simp [e0], by simp [e1], by simp [e2], by simp [e3], by simp [e4]⟩, ⟨(fin _).1, (fin _).2.1, by rw [htk]; exact (fin _).2.2.1, (fin _).2.2.2⟩, ?_⟩
   rw [htk]
   exact ⟨(fc _).d, (fc _).l, (fc _).k, hc1.a1, hc1.a2, hc1.a3⟩
  ·obtain ⟨v', o', H2, ha, hv, hl2, hrest, hnew⟩ := (VL.nil H1 1).app (by_ := 2) (es := c.data.map cU) (plainU _) (q := .arr (c.data.map cU)) rfl (by simpa using z.2.1)
   have old : ∀ j, j < H1.length → H2[j]? = H1[j]? := fun j hj => hrest j hj (by simp)
   have hnew2 : ∀ id, o' = some id → H1.length ≤ id := fun id hid => (hnew id hid).elim (fun h => by cases h) (fun h => h)
   simp only [List.nil_append] at hv
   have q0 : H2[0]? = some (.cells (cC c)) := by rw [old 0 (by omega)]; exact g0
   have q1 : H2[1]? = some (.cells z12) := by rw [old 1 (by omega)]; exact g1
   have q2 : H2[2]? = some (.cells (cV d v8 v9 v10)) := by rw [old 2 (by omega)]; exact g2
   have q3 : H2[3]? = some (.iter ⟨(flds c.op).toArray⟩ (pos + 1)) := by rw [old 3 (by omega)]; exact g3
   have m2 := (List.getElem?_eq_some_iff.1 q2).1
   have s1 := vZo (off := 8) q2 (by simp) ⟨hv.cell.1, hv.cell.2⟩
   simp [zZa.b28, zZa.r3, zZa.r4, zZa.r5, zZa.r6, zZa.r7, zZa.r8, zZa.r9, zZa.r10, zZa.r11, zZa.r12, zZa.r13, zZa.r14, zZa.r15, zZa.r16, zZa.r17, zZa.r18, zZa.r19, zZa.r20, zZa.r21, zZa.r22, zZa.r23, zZa.r24, zZa.r25, zZa.r26, zZa.r27, e0, e1, e2, e3, e4, hn, evExt, c0, ha, s1]
   have keep : ∀ {o : Option Nat} {v : V} {xs : List (List V)}, SV H1 v o xs → o ≠ some 2 → ∀ cs, SV (H2.set 2 (.cells cs)) v o xs := fun {o v xs} h hn cs => h.mono fun id hid => by rw [List.getElem?_set_ne (fun e => hn (by rw [hid, e])), old id (h.lt hid)]
   have hv2 : ∀ cs, SV (H2.set 2 (.cells cs)) v' o' (c.data.map cU) := fun cs => .inr (hv.mono fun id hid => by rw [List.getElem?_set_ne (fun e => by have := hnew2 id hid; omega)])
   have ap : ∀ {o : Option Nat} {v : V} {xs : List (List V)}, SV H1 v o xs → Apart o' o := fun {o v xs} h id h1 h2 => by have := hnew2 id h1; have := h.lt h2; omega
   refine nxt rfl v' v9 v10 o' o9 o10 ⟨⟨by simp [e0], by simp [e1], by simp [e2], by simp [e3], by simp [e4]⟩, ⟨by rw [List.getElem?_set_ne (by omega)]; exact q0, by rw [List.getElem?_set_ne (by omega)]; exact q1, by rw [htk, List.getElem?_set_self m2]; rfl, by rw [List.getElem?_set_ne (by omega)]; exact q3⟩, ?_⟩
   rw [htk]
   exact ⟨hv2 _, keep hc1.l n92 _, keep hc1.k n02 _, ap hc1.l, ap hc1.k, hc1.a3⟩
  ·obtain ⟨v', o', H2, ha, hv, hl2, hrest, hnew⟩ := (VL.nil H1 1).app (by_ := 8) (es := c.list.map cI) (plainN _) (q := .arr (c.list.map cI)) rfl (by simpa using z.2.2.1)
   have old : ∀ j, j < H1.length → H2[j]? = H1[j]? := fun j hj => hrest j hj (by simp)
   have hnew2 : ∀ id, o' = some id → H1.length ≤ id := fun id hid => (hnew id hid).elim (fun h => by cases h) (fun h => h)
   simp only [List.nil_append] at hv
   have q0 : H2[0]? = some (.cells (cC c)) := by rw [old 0 (by omega)]; exact g0
   have q1 : H2[1]? = some (.cells z12) := by rw [old 1 (by omega)]; exact g1
   have q2 : H2[2]? = some (.cells (cV d v8 v9 v10)) := by rw [old 2 (by omega)]; exact g2
   have q3 : H2[3]? = some (.iter ⟨(flds c.op).toArray⟩ (pos + 1)) := by rw [old 3 (by omega)]; exact g3
   have m2 := (List.getElem?_eq_some_iff.1 q2).1
   have s1 := vZo (off := 9) q2 (by simp) ⟨hv.cell.1, hv.cell.2⟩
   simp [zZa.b28, zZa.r3, zZa.r4, zZa.r5, zZa.r6, zZa.r7, zZa.r8, zZa.r9, zZa.r10, zZa.r11, zZa.r12, zZa.r13, zZa.r14, zZa.r15, zZa.r16, zZa.r17, zZa.r18, zZa.r19, zZa.r20, zZa.r21, zZa.r22, zZa.r23, zZa.r24, zZa.r25, zZa.r26, zZa.r27, e0, e1, e2, e3, e4, hn, evExt, c0, ha, s1]
   have keep : ∀ {o : Option Nat} {v : V} {xs : List (List V)}, SV H1 v o xs → o ≠ some 2 → ∀ cs, SV (H2.set 2 (.cells cs)) v o xs := fun {o v xs} h hn cs => h.mono fun id hid => by rw [List.getElem?_set_ne (fun e => hn (by rw [hid, e])), old id (h.lt hid)]
   have hv2 : ∀ cs, SV (H2.set 2 (.cells cs)) v' o' (c.list.map cI) := fun cs => .inr (hv.mono fun id hid => by rw [List.getElem?_set_ne (fun e => by have := hnew2 id hid; omega)])
   have ap : ∀ {o : Option Nat} {v : V} {xs : List (List V)}, SV H1 v o xs → Apart o' o := fun {o v xs} h id h1 h2 => by have := hnew2 id h1; have := h.lt h2; omega
   refine nxt rfl v8 v' v10 o8 o' o10 ⟨⟨by simp [e0], by simp [e1], by simp [e2], by simp [e3], by simp [e4]⟩, ⟨by rw [List.getElem?_set_ne (by omega)]; exact q0, by rw [List.getElem?_set_ne (by omega)]; exact q1, by rw [htk, List.getElem?_set_self m2]; rfl, by rw [List.getElem?_set_ne (by omega)]; exact q3⟩, ?_⟩
   rw [htk]
   exact ⟨keep hc1.d n82 _, hv2 _, keep hc1.k n02 _, (ap hc1.d).symm, hc1.a2, ap hc1.k⟩
  ·obtain ⟨v', o', H2, ha, hv, hl2, hrest, hnew⟩ := (VL.nil H1 1).app (by_ := 16) (es := c.names.map cT) (plainT _) (q := .arr (c.names.map cT)) rfl (by simpa using z.2.2.2)
   have old : ∀ j, j < H1.length → H2[j]? = H1[j]? := fun j hj => hrest j hj (by simp)
   have hnew2 : ∀ id, o' = some id → H1.length ≤ id := fun id hid => (hnew id hid).elim (fun h => by cases h) (fun h => h)
   simp only [List.nil_append] at hv
   have q0 : H2[0]? = some (.cells (cC c)) := by rw [old 0 (by omega)]; exact g0
   have q1 : H2[1]? = some (.cells z12) := by rw [old 1 (by omega)]; exact g1
   have q2 : H2[2]? = some (.cells (cV d v8 v9 v10)) := by rw [old 2 (by omega)]; exact g2
   have q3 : H2[3]? = some (.iter ⟨(flds c.op).toArray⟩ (pos + 1)) := by rw [old 3 (by omega)]; exact g3
   have m2 := (List.getElem?_eq_some_iff.1 q2).1
   have s1 := vZo (off := 10) q2 (by simp) ⟨hv.cell.1, hv.cell.2⟩
   simp [zZa.b28, zZa.r3, zZa.r4, zZa.r5, zZa.r6, zZa.r7, zZa.r8, zZa.r9, zZa.r10, zZa.r11, zZa.r12, zZa.r13, zZa.r14, zZa.r15, zZa.r16, zZa.r17, zZa.r18, zZa.r19, zZa.r20, zZa.r21, zZa.r22, zZa.r23, zZa.r24, zZa.r25, zZa.r26, zZa.r27, e0, e1, e2, e3, e4, hn, evExt, c0, ha, s1]
   have keep : ∀ {o : Option Nat} {v : V} {xs : List (List V)}, SV H1 v o xs → o ≠ some 2 → ∀ cs, SV (H2.set 2 (.cells cs)) v o xs := fun {o v xs} h hn cs => h.mono fun id hid => by rw [List.getElem?_set_ne (fun e => hn (by rw [hid, e])), old id (h.lt hid)]
   have hv2 : ∀ cs, SV (H2.set 2 (.cells cs)) v' o' (c.names.map cT) := fun cs => .inr (hv.mono fun id hid => by rw [List.getElem?_set_ne (fun e => by have := hnew2 id hid; omega)])
   have ap : ∀ {o : Option Nat} {v : V} {xs : List (List V)}, SV H1 v o xs → Apart o' o := fun {o v xs} h id h1 h2 => by have := hnew2 id h1; have := h.lt h2; omega
   refine nxt rfl v8 v9 v' o8 o9 o' ⟨⟨by simp [e0], by simp [e1], by simp [e2], by simp [e3], by simp [e4]⟩, ⟨by rw [List.getElem?_set_ne (by omega)]; exact q0, by rw [List.getElem?_set_ne (by omega)]; exact q1, by rw [htk, List.getElem?_set_self m2]; rfl, by rw [List.getElem?_set_ne (by omega)]; exact q3⟩, ?_⟩
   rw [htk]
   exact ⟨keep hc1.d n82 _, keep hc1.l n92 _, hv2 _, hc1.a1, (ap hc1.d).symm, (ap hc1.l).symm⟩
  ·have s1 := st 11 (.bool c.yes) (by omega) ⟨rfl, rfl⟩
   simp [zZa.b28, zZa.r3, zZa.r4, zZa.r5, zZa.r6, zZa.r7, zZa.r8, zZa.r9, zZa.r10, zZa.r11, zZa.r12, zZa.r13, zZa.r14, zZa.r15, zZa.r16, zZa.r17, zZa.r18, zZa.r19, zZa.r20, zZa.r21, zZa.r22, zZa.r23, zZa.r24, zZa.r25, zZa.r26, zZa.r27, e0, e1, e2, e3, e4, hn, evExt, c0, s1]
   refine nxt rfl v8 v9 v10 o8 o9 o10 ⟨⟨by simp [e0], by simp [e1], by simp [e2], by simp [e3], by simp [e4]⟩, ⟨(fin _).1, (fin _).2.1, by rw [htk]; exact (fin _).2.2.1, (fin _).2.2.2⟩, ?_⟩
   rw [htk]
   exact ⟨(fc _).d, (fc _).l, (fc _).k, hc1.a1, hc1.a2, hc1.a3⟩
 ·have hpe : pos = (flds c.op).length := by omega
  have hn : evNxt H (.ptr 3 0) = some (.tup [.bool false], H) := by rw [hpe] at h3; exact nxt_end h3
  have hpl : d = plain c := by rw [hd, hpe, List.take_length]; rfl
  rw [hpl] at h2 hc
  simp [zZa.b28, zZa.r3, zZa.r4, zZa.r5, zZa.r6, zZa.r7, zZa.r8, zZa.r9, zZa.r10, zZa.r11, zZa.r12, zZa.r13, zZa.r14, zZa.r15, zZa.r16, zZa.r17, zZa.r18, zZa.r19, zZa.r20, zZa.r21, zZa.r22, zZa.r23, zZa.r24, zZa.r25, zZa.r26, zZa.r27, e0, e1, e2, e3, e4, hn, evExt]
  exact hend _ v8 v9 v10 o8 o9 o10 rfl (by simp [e2]) (by simp [e3]) (by simp [e0]) h1 h2 hc
theorem jZm (c : Cmd) (z : SzP c) (H : Heap) : callW Φ zZa [.agg (cC c)] H = some (.agg (cC (plain c)), H) := by
 refine xZ5 zZa.Φ rfl (args := [.agg (cC c)]) rfl ?_
 obtain ⟨P, hP⟩ : ∃ P : V → Heap → Prop, P = fun r h2 => ∃ h3, fz fzDepth h2 r = some (.agg (cC (plain c)), h3) := ⟨_, rfl⟩
 suffices hgo : ∃ r h', evBodyW (callW Φ) zZa.c [.agg (cC c)] [] = some (r, h') ∧ P r h' by rw [hP] at hgo; exact hgo
 have hPz : ∀ r h2 h3, fz fzDepth h2 r = some (.agg (cC (plain c)), h3) → P r h2 := fun r h2 h3 hz => by rw [hP]; exact ⟨h3, hz⟩
 have hPn : ∀ r h2, flatN2 r = true → nz2 r = .agg (cC (plain c)) → P r h2 := fun r h2 h h1 => hPz r h2 h2 (by rw [← h1]; exact wZl h)
 clear hP
 refine xZ4 (Nat.le_of_ble_eq_true rfl) (fun env he h0 => ?_)
 have g0 := h0 0 (by simp)
 change eget env 0 = .agg (cC c) at g0
 clear h0
 simp [zZa.c] at he
 have hcc : (V.agg (cC c)).cells = cC c := rfl
 have b0 : evBox [] (cC c) = some (.ptr 0 0, [.cells (cC c)]) := jZU [] _ (by simp [V.isCell])
 have hf := wZz c.op z.1
 have c0 : ∀ (H : Heap) off, cellsAt (.cells (cC c) :: H) (.ptr 0 off) = some ((cC c).drop off) := fun H off => rfl
 have st0 : ∀ ys, evStore [.cells (cC c), .cells z12, .cells z12] (.ptr 2 0) ys = (setRange z12 0 ys).map fun cs' => (V.non, [.cells (cC c), .cells z12, .cells cs']) := fun ys => by
  have := vZ1 [.cells (cC c), .cells z12] z12 ys 0
  simpa using this
 have sr : setRange z12 0 (cV { op := c.op } .nils .nils .nils) = some (cV { op := c.op } .nils .nils .nils) := rfl
 have hbd : ∀ H, evBuild H z12 [(0, 1, .int .u8 c.op)] = some (.agg (cV { op := c.op } .nils .nils .nils), H) := fun H => rfl
 have hcv : (V.agg (cV { op := c.op } .nils .nils .nils)).cells = cV { op := c.op } .nils .nils .nils := rfl
 have hce : (cV { op := c.op } .nils .nils .nils).all V.isCell = true := rfl
 have hsv : evStoreV [.cells (cC c), .cells z12, .cells z12] 12 (.ptr 2 0) (.agg (cV { op := c.op } .nils .nils .nils)) = some (V.non, [.cells (cC c), .cells z12, .cells (cV { op := c.op } .nils .nils .nils)]) := by
  unfold evStoreV
  rw [hcv, hce, st0, sr]
  rfl
 have hend : ∀ s v8 v9 v10 o8 o9 o10, s.marks = [] → eget s.env 2 = .ptr 1 0 → eget s.env 3 = .ptr 2 0 → s.env.length = 77 → s.heap[1]? = some (.cells z12) → s.heap[2]? = some (.cells (cV (plain c) v8 v9 v10)) → Cm s.heap v8 v9 v10 o8 o9 o10 (plain c) →
   WX (callW Φ) none (FinX [Rv.cell 2 (some 12)] P) 0 [.b 0, .c (xS zZa.r29 .ret)] s := by
  rintro ⟨env, mk, H⟩ v8 v9 v10 o8 o9 o10 hm e2 e3 hl h1 h2 hc
  simp only at hm e2 e3 hl h1 h2 hc
  obtain rfl := hm
  have l1 := (List.getElem?_eq_some_iff.1 h1).1
  have c2 := vZ5 h2 0
  have hcc : (V.agg (cV (plain c) v8 v9 v10)).cells = cV (plain c) v8 v9 v10 := rfl
  have hs : evStoreV H 12 (.ptr 1 0) (.agg (cV (plain c) v8 v9 v10)) = some (V.non, H.set 1 (.cells (cV (plain c) v8 v9 v10))) := by
   unfold evStoreV
   rw [hcc, hc.cells]
   simp [evStore, h1, setRange]
  have nr : ∀ {cs : List V} z xs ep w, Ob.cells cs ≠ .row z xs ep w := fun _ _ _ _ h => by cases h
  have n81 := hc.d.ne h1 nr
  have n91 := hc.l.ne h1 nr
  have n01 := hc.k.ne h1 nr
  have hc' : Cm (H.set 1 (.cells (cV (plain c) v8 v9 v10))) v8 v9 v10 o8 o9 o10 (plain c) := hc.mono fun id hid => by
   rw [List.getElem?_set_ne]
   rintro rfl
   rcases hid with h | h | h
   ·exact n81 h
   ·exact n91 h
   ·exact n01 h
  obtain ⟨H3, hz⟩ := hc'.fz 61
  have hPf := hPz _ _ _ hz
  have cl : cellsAt (H.set 1 (.cells (cV (plain c) v8 v9 v10))) (.ptr 1 0) = some (cV (plain c) v8 v9 v10) := by simp [cellsAt, l1]
  simp [zZa.c, zZa.r29, e2, e3, hl, c2, hs, cl, ofCells, hPf]
 have hrg : evRngs [.cells (cC c), .cells z12, .cells (cV { op := c.op } .nils .nils .nils)] (T (flds c.op)) = some (.ptr 3 0, [.cells (cC c), .cells z12, .cells (cV { op := c.op } .nils .nils .nils), .iter ⟨(flds c.op).toArray⟩ 0]) := by simp [evRngs, qZ5]
 simp [zZa.c, zZa.r0, zZa.r1, zZa.r2, g0, he, hcc, b0, c0, hbd, hsv, hf, evField, hrg]
 refine kLoop (fun m s => vZj c m s) (flds c.op).length ⟨rfl, 0, .nils, .nils, .nils, none, none, none, rfl, by omega, ⟨by simp [he], by simp [he], by simp [he], by simp [he], by simp [he]⟩, ⟨rfl, rfl, rfl, rfl⟩, ⟨.inr (VL.nil _ _), .inr (VL.nil _ _), .inr (VL.nil _ _), (fun id h => by cases h), (fun id h => by cases h), (fun id h => by cases h)⟩⟩ ?_
 intro m s hI
 exact wZV z hI hend
end Go.Proofs.Sc
