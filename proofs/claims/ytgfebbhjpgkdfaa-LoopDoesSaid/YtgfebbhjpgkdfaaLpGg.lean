/- The book's loop: more in a list, in the heap. The book's loop: put. The book's loop: put, a task, a microtask. No conditions. -/
import Derived.Test.YtgfebbhjpgkdfaaLpGa
namespace Go.Proofs.Lp
open Go Go.Ev
set_option linter.unusedVariables false
set_option linter.unusedSimpArgs false

theorem cont2_upq (s : LS) (i : Nat) (hi : i < 9) (l : List Int) : cont2 (upq s i l) i = l.map cI ∧ ∀ k, k < 10 → k ≠ i → cont2 (upq s i l) k = cont2 s k := by
  have h9 : ¬ i = 9 := by omega
  exact ⟨by simp [cont2, h9, upq], fun k hk hne => by simp [cont2, upq, hne]⟩
theorem szi_q {i : Nat} (hi : i < 9) : szi i = 1 := by
  have h9 : ¬ i = 9 := by omega
  simp [szi, h9]

/-- One more of a source. -/
theorem RS.push {h : Heap} {oT ep : Nat} {s : LS} {f : Nat → Option Nat} {v : Nat → V} (r : RS h oT ep s f v) {n : Int} (h0 : 0 ≤ n) (h8 : n < 8) (hq : (s.q (n.toNat + 1)).length < 2 ^ 40) (x : Int) :
    ∃ v' f' h2, evApp (h ++ [Ob.row 1 [cI x] 0 true]) 1 8 (v (n.toNat + 1)) (.sl h.length 0 0 1) = some (v', h2) ∧
      iaddrV h 1 (.sl oT ep 0 8) (.int .i64 n) = some (.eptr oT ep n.toNat 0) ∧ cellsAt h (.eptr oT ep n.toNat 0) = some [v (n.toNat + 1)] ∧
      iaddrV (h ++ [Ob.row 1 [cI x] 0 true]) 1 (.sl oT ep 0 8) (.int .i64 n) = some (.eptr oT ep n.toNat 0) ∧ cellsAt (h ++ [Ob.row 1 [cI x] 0 true]) (.eptr oT ep n.toNat 0) = some [v (n.toNat + 1)] ∧
      iaddrV h2 1 (.sl oT ep 0 8) (.int .i64 n) = some (.eptr oT ep n.toNat 0) ∧
      evStoreV h2 1 (.eptr oT ep n.toNat 0) v' = some (V.non, h2.set oT (.row 1 (rowT (upv v (n.toNat + 1) v')) ep true)) ∧
      RS (h2.set oT (.row 1 (rowT (upv v (n.toNat + 1) v')) ep true)) oT ep (upq s (n.toNat + 1) (s.q (n.toNat + 1) ++ [x])) f' (upv v (n.toNat + 1) v') ∧
      Kc h h2 ∧ Kc h (h2.set oT (.row 1 (rowT (upv v (n.toNat + 1) v')) ep true)) := by
  have hi : n.toNat < 8 := by omega
  have hT := (List.getElem?_eq_some_iff.1 r.row).1
  have hs0 := r.sq (i := n.toNat + 1) (by omega)
  have hs1 : SL (h ++ [Ob.row 1 [cI x] 0 true]) 1 (v (n.toNat + 1)) (f (n.toNat + 1)) ((s.q (n.toNat + 1)).map cI) := hs0.mono (fun id ho => by rw [List.getElem?_append_left (hs0.lt ho)])
  obtain ⟨v', o', h2, happ, hs2, hl2, hrest2, hnew2⟩ := hs1.app (by_ := 8) (e := cI x) (by intro e he; simp at he; subst he; exact ⟨rfl, rfl, rfl⟩) (q := .sl h.length 0 0 1) (by simp [elemsOf]) (by simp; unfold roomB; omega)
  have hl1 : (h ++ [Ob.row 1 [cI x] 0 true]).length = h.length + 1 := by simp
  rw [hl1] at hl2 hrest2 hnew2
  have e1 : h2[oT]? = some (.row 1 (rowT v) ep true) := by rw [hrest2 oT (by omega) (r.ne _ (by omega)), List.getElem?_append_left hT]; exact r.row
  have hT2 := (List.getElem?_eq_some_iff.1 e1).1
  have no' : o' ≠ some oT := fun e => by
    rcases hnew2 oT e with q | q
    · exact r.ne _ (by omega) q
    · omega
  have hst := rowT_put e1 hi hs2.cell.1 hs2.cell.2
  obtain ⟨c1, c2⟩ := cont2_upq s (n.toNat + 1) (by omega) (s.q (n.toNat + 1) ++ [x])
  obtain ⟨r2, K2⟩ := r.upd (i := n.toNat + 1) (by omega) (h' := h2.set oT (.row 1 (rowT (upv v (n.toNat + 1) v')) ep true)) (v' := v') (o' := o') (s' := upq s (n.toNat + 1) (s.q (n.toNat + 1) ++ [x]))
    (by rw [List.getElem?_set_self hT2]) (by
      rw [c1, szi_q (by omega), List.map_append]
      exact hs2.mono fun id hid => by rw [List.getElem?_set_ne (fun e => no' (by rw [hid, e]))]) c2 (by simp; omega)
    (fun j hj hjT hjf => by rw [List.getElem?_set_ne (Ne.symm hjT), hrest2 j (by omega) hjf, List.getElem?_append_left hj])
    (fun id hid => by rcases hnew2 id hid with q | q; exact .inl q; exact .inr (by omega))
  have ra := r.at' h0 h8
  have rb := (r.ext [Ob.row 1 [cI x] 0 true]).at' h0 h8
  have rc : iaddrV h2 1 (.sl oT ep 0 8) (.int .i64 n) = some (.eptr oT ep n.toNat 0) := by simp [iaddrV, e1, rowT_len, hi, h0, h8]
  exact ⟨v', _, h2, happ, ra.1, ra.2, rb.1, rb.2, rc, hst, r2, fun j cs hj => by
    have hjl := (List.getElem?_eq_some_iff.1 hj).1
    rw [hrest2 j (by omega) (hs0.ne_cells hj), List.getElem?_append_left hjl]
    exact hj, K2⟩

/-- One more of the microtasks, of the timers. -/
theorem RS.app {h : Heap} {oT ep : Nat} {s s' : LS} {f : Nat → Option Nat} {v : Nat → V} (r : RS h oT ep s f v) {i : Nat} (hi : i = 0 ∨ i = 9) {e : List V} (he : plain (szi i) [e]) {by_ : Nat} (hroom : ((cont2 s i).length + 1) * by_ ≤ roomB)
    (hc1 : cont2 s' i = cont2 s i ++ [e]) (hc2 : ∀ k, k < 10 → k ≠ i → cont2 s' k = cont2 s k) :
    ∃ v' f' h2, evApp (h ++ [Ob.row (szi i) [e] 0 true]) (szi i) by_ (v i) (.sl h.length 0 0 1) = some (v', h2) ∧ v'.isCell = true ∧ v'.cells = [v'] ∧ RS h2 oT ep s' f' (upv v i v') ∧ Kc h h2 := by
  have hi10 : i < 10 := by omega
  have hT := (List.getElem?_eq_some_iff.1 r.row).1
  have hs0 := r.sl i hi10
  have hs1 : SL (h ++ [Ob.row (szi i) [e] 0 true]) (szi i) (v i) (f i) (cont2 s i) := hs0.mono (fun id ho => by rw [List.getElem?_append_left (hs0.lt ho)])
  obtain ⟨v', o', h2, happ, hs2, hl2, hrest2, hnew2⟩ := hs1.app (by_ := by_) (e := e) he (q := .sl h.length 0 0 1) (by simp [elemsOf]) hroom
  have hl1 : (h ++ [Ob.row (szi i) [e] 0 true]).length = h.length + 1 := by simp
  rw [hl1] at hl2 hrest2 hnew2
  obtain ⟨r2, K2⟩ := r.upd hi10 (h' := h2) (v' := v') (o' := o') (s' := s')
    (by rw [hrest2 oT (by omega) (r.ne _ hi10), List.getElem?_append_left hT, rowT_same v hi]; exact r.row) (by rw [hc1]; exact hs2) hc2 (by omega)
    (fun j hj hjT hjf => by rw [hrest2 j (by omega) hjf, List.getElem?_append_left hj])
    (fun id hid => by rcases hnew2 id hid with q | q; exact .inl q; exact .inr (by omega))
  exact ⟨v', _, h2, happ, hs2.cell.1, hs2.cell.2, r2, K2⟩
end Go.Proofs.Lp

namespace Go.Proofs.Lp
open Go Go.Ev
set_option linter.unusedVariables false
set_option linter.unusedSimpArgs false

def putOk (x : Step) : Bool := if x.kind = 1 then decide (0 ≤ x.source ∧ x.source < 8) else if x.kind = 3 then afterOk x.ms x.level else true
def putV (s : LS) (x : Step) : Int := faultV s (putOk x)
def putS (s : LS) (x : Step) : LS :=
  if putV s x = 0 then
    if x.kind = 1 then upq s (x.source.toNat + 1) (s.q (x.source.toNat + 1) ++ [x.id])
    else if x.kind = 2 then upq s 0 (s.q 0 ++ [x.id])
    else { s with given := s.given + 1, tm := s.tm ++ [afterT s x.ms x.level x.id] }
  else s
def putN (s : LS) (x : Step) : Int := if putV s x = 0 ∧ x.kind = 3 then s.given + 1 else 0

abbrev putB : Cc := fst (snd ref27_put.c.body)

set_option maxHeartbeats 8000000 in
set_option maxRecDepth 8000 in
/-- Nothing is wrong. -/
theorem put_good {H : Heap} {oT ep : Nat} {s : LS} {f : Nat → Option Nat} {v : Nat → V} (r : RS H oT ep s f v) (ht : tot s < 2 ^ 40) {x : Step} (hz : putV s x = 0) {b b1 : Nat} (hb : H[b]? = some (.cells (cellsS oT ep s v))) (hx : H[b1]? = some (.cells (cS x)))
    {env : List V} (he : env.length = 101) (g2 : eget env 2 = .ptr b 0) (g3 : eget env 3 = .ptr b1 0) :
    WK (callW Φ) none (fun e s' => e = .normal ∧ (∃ E, s'.heap = H ++ E) ∧ s'.marks = [] ∧ s'.env.length = 101 ∧ eget s'.env 2 = .ptr b 0 ∧ eget s'.env 3 = .ptr b1 0 ∧ eget s'.env 4 = eget env 4) [.c putB] { env := env, marks := [], heap := H } := by
  obtain ⟨hcl, hok, h4⟩ := faultV_zero hz
  obtain ⟨E, hf⟩ := full_spec r.rd ht (.bool s.closed) (.int .i64 s.clock) (.int .i64 s.given) ⟨rfl, rfl, rfl⟩
  have hd : decide (4096 ≤ tot s) = false := by simp; omega
  rw [hd] at hf
  obtain ⟨H2, hH2⟩ : ∃ H2, H2 = H ++ E := ⟨_, rfl⟩
  rw [← hH2] at hf
  have c0 := pt_at hb 0
  have x0 := pt_at hx 0
  have x1 := pt_at hx 1
  have x3 := pt_at hx 3
  have x4 := pt_at hx 4
  simp only [cS, cellsS, List.drop_zero, List.drop_succ_cons, hcl] at c0 x0 x1 x3 x4 hf
  simp only [putB, fst, snd, ref27_put.c]
  by_cases k1 : x.kind = 1
  · have b1' : (x.kind == 1) = true := by simp [k1]
    have b3' : (x.kind == 3) = false := by simp [k1]
    simp only [putOk, if_pos k1, decide_eq_true_eq] at hok
    have s0 : ¬ x.source < 0 := by omega
    have s8 : ¬ x.source ≥ 8 := by omega
    have s8' : ¬ (8 : Int) ≤ x.source := by omega
    simp [ref27_put.r1, ref27_put.r3, ref27_put.r5, ref27_put.r7, g2, g3, he, okV, fV_eq, faddr_ptr, evPick, c0, x0, x1, x3, x4, b1', b3', s0, s8, s8', hf, ofCells]
    exact ⟨E, hH2⟩
  · have b1' : (x.kind == 1) = false := by simp [k1]
    by_cases k3 : x.kind = 3
    · have b3' : (x.kind == 3) = true := by simp [k3]
      simp only [putOk, if_neg k1, if_pos k3, afterOk, decide_eq_true_eq] at hok
      have s0 : ¬ x.ms > 1125899906842624 := by omega
      have s0' : ¬ (1125899906842624 : Int) < x.ms := by omega
      have s8 : ¬ x.level < 0 := by omega
      simp [ref27_put.r1, ref27_put.r3, ref27_put.r5, ref27_put.r7, g2, g3, he, okV, fV_eq, faddr_ptr, evPick, c0, x0, x1, x3, x4, b1', b3', s0, s0', s8, hf, ofCells]
      exact ⟨E, hH2⟩
    · have b3' : (x.kind == 3) = false := by simp [k3]
      simp [ref27_put.r1, ref27_put.r3, ref27_put.r5, ref27_put.r7, g2, g3, he, okV, fV_eq, faddr_ptr, evPick, c0, x0, x1, x3, x4, b1', b3', hf, ofCells]
      exact ⟨E, hH2⟩

def PutP (h : Heap) (oT ep : Nat) (s : LS) (x : Step) (y : V) (h' : Heap) : Prop :=
  ∃ f' v', y = .tup [.agg (cellsS oT ep (putS s x) v'), .int .i64 (putN s x), .int .i64 (putV s x)] ∧ RS h' oT ep (putS s x) f' v' ∧ Kc h h'

set_option maxHeartbeats 8000000 in
set_option maxRecDepth 8000 in
/-- Something is wrong. -/
theorem put_bad {h H : Heap} {oT ep : Nat} {s : LS} {f : Nat → Option Nat} {v : Nat → V} (r : RS H oT ep s f v) (ht : tot s < 2 ^ 40) {x : Step} (hz : putV s x ≠ 0) {b b1 b2 : Nat} (hb : H[b]? = some (.cells (cellsS oT ep s v))) (hx : H[b1]? = some (.cells (cS x)))
    (hz2 : H[b2]? = some (.cells [.bool false, .int .i64 0, .int .i64 0, .nils, .nils, .nils])) (hbl : h.length ≤ b2) (K : Kc h H) {k : Cc}
    {env : List V} (he : env.length = 101) (g2 : eget env 2 = .ptr b 0) (g3 : eget env 3 = .ptr b1 0) (g4 : eget env 4 = .ptr b2 0) :
    WK (callW Φ) none (FinX [.cell 4 (some 6), .tmp 5, .tmp 6] (PutP h oT ep s x)) [.c putB, .c k] { env := env, marks := [], heap := H } := by
  have hS : putS s x = s := by simp only [putS, if_neg hz]
  have hN : putN s x = 0 := by
    have : ¬ (putV s x = 0 ∧ x.kind = 3) := fun q => hz q.1
    simp only [putN, if_neg this]
  have fin : ∀ E w, putV s x = w → evStoreV (H ++ E) 6 (.ptr b2 0) (.agg (cellsS oT ep s v)) = some (V.non, (H ++ E).set b2 (.cells (cellsS oT ep s v))) ∧ cellsAt ((H ++ E).set b2 (.cells (cellsS oT ep s v))) (.ptr b2 0) = some (cellsS oT ep s v) ∧
      PutP h oT ep s x (.tup [.agg (cellsS oT ep s v), .int .i64 0, .int .i64 w]) ((H ++ E).set b2 (.cells (cellsS oT ep s v))) := by
    intro E w hw
    have hz3 : (H ++ E)[b2]? = some (.cells [.bool false, .int .i64 0, .int .i64 0, .nils, .nils, .nils]) := by rw [List.getElem?_append_left (List.getElem?_eq_some_iff.1 hz2).1]; exact hz2
    have hl := (List.getElem?_eq_some_iff.1 hz3).1
    refine ⟨store6 (ds := cellsS oT ep s v) hz3 rfl (cellsS_cell r s oT ep), pt_at (List.getElem?_set_self hl) 0, f, v, by rw [hS, hN, hw], by rw [hS]; exact (r.ext E).set hz3, (K.trans (.ext H E)).set hbl _⟩
  have fin0 := fin []
  rw [List.append_nil] at fin0
  obtain ⟨E, hf⟩ := full_spec r.rd ht (.bool s.closed) (.int .i64 s.clock) (.int .i64 s.given) ⟨rfl, rfl, rfl⟩
  have c0 := pt_at hb 0
  have c0E := pt_at (h := H ++ E) (a := b) (cs := cellsS oT ep s v) (by rw [List.getElem?_append_left (List.getElem?_eq_some_iff.1 hb).1]; exact hb) 0
  have finE := fin E
  have x0 := pt_at hx 0
  have x1 := pt_at hx 1
  have x3 := pt_at hx 3
  have x4 := pt_at hx 4
  obtain ⟨H2, hH2⟩ : ∃ H2, H2 = H ++ E := ⟨_, rfl⟩
  rw [← hH2] at hf c0E finE
  simp only [cS, cellsS, List.drop_zero, List.drop_succ_cons] at c0 c0E x0 x1 x3 x4 hf
  simp only [putB, fst, snd, ref27_put.c]
  cases hcl : s.closed with
  | true =>
    have hv : putV s x = 15 := by simp [putV, faultV, hcl]
    obtain ⟨f1, f2, f3⟩ := fin0 15 hv
    rw [hcl] at c0
    simp only [cellsS, hcl] at f1 f2 f3
    simp [ref27_put.r1, ref27_put.r2, g2, g3, g4, he, okV, fV_eq, faddr_ptr, c0, f1, f2, ofCells, f3]
  | false =>
    by_cases hok : putOk x = true
    · have h4 : 4096 ≤ tot s := by
        by_cases h4 : 4096 ≤ tot s
        · exact h4
        · exact (hz (by simp [putV, faultV, hcl, hok, h4])).elim
      have hv : putV s x = 3 := by simp [putV, faultV, hcl, hok, h4]
      obtain ⟨f1, f2, f3⟩ := finE 3 hv
      have hd : decide (4096 ≤ tot s) = true := by simp; omega
      rw [hd, hcl] at hf
      rw [hcl] at c0 c0E
      simp only [cellsS, hcl] at f1 f2 f3
      by_cases k1 : x.kind = 1
      · have b1' : (x.kind == 1) = true := by simp [k1]
        have b3' : (x.kind == 3) = false := by simp [k1]
        simp only [putOk, if_pos k1, decide_eq_true_eq] at hok
        have s0 : ¬ x.source < 0 := by omega
        have s8 : ¬ x.source ≥ 8 := by omega
        have s8' : ¬ (8 : Int) ≤ x.source := by omega
        simp [ref27_put.r1, ref27_put.r3, ref27_put.r5, ref27_put.r7, ref27_put.r8, g2, g3, g4, he, okV, fV_eq, faddr_ptr, evPick, c0, c0E, x0, x1, x3, x4, b1', b3', s0, s8, s8', hf, ofCells, f1, f2, f3]
      · have b1' : (x.kind == 1) = false := by simp [k1]
        by_cases k3 : x.kind = 3
        · have b3' : (x.kind == 3) = true := by simp [k3]
          simp only [putOk, if_neg k1, if_pos k3, afterOk, decide_eq_true_eq] at hok
          have s0 : ¬ x.ms > 1125899906842624 := by omega
          have s0' : ¬ (1125899906842624 : Int) < x.ms := by omega
          have s8 : ¬ x.level < 0 := by omega
          simp [ref27_put.r1, ref27_put.r3, ref27_put.r5, ref27_put.r7, ref27_put.r8, g2, g3, g4, he, okV, fV_eq, faddr_ptr, evPick, c0, c0E, x0, x1, x3, x4, b1', b3', s0, s0', s8, hf, ofCells, f1, f2, f3]
        · have b3' : (x.kind == 3) = false := by simp [k3]
          simp [ref27_put.r1, ref27_put.r3, ref27_put.r5, ref27_put.r7, ref27_put.r8, g2, g3, g4, he, okV, fV_eq, faddr_ptr, evPick, c0, c0E, x0, x1, x3, x4, b1', b3', hf, ofCells, f1, f2, f3]
    · have hok' : putOk x = false := by simpa using hok
      have hv : putV s x = 2 := by simp [putV, faultV, hcl, hok']
      obtain ⟨f1, f2, f3⟩ := fin0 2 hv
      rw [hcl] at c0
      simp only [cellsS, hcl] at f1 f2 f3
      by_cases k1 : x.kind = 1
      · have b1' : (x.kind == 1) = true := by simp [k1]
        simp only [putOk, if_pos k1, decide_eq_false_iff_not] at hok'
        by_cases s0 : x.source < 0
        · simp [ref27_put.r1, ref27_put.r3, ref27_put.r4, g2, g3, g4, he, okV, fV_eq, faddr_ptr, evPick, c0, x0, x1, b1', s0, ofCells, f1, f2, f3]
        · have s8 : x.source ≥ 8 := by omega
          have s8' : (8 : Int) ≤ x.source := by omega
          simp [ref27_put.r1, ref27_put.r3, ref27_put.r4, g2, g3, g4, he, okV, fV_eq, faddr_ptr, evPick, c0, x0, x1, b1', s0, s8, s8', ofCells, f1, f2, f3]
      · have b1' : (x.kind == 1) = false := by simp [k1]
        by_cases k3 : x.kind = 3
        · have b3' : (x.kind == 3) = true := by simp [k3]
          simp only [putOk, if_neg k1, if_pos k3, afterOk, decide_eq_false_iff_not] at hok'
          by_cases s0 : x.ms > 1125899906842624
          · have s0' : (1125899906842624 : Int) < x.ms := by omega
            simp [ref27_put.r1, ref27_put.r3, ref27_put.r5, ref27_put.r6, g2, g3, g4, he, okV, fV_eq, faddr_ptr, evPick, c0, x0, x1, x3, x4, b1', b3', s0, s0', ofCells, f1, f2, f3]
          · have s0' : ¬ (1125899906842624 : Int) < x.ms := by omega
            have s8 : x.level < 0 := by omega
            simp [ref27_put.r1, ref27_put.r3, ref27_put.r5, ref27_put.r6, g2, g3, g4, he, okV, fV_eq, faddr_ptr, evPick, c0, x0, x1, x3, x4, b1', b3', s0, s0', s8, ofCells, f1, f2, f3]
        · simp [putOk, k1, k3] at hok'
end Go.Proofs.Lp

namespace Go.Proofs.Lp
open Go Go.Ev
set_option linter.unusedVariables false
set_option linter.unusedSimpArgs false

def yesC : Cc → Cc
  | .cond _ a _ => a
  | x => x
abbrev putT : Cc := snd (snd ref27_put.c.body)
abbrev putD11 : Cc := fst (yesC (snd (inb (snd (fst putT)))))
theorem cellsS_upq (oT ep : Nat) (s : LS) (v : Nat → V) {i : Nat} (hi : i < 8) (l : List Int) (x : V) : cellsS oT ep (upq s (i + 1) l) (upv v (i + 1) x) = cellsS oT ep s v := by
  have h9 : i < 8 := hi
  have e0 : ¬ (0 = i + 1) := by omega
  have e9 : ¬ (9 = i + 1) := by omega
  simp only [cellsS, upv, upq, if_neg e0, if_neg e9]

set_option maxHeartbeats 8000000 in
set_option maxRecDepth 8000 in
theorem put_draw {H : Heap} {oT ep : Nat} {s : LS} {f : Nat → Option Nat} {v : Nat → V} (r : RS H oT ep s f v) {x : Step} (h0 : 0 ≤ x.source) (h8 : x.source < 8) (hq : (s.q (x.source.toNat + 1)).length < 2 ^ 40) {b b1 : Nat}
    (hb : H[b]? = some (.cells (cellsS oT ep s v))) (hx : H[b1]? = some (.cells (cS x))) {env : List V} (he : env.length = 101) (g2 : eget env 2 = .ptr b 0) (g3 : eget env 3 = .ptr b1 0) :
    WK (callW Φ) none (fun e s' => e = .normal ∧ (∃ f' v', RS s'.heap oT ep (upq s (x.source.toNat + 1) (s.q (x.source.toNat + 1) ++ [x.id])) f' v' ∧ cellsS oT ep (upq s (x.source.toNat + 1) (s.q (x.source.toNat + 1) ++ [x.id])) v' = cellsS oT ep s v) ∧ Kc H s'.heap ∧ s'.marks = [] ∧ s'.env.length = 101 ∧ eget s'.env 2 = .ptr b 0 ∧ eget s'.env 4 = eget env 4)
      [.c putD11] { env := env, marks := [], heap := H } := by
  obtain ⟨v', f', h2, a1, a2, a3, a4, a5, a6, a7, r2, K2, K3⟩ := r.push h0 h8 hq x.id
  have hbs := Own.bs H x.id
  have K1 := Kc.ext H [Ob.row 1 [cI x.id] 0 true]
  obtain ⟨H1, hH1⟩ : ∃ H1, H1 = H ++ [Ob.row 1 [cI x.id] 0 true] := ⟨_, rfl⟩
  rw [← hH1] at a1 a4 a5 hbs K1
  obtain ⟨H3, hH3⟩ : ∃ H3, H3 = h2.set oT (.row 1 (rowT (upv v (x.source.toNat + 1) v')) ep true) := ⟨_, rfl⟩
  rw [← hH3] at a7 r2 K3
  have q0 := pt_at hb 4
  have q1 := pt_at (K1 _ _ hb) 4
  have q2 := pt_at (K2 _ _ hb) 4
  have x0 := pt_at hx 1
  have x1 := pt_at (K1 _ _ hx) 1
  have x2 := pt_at (K2 _ _ hx) 1
  have y0 := pt_at hx 2
  have ec := cellsS_upq oT ep s v (i := x.source.toNat) (by omega) (s.q (x.source.toNat + 1) ++ [x.id]) v'
  simp only [cS, cellsS, List.drop_zero, List.drop_succ_cons] at q0 q1 q2 x0 x1 x2 y0
  simp only [putD11, putT, fst, snd, inb, yesC, ref27_put.c]
  refine kDraw2 ref27_put.r11.ord ?_
  simp (config := { maxSteps := 20000000 }) [ref27_put.r11, List.filterMap_cons, g2, g3, he, okV, fV_eq, faddr_ptr, q0, q1, q2, x0, x1, x2, y0, hbs, a1, a2, a3, a4, a5, a6, a7, ofCells]
  refine ⟨?_, ⟨f', _, r2, ec⟩, K3⟩
  repeat' apply And.intro
  all_goals
    simp only [set_puts, puts_puts, List.cons_append, List.nil_append]
    exact puts_ext _ rfl rfl rfl rfl

set_option maxHeartbeats 8000000 in
set_option maxRecDepth 8000 in
theorem put_task {h H : Heap} {oT ep : Nat} {s : LS} {f : Nat → Option Nat} {v : Nat → V} (r : RS H oT ep s f v) (ht : tot s < 2 ^ 40) {x : Step} (k1 : x.kind = 1) (hz : putV s x = 0) {b b1 b2 : Nat} (hb : H[b]? = some (.cells (cellsS oT ep s v))) (hx : H[b1]? = some (.cells (cS x)))
    (hz2 : H[b2]? = some (.cells [.bool false, .int .i64 0, .int .i64 0, .nils, .nils, .nils])) (hbl : h.length ≤ b2) (K : Kc h H)
    {env : List V} (he : env.length = 101) (g2 : eget env 2 = .ptr b 0) (g3 : eget env 3 = .ptr b1 0) (g4 : eget env 4 = .ptr b2 0) :
    WK (callW Φ) none (FinX [.cell 4 (some 6), .tmp 5, .tmp 6] (PutP h oT ep s x)) [.c putT] { env := env, marks := [], heap := H } := by
  obtain ⟨hcl, hok, h4⟩ := faultV_zero hz
  simp only [putOk, if_pos k1, decide_eq_true_eq] at hok
  have hql := q_le s (i := x.source.toNat) (by omega)
  have x0 := pt_at hx 0
  have b1' : (x.kind == 1) = true := by simp [k1]
  simp only [cS, List.drop_zero] at x0
  have hS : putS s x = upq s (x.source.toNat + 1) (s.q (x.source.toNat + 1) ++ [x.id]) := by simp only [putS, if_pos hz, if_pos k1]
  have hN : putN s x = 0 := by
    have : ¬ (putV s x = 0 ∧ x.kind = 3) := fun q => by have := q.2; omega
    simp only [putN, if_neg this]
  simp only [putT, snd, ref27_put.c]
  simp [ref27_put.r9, ref27_put.r10, g2, g3, g4, he, okV, fV_eq, faddr_ptr, x0, b1', ofCells]
  refine kNormal (put_draw r hok.1 hok.2 (by unfold tot at ht; omega) hb hx ?_ ?_ ?_) ?_
  · simp [he]
  · simp [g2]
  · simp [g3]
  rintro ⟨e, mk, H3⟩ ⟨⟨f', v', r3, ec⟩, K3, hmk, he', k2, k4⟩
  simp only at r3 K3 hmk he' k2 k4
  obtain rfl := hmk
  simp [g4, he] at k4
  have c0 := pt_at (K3 _ _ hb) 0
  have hz3 := K3 _ _ hz2
  have st := store6 (ds := cellsS oT ep s v) hz3 rfl (by rw [← ec]; exact cellsS_cell r3 _ oT ep)
  have hl := (List.getElem?_eq_some_iff.1 hz3).1
  have cf := pt_at (h := H3.set b2 (.cells (cellsS oT ep s v))) (a := b2) (cs := cellsS oT ep s v) (List.getElem?_set_self hl) 0
  have fin : PutP h oT ep s x (.tup [.agg (cellsS oT ep s v), .int .i64 0, .int .i64 0]) (H3.set b2 (.cells (cellsS oT ep s v))) :=
    ⟨f', v', by rw [hS, hN, hz, ec], by rw [hS]; exact r3.set hz3, (K.trans K3).set hbl _⟩
  simp only [cellsS, List.drop_zero, List.length_cons, List.length_nil, Nat.zero_add, Nat.reduceAdd] at c0 st cf fin
  simp [ref27_put.r12, k2, k4, he', okV, fV_eq, c0, st, cf, fin, ofCells]

set_option maxHeartbeats 8000000 in
set_option maxRecDepth 8000 in
theorem put_micro {h H : Heap} {oT ep : Nat} {s : LS} {f : Nat → Option Nat} {v : Nat → V} (r : RS H oT ep s f v) (ht : tot s < 2 ^ 40) {x : Step} (k1 : x.kind = 2) (hz : putV s x = 0) {b b1 b2 : Nat} (hb : H[b]? = some (.cells (cellsS oT ep s v))) (hx : H[b1]? = some (.cells (cS x)))
    (hz2 : H[b2]? = some (.cells [.bool false, .int .i64 0, .int .i64 0, .nils, .nils, .nils])) (hbl : h.length ≤ b) (hb2 : b + 2 = b2) (K : Kc h H)
    {env : List V} (he : env.length = 101) (g2 : eget env 2 = .ptr b 0) (g3 : eget env 3 = .ptr b1 0) (g4 : eget env 4 = .ptr b2 0) :
    WK (callW Φ) none (FinX [.cell 4 (some 6), .tmp 5, .tmp 6] (PutP h oT ep s x)) [.c putT] { env := env, marks := [], heap := H } := by
  have b1' : (x.kind == 1) = false := by simp [k1]
  have b2' : (x.kind == 2) = true := by simp [k1]
  have n1 : ¬ x.kind = 1 := by omega
  obtain ⟨S, hSd⟩ : ∃ S, S = upq s 0 (s.q 0 ++ [x.id]) := ⟨_, rfl⟩
  have hS : putS s x = S := by rw [hSd]; simp only [putS, if_pos hz, if_neg n1, if_pos k1]
  have hN : putN s x = 0 := by
    have : ¬ (putV s x = 0 ∧ x.kind = 3) := fun q => by have := q.2; omega
    simp only [putN, if_neg this]
  obtain ⟨c1, c2⟩ := cont2_upq s 0 (by omega) (s.q 0 ++ [x.id])
  obtain ⟨v', f', h2, a1, i1, i2, r2, K2⟩ := r.app (i := 0) (.inl rfl) (s' := S) (e := cI x.id) (by intro e he; simp at he; subst he; exact ⟨rfl, rfl, rfl⟩) (by_ := 8)
    (by simp [cont2]; unfold roomB; unfold tot at ht; omega) (by rw [hSd, c1, List.map_append]; rfl) (by rw [hSd]; exact c2)
  have hbs := Own.bs H x.id
  have x0 := pt_at hx 0
  have x2 := pt_at hx 2
  have q3 := pt_at hb 3
  have hbh := K2 _ _ hb
  have hz3 := K2 _ _ hz2
  have hlb := (List.getElem?_eq_some_iff.1 hbh).1
  have st1 := store_cell (off := 3) hbh (by simp [cellsS]) i1 i2
  have ec : (cellsS oT ep s v).set 3 v' = cellsS oT ep S (upv v 0 v') := by rw [hSd]; rfl
  rw [ec] at st1
  have r3 := r2.set (cs' := cellsS oT ep S (upv v 0 v')) hbh
  obtain ⟨H3, hH3⟩ : ∃ H3, H3 = h2.set b (.cells (cellsS oT ep S (upv v 0 v'))) := ⟨_, rfl⟩
  have kb3 : H3[b]? = some (.cells (cellsS oT ep S (upv v 0 v'))) := by rw [hH3, List.getElem?_set_self hlb]
  have kz3 : H3[b2]? = some (.cells [.bool false, .int .i64 0, .int .i64 0, .nils, .nils, .nils]) := by rw [hH3, List.getElem?_set_ne (by omega)]; exact hz3
  have K3 : Kc h H3 := by rw [hH3]; exact (K.trans K2).set hbl _
  rw [← hH3] at st1 r3
  have c0 := pt_at kb3 0
  have hl := (List.getElem?_eq_some_iff.1 kz3).1
  have st2 := store6 (ds := cellsS oT ep S (upv v 0 v')) kz3 rfl (cellsS_cell r3 _ oT ep)
  have cf := pt_at (h := H3.set b2 (.cells (cellsS oT ep S (upv v 0 v')))) (a := b2) (cs := cellsS oT ep S (upv v 0 v')) (List.getElem?_set_self hl) 0
  have fin : PutP h oT ep s x (.tup [.agg (cellsS oT ep S (upv v 0 v')), .int .i64 0, .int .i64 0]) (H3.set b2 (.cells (cellsS oT ep S (upv v 0 v')))) :=
    ⟨f', _, by rw [hS, hN, hz], by rw [hS]; exact r3.set kz3, K3.set (by omega) _⟩
  obtain ⟨H1, hH1⟩ : ∃ H1, H1 = H ++ [Ob.row 1 [cI x.id] 0 true] := ⟨_, rfl⟩
  have hs0 : szi 0 = 1 := rfl
  rw [hs0, ← hH1] at a1
  rw [← hH1] at hbs
  obtain ⟨D, hD⟩ : ∃ D, D = cellsS oT ep S (upv v 0 v') := ⟨_, rfl⟩
  have hDl : D.length = 6 := by rw [hD]; rfl
  have hDt : List.take 6 D = D := by rw [hD]; rfl
  rw [← hD] at c0 st2 cf fin
  rw [hDl] at st2
  simp only [cS, cellsS, List.drop_zero, List.drop_succ_cons] at x0 x2 q3 c0 cf
  simp only [putT, snd, ref27_put.c]
  simp [ref27_put.r9, ref27_put.r10, ref27_put.r13, ref27_put.r14, ref27_put.r15, g2, g3, g4, he, okV, fV_eq, faddr_ptr, x0, x2, b1', b2', q3, hbs, a1, st1, c0, st2, cf, fin, ofCells, hDl, hDt]
end Go.Proofs.Lp
