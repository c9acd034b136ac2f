/- The book's loop: the clock goes on. The book's loop: the clock goes on, walked. No conditions. -/
import Derived.Test.YtgfebbhjpgkdfaaLpGj
namespace Go.Proofs.Lp
open Go Go.Ev
set_option linter.unusedVariables false
set_option linter.unusedSimpArgs false

/-- A timer that has come: a task. -/
def popT (s : LS) (k : Nat) (t : Tm) : LS := { upq s 1 (s.q 1 ++ [t.id]) with tm := s.tm.take k ++ s.tm.drop (k + 1) }
def drain (s : LS) : Nat → LS × Nat
  | 0 => (s, 0)
  | n + 1 =>
    match soon s.tm s.tm.length with
    | none => (s, 0)
    | some k =>
      match s.tm[k]? with
      | none => (s, 0)
      | some t => if t.due > s.clock then (s, 0) else ((drain (popT s k t) n).1, (drain (popT s k t) n).2 + 1)
def advS (s : LS) (ms : Int) : LS := if ms < 0 ∨ ms > 1125899906842624 - s.clock then s else (drain (clkL s (s.clock + ms)) s.tm.length).1
def advSN (s : LS) (ms : Int) : Int := if ms < 0 ∨ ms > 1125899906842624 - s.clock then 0 else (drain (clkL s (s.clock + ms)) s.tm.length).2
def advSV (s : LS) (ms : Int) : Int := if ms < 0 ∨ ms > 1125899906842624 - s.clock then 2 else 0

theorem soon_none {l : List Tm} : ∀ {i : Nat}, i ≤ l.length → soon l i = none → i = 0
  | 0, _, _ => rfl
  | i + 1, hi, h => by
    obtain ⟨t, ht⟩ : ∃ t, l[i]? = some t := ⟨_, List.getElem?_eq_getElem (by omega)⟩
    cases hs : soon l i with
    | none => simp [soon, ht, hs] at h
    | some k =>
      simp only [soon, ht, hs] at h
      split at h
      · cases h
      · split at h <;> cases h
theorem popT_len {s : LS} {k : Nat} {t : Tm} (hk : k < s.tm.length) : (popT s k t).tm.length + 1 = s.tm.length := by
  simp [popT]; omega
theorem popT_tot {s : LS} {k : Nat} {t : Tm} (hk : k < s.tm.length) : tot (popT s k t) = tot s := by
  have h1 := tot_upq s (i := 1) (by omega) (s.q 1 ++ [t.id])
  have h2 := tot_tm (L := upq s 1 (s.q 1 ++ [t.id])) (L' := popT s k t) rfl
  have h3 := popT_len (t := t) hk
  have h4 : (upq s 1 (s.q 1 ++ [t.id])).tm = s.tm := rfl
  rw [h4] at h2
  simp only [List.length_append, List.length_singleton] at h1
  omega

/-- What is at the box and behind it. -/
structure Bx (h H : Heap) (b : Nat) (D : List V) : Prop where
  kb : H[b]? = some (.cells D)
  kz : H[b + 1]? = some (.cells [.bool false, .int .i64 0, .int .i64 0, .nils, .nils, .nils])
  K : Kc h H
  hb : h.length ≤ b
theorem Bx.next {h H H2 : Heap} {b : Nat} {D : List V} (x : Bx h H b D) (k : Kc H H2) : Bx h H2 b D := ⟨k _ _ x.kb, k _ _ x.kz, x.K.trans k, x.hb⟩
theorem Bx.set {h H : Heap} {b : Nat} {D : List V} (x : Bx h H b D) (E : List V) : Bx h (H.set b (.cells E)) b E :=
  ⟨List.getElem?_set_self (List.getElem?_eq_some_iff.1 x.kb).1, by rw [List.getElem?_set_ne (by omega)]; exact x.kz, x.K.set x.hb _, x.hb⟩
theorem Bx.fin {h H : Heap} {b : Nat} {D : List V} (x : Bx h H b D) (hD : D.length = 6) (hDc : D.all V.isCell = true) :
    List.take 6 D = D ∧ cellsAt H (.ptr b 0) = some D ∧ evStoreV H 6 (.ptr (b + 1) 0) (.agg D) = some (V.non, H.set (b + 1) (.cells D)) ∧ cellsAt (H.set (b + 1) (.cells D)) (.ptr (b + 1) 0) = some D := by
  have st := store6 (ds := D) x.kz (by rw [hD]; rfl) hDc
  rw [hD] at st
  exact ⟨by rw [← hD]; exact List.take_length, pt_at x.kb 0, st, pt_at (List.getElem?_set_self (List.getElem?_eq_some_iff.1 x.kz).1) 0⟩

def AdvP (h : Heap) (oT ep : Nat) (s : LS) (n w : Int) (y : V) (h' : Heap) : Prop :=
  ∃ f' v', y = .tup [.agg (cellsS oT ep s v'), .int .i64 n, .int .i64 w] ∧ RS h' oT ep s f' v' ∧ Kc h h'

abbrev advB : Cc := inb ref27_advance.b11
abbrev advD8 : Cc := fst (snd (snd advB))
abbrev advD9 : Cc := fst (snd (snd (snd advB)))

set_option maxHeartbeats 8000000 in
set_option maxRecDepth 8000 in
/-- The timer becomes a task. -/
theorem adv_task {h H : Heap} {oT ep : Nat} {s : LS} {f : Nat → Option Nat} {v : Nat → V} (r : RS H oT ep s f v) (ht : tot s < 2 ^ 40) {b : Nat} (x : Bx h H b (cellsS oT ep s v)) {k : Nat} {t : Tm} (hk : s.tm[k]? = some t)
    {env : List V} (he : env.length = 69) (g2 : eget env 2 = .ptr b 0) (g8 : eget env 8 = .int .i64 k) :
    WK (callW Φ) none (fun e s' => e = .normal ∧ (∃ f' v', RS s'.heap oT ep (upq s 1 (s.q 1 ++ [t.id])) f' v' ∧ cellsS oT ep (upq s 1 (s.q 1 ++ [t.id])) v' = cellsS oT ep s v) ∧ Kc H s'.heap ∧ s'.marks = [] ∧ s'.env.length = 69 ∧ eget s'.env 2 = .ptr b 0 ∧ eget s'.env 4 = eget env 4 ∧ eget s'.env 7 = eget env 7 ∧ eget s'.env 8 = .int .i64 k)
      [.c advD8] { env := env, marks := [], heap := H } := by
  have hq := q_le s (i := 0) (by omega)
  obtain ⟨v', f', h2, a1, a2, a3, a4, a5, a6, a7, r2, K2, K3⟩ := r.push (n := 0) (by omega) (by omega) (by unfold tot at ht; simp only [Int.toNat_zero, Nat.zero_add] at hq ⊢; omega) t.id
  have hbs := Own.bs H t.id
  have K1 := Kc.ext H [Ob.row 1 [cI t.id] 0 true]
  simp only [Int.toNat_zero, Nat.zero_add] at a1 a2 a3 a4 a5 a6 a7 r2 K3
  obtain ⟨H1, hH1⟩ : ∃ H1, H1 = H ++ [Ob.row 1 [cI t.id] 0 true] := ⟨_, rfl⟩
  rw [← hH1] at a1 a4 a5 hbs K1
  obtain ⟨H3, hH3⟩ : ∃ H3, H3 = h2.set oT (.row 1 (rowT (upv v 1 v')) ep true) := ⟨_, rfl⟩
  rw [← hH3] at a7 r2 K3
  have q0 := pt_at x.kb 4
  have q1 := pt_at (K1 _ _ x.kb) 4
  have q2 := pt_at (K2 _ _ x.kb) 4
  have q5 := pt_at x.kb 5
  obtain ⟨id, ep', k', b1, _, b2⟩ := r.s9.at (i := k) (e := cR t) (by rw [List.getElem?_map, hk]; rfl)
  have b22 := b2 2
  have ec := cellsS_upq oT ep s v (i := 0) (by omega) (s.q 1 ++ [t.id]) v'
  simp only [cR, cellsS, List.drop_zero, List.drop_succ_cons] at q0 q1 q2 q5 b22
  have fe : faddrV 2 (.eptr id ep' k' 0) = some (.eptr id ep' k' 2) := rfl
  simp only [advD8, advB, fst, snd, inb, ref27_advance.b11]
  refine kDraw2 ref27_advance.r8.ord ?_
  simp (config := { maxSteps := 20000000 }) [ref27_advance.r8, List.filterMap_cons, g2, g8, he, okV, fV_eq, faddr_ptr, q0, q1, q2, q5, b1, b22, fe, hbs, a1, a2, a3, a4, a5, a6, a7, ofCells]
  refine ⟨?_, ⟨f', _, r2, ec⟩, K3⟩
  repeat' apply And.intro
  all_goals
    simp only [set_puts, puts_puts, List.cons_append, List.nil_append]
    exact puts_ext _ rfl rfl rfl rfl

set_option maxHeartbeats 8000000 in
set_option maxRecDepth 8000 in
/-- The timer is away. -/
theorem adv_cut {h H : Heap} {oT ep : Nat} {s : LS} {f : Nat → Option Nat} {v : Nat → V} (r : RS H oT ep s f v) (ht : tot s < 2 ^ 40) {b : Nat} (x : Bx h H b (cellsS oT ep s v)) {k : Nat} (hk : k < s.tm.length) {S : LS} (hS : S = { s with tm := s.tm.take k ++ s.tm.drop (k + 1) })
    {env : List V} (he : env.length = 69) (g2 : eget env 2 = .ptr b 0) (g8 : eget env 8 = .int .i64 k) :
    WK (callW Φ) none (fun e s' => e = .normal ∧ (∃ f' v', RS s'.heap oT ep S f' v' ∧ Bx h s'.heap b (cellsS oT ep S v')) ∧ s'.marks = [] ∧ s'.env.length = 69 ∧ eget s'.env 2 = .ptr b 0 ∧ eget s'.env 4 = eget env 4 ∧ eget s'.env 7 = eget env 7)
      [.c advD9] { env := env, marks := [], heap := H } := by
  obtain ⟨va, vb, v', f', h', b1, b2, b3, i1, i2, r3, K3⟩ := r.cut ht hk (S := S) (by rw [hS]) (by rw [hS])
  have x3 := x.next K3
  have st := store_cell (off := 5) x3.kb (by simp [cellsS]) i1 i2
  have ec : (cellsS oT ep s v).set 5 v' = cellsS oT ep S (upv v 9 v') := by rw [hS]; rfl
  rw [ec] at st
  have r4 := r3.set (cs' := cellsS oT ep S (upv v 9 v')) x3.kb
  have x4 := x3.set (cellsS oT ep S (upv v 9 v'))
  obtain ⟨H4, hH4⟩ : ∃ H4, H4 = h'.set b (.cells (cellsS oT ep S (upv v 9 v'))) := ⟨_, rfl⟩
  rw [← hH4] at st r4 x4
  have q5 := pt_at x.kb 5
  have hl : s.tm.length < 2 ^ 40 := by unfold tot at ht; omega
  have hw1 : IntKind.i64.wrap ((k : Int) + 1) = (k : Int) + 1 := by rw [Ev.wrap64] <;> omega
  simp only [cellsS, List.drop_zero, List.drop_succ_cons] at q5
  simp only [advD9, advB, fst, snd, inb, ref27_advance.b11]
  refine kDraw1 ref27_advance.r9.ord ?_
  simp (config := { maxSteps := 20000000 }) [ref27_advance.r9, List.filterMap_cons, g2, g8, he, okV, fV_eq, faddr_ptr, q5, hw1, sliceV, b1, b2, b3, st, ofCells]
  exact ⟨f', _, r4, x4⟩
end Go.Proofs.Lp

namespace Go.Proofs.Lp
open Go Go.Ev
set_option linter.unusedVariables false
set_option linter.unusedSimpArgs false

set_option maxHeartbeats 16000000 in
set_option maxRecDepth 8000 in
theorem adv_loop {h H : Heap} {oT ep : Nat} {S0 : LS} {f : Nat → Option Nat} {v : Nat → V} (r : RS H oT ep S0 f v) (ht : tot S0 < 2 ^ 39) {b : Nat} (x : Bx h H b (cellsS oT ep S0 v))
    {env : List V} (he : env.length = 69) (g2 : eget env 2 = .ptr b 0) (g4 : eget env 4 = .ptr (b + 1) 0) (g7 : eget env 7 = .int .i64 0) :
    WK (callW Φ) none (FinX [.cell 4 (some 6), .tmp 5, .tmp 6] (AdvP h oT ep (drain S0 S0.tm.length).1 (drain S0 S0.tm.length).2 0)) [.c (.loop ref27_advance.b11), .b 0] { env := env, marks := [], heap := H } := by
  refine kLoop (fun m st => ∃ (s : LS) (f : Nat → Option Nat) (v : Nat → V) (n : Nat), m = s.tm.length ∧ st.env.length = 69 ∧ eget st.env 2 = .ptr b 0 ∧ eget st.env 4 = .ptr (b + 1) 0 ∧ eget st.env 7 = .int .i64 n ∧ st.marks = [] ∧ RS st.heap oT ep s f v ∧ Bx h st.heap b (cellsS oT ep s v) ∧ tot s = tot S0 ∧
      (drain S0 S0.tm.length).1 = (drain s s.tm.length).1 ∧ (drain S0 S0.tm.length).2 = n + (drain s s.tm.length).2 ∧ n + s.tm.length = S0.tm.length) S0.tm.length ⟨S0, f, v, 0, rfl, he, g2, g4, g7, rfl, r, x, rfl, rfl, by simp, by simp⟩ ?_
  clear r x he g2 g4 g7
  rintro m ⟨e, mk, hq⟩ ⟨s, f, v, n, rfl, he, k2, k4, k7, hm, r, x, htt, d1, d2, hns⟩
  simp only at he k2 k4 k7 hm r x
  obtain rfl := hm
  have hl : S0.tm.length < 2 ^ 40 := by unfold tot at ht; omega
  obtain ⟨E, hc⟩ := soonest_spec r.rd (by omega) (.bool s.closed) (.int .i64 s.clock) (.int .i64 s.given) ⟨rfl, rfl, rfl⟩
  have c0 := pt_at x.kb 0
  obtain ⟨H2, hH2⟩ : ∃ H2, H2 = hq ++ E := ⟨_, rfl⟩
  rw [← hH2] at hc
  have K2 : Kc hq H2 := by rw [hH2]; exact .ext _ _
  have r2 : RS H2 oT ep s f v := by rw [hH2]; exact r.ext _
  have x2 := x.next K2
  have q5 := pt_at x2.kb 5
  have q1 := pt_at x2.kb 1
  obtain ⟨e1, e2, e3, e4⟩ := x2.fin rfl (cellsS_cell r2 s oT ep)
  have q0 := e2
  -- the end
  have fin : drain s s.tm.length = (s, 0) → AdvP h oT ep (drain S0 S0.tm.length).1 (drain S0 S0.tm.length).2 0 (.tup [.agg (cellsS oT ep s v), .int .i64 n, .int .i64 0]) (H2.set (b + 1) (.cells (cellsS oT ep s v))) := by
    intro hd
    rw [hd] at d1 d2
    rw [d1, d2]
    exact ⟨f, v, by simp, r2.set x2.kz, x2.K.set (by have := x2.hb; omega) _⟩
  obtain ⟨D, hD⟩ : ∃ D, D = cellsS oT ep s v := ⟨_, rfl⟩
  have hDl : D.length = 6 := by rw [hD]; rfl
  simp only [cellsS, List.drop_zero, List.drop_succ_cons] at c0 q5 q1 hc
  rw [← hD] at e1 e2 e3 e4 fin
  have c0D : cellsAt hq (.ptr b 0) = some D := by rw [hD]; exact pt_at x.kb 0
  have hcD : callW Φ ref27_Soonest [.agg D] hq = some (.int .i64 (soonI (soon s.tm s.tm.length)), H2) := by rw [hD]; exact hc
  cases hso : soon s.tm s.tm.length with
  | none =>
    have hz := soon_none (Nat.le_refl _) hso
    have hfin := fin (by rw [hz]; rfl)
    rw [hso] at hcD
    simp only [soonI] at hcD
    simp [ref27_advance.b11, ref27_advance.r5, k2, k4, k7, he, okV, fV_eq, c0D, hcD, e1, hDl, ofCells]
    refine kDraw1 ref27_advance.r6.ord ?_
    simp (config := { maxSteps := 5000000 }) [ref27_advance.r6, ref27_advance.r7, List.filterMap_cons, k2, k4, k7, he, okV, fV_eq, faddr_ptr, evPick, e1, e2, e3, e4, hDl, hfin, ofCells]
  | some k =>
    obtain ⟨_, hkl⟩ := soon_lt hso
    obtain ⟨t, htk⟩ : ∃ t, s.tm[k]? = some t := ⟨_, List.getElem?_eq_getElem hkl⟩
    obtain ⟨id, ep', k', b1, _, b2⟩ := r2.s9.at (i := k) (e := cR t) (by rw [List.getElem?_map, htk]; rfl)
    have b20 := b2 0
    have fe : faddrV 0 (.eptr id ep' k' 0) = some (.eptr id ep' k' 0) := rfl
    have hk0 : ¬ ((k : Int) < 0) := by omega
    simp only [cR, List.drop_zero] at b20
    obtain ⟨m', hm'⟩ : ∃ m', s.tm.length = m' + 1 := ⟨s.tm.length - 1, by omega⟩
    rw [hso] at hcD
    simp only [soonI] at hcD
    have dr1 := fun (e : List V) he g2 g8 => adv_task (h := h) r2 (by omega) x2 htk (env := e) he g2 g8
    simp only [advD8, advB, fst, snd, inb, ref27_advance.b11] at dr1
    by_cases hd : t.due > s.clock
    · have hfin := fin (by
        have : drain s (m' + 1) = (s, 0) := by simp only [drain, hso, htk, if_pos hd]
        rw [hm', this])
      simp [ref27_advance.b11, ref27_advance.r5, k2, k4, k7, he, okV, fV_eq, c0D, hcD, e1, hDl, ofCells]
      refine kDraw1 ref27_advance.r6.ord ?_
      have hd' : s.clock < t.due := hd
      simp (config := { maxSteps := 5000000 }) [ref27_advance.r6, ref27_advance.r7, List.filterMap_cons, k2, k4, k7, he, okV, fV_eq, faddr_ptr, evPick, hk0, q5, q1, b1, fe, b20, hd, hd', e1, e2, e3, e4, hDl, hfin, ofCells]
    · have hd' : ¬ s.clock < t.due := hd
      have hdr : drain s s.tm.length = ((drain (popT s k t) m').1, (drain (popT s k t) m').2 + 1) := by
        rw [hm']
        simp only [drain, hso, htk, if_neg hd]
      have hpl := popT_len (t := t) hkl
      have hpt := popT_tot (t := t) hkl
      have hm'' : m' = (popT s k t).tm.length := by omega
      rw [hdr] at d1 d2
      rw [hm''] at d1 d2
      have hw1 : IntKind.i64.wrap ((n : Int) + 1) = ((n + 1 : Nat) : Int) := by rw [Ev.wrap64] <;> omega
      simp [ref27_advance.b11, ref27_advance.r5, k2, k4, k7, he, okV, fV_eq, c0D, hcD, e1, hDl, ofCells]
      refine kDraw1 ref27_advance.r6.ord ?_
      simp (config := { maxSteps := 5000000 }) [ref27_advance.r6, List.filterMap_cons, k2, k4, k7, he, okV, fV_eq, faddr_ptr, evPick, hk0, q5, q1, b1, fe, b20, hd, hd', ofCells]
      refine kNormal (dr1 _ ?_ ?_ ?_) ?_
      · simp [he]
      · simp [k2]
      · simp [he]
      rintro ⟨e5, mk, H3⟩ ⟨⟨f3, v3, r3, ec⟩, K3, hmk, he5, j2, j4, j7, j8⟩
      simp only at r3 K3 hmk he5 j2 j4 j7 j8
      obtain rfl := hmk
      simp [k4, k7] at j4 j7
      have x3 := x2.next K3
      rw [← ec] at x3
      have hlt : tot (upq s 1 (s.q 1 ++ [t.id])) < 2 ^ 40 := by
        have := tot_upq s (i := 1) (by omega) (s.q 1 ++ [t.id])
        simp only [List.length_append, List.length_singleton] at this
        omega
      have dr2 := fun (e : List V) he g2 g8 => adv_cut r3 hlt x3 (k := k) (by exact hkl) (S := popT s k t) rfl (env := e) he g2 g8
      simp only [advD9, advB, fst, snd, inb, ref27_advance.b11] at dr2
      simp only [kSeq]
      refine kNormal (dr2 e5 he5 j2 j8) ?_
      rintro ⟨e6, mk, H4⟩ ⟨⟨f4, v4, r4, x4⟩, hmk, he6, i2, i4, i7⟩
      simp only at r4 x4 hmk he6 i2 i4 i7
      obtain rfl := hmk
      rw [j4] at i4
      rw [j7] at i7
      simp [ref27_advance.r10, i2, i4, i7, he6, okV, fV_eq]
      exact ⟨(popT s k t).tm.length, by omega, popT s k t, rfl, f4, v4, n + 1, by simpa using hw1, r4, x4, by omega, d1, by omega, by omega⟩

set_option maxHeartbeats 16000000 in
set_option maxRecDepth 8000 in
theorem advance_spec2 {h : Heap} {oT ep : Nat} {s : LS} {f : Nat → Option Nat} {v : Nat → V} (r : RS h oT ep s f v) (ht : tot s < 2 ^ 39) (hc0 : 0 ≤ s.clock) (hcm : s.clock ≤ 1125899906842624) (ms : Int) :
    ∃ f' v' h', callW Φ ref27_advance [.agg (cellsS oT ep s v), .int .i64 ms] h = some (.tup [.agg (cellsS oT ep (advS s ms) v'), .int .i64 (advSN s ms), .int .i64 (advSV s ms)], h') ∧ RS h' oT ep (advS s ms) f' v' ∧ Kc h h' := by
  suffices hgo : ∃ y h', callW Φ ref27_advance [.agg (cellsS oT ep s v), .int .i64 ms] h = some (y, h') ∧ AdvP h oT ep (advS s ms) (advSN s ms) (advSV s ms) y h' by
    obtain ⟨y, h', h1, f', v', rfl, h2⟩ := hgo
    exact ⟨f', v', h', h1, h2⟩
  obtain ⟨b, hb⟩ : ∃ b, b = h.length := ⟨_, rfl⟩
  have hbx1 : evBox h (cellsS oT ep s v) = some (.ptr b 0, h ++ [Ob.cells (cellsS oT ep s v)]) := by
    rw [hb]
    simp [evBox, cellsS_cell r s oT ep]
  obtain ⟨Ha, hHa⟩ : ∃ Ha, Ha = h ++ [Ob.cells (cellsS oT ep s v)] := ⟨_, rfl⟩
  have hla : Ha.length = b + 1 := by rw [hHa, hb]; simp
  obtain ⟨H, hH⟩ : ∃ H, H = Ha ++ [Ob.cells [.bool false, .int .i64 0, .int .i64 0, .nils, .nils, .nils]] := ⟨_, rfl⟩
  have hext : H = h ++ [Ob.cells (cellsS oT ep s v), Ob.cells [.bool false, .int .i64 0, .int .i64 0, .nils, .nils, .nils]] := by rw [hH, hHa]; simp
  have rH : RS H oT ep s f v := by rw [hext]; exact r.ext _
  have x : Bx h H b (cellsS oT ep s v) := ⟨by rw [hext, hb]; simp, by rw [hext, hb]; simp, by rw [hext]; exact .ext _ _, by omega⟩
  rw [← hHa] at hbx1
  have hcc : (V.agg (cellsS oT ep s v)).cells = cellsS oT ep s v := rfl
  have c1 := pt_at x.kb 1
  have hws : IntKind.i64.wrap (1125899906842624 - s.clock) = 1125899906842624 - s.clock := by rw [Ev.wrap64] <;> omega
  refine call_x ref27_advance.Φ rfl (Nat.le_of_ble_eq_true rfl) (fun env he g => ?_)
  have g0 := g 0 (by simp)
  have g1 := g 1 (by simp)
  change eget env 0 = .agg (cellsS oT ep s v) at g0
  change eget env 1 = .int .i64 ms at g1
  clear g
  simp [ref27_advance.c] at he
  by_cases hbad : ms < 0 ∨ ms > 1125899906842624 - s.clock
  · have e1 : advS s ms = s := by simp only [advS, if_pos hbad]
    have e2 : advSN s ms = 0 := by simp only [advSN, if_pos hbad]
    have e3 : advSV s ms = 2 := by simp only [advSV, if_pos hbad]
    obtain ⟨z1, z2, z3, z4⟩ := x.fin rfl (cellsS_cell rH s oT ep)
    have fin : AdvP h oT ep (advS s ms) (advSN s ms) (advSV s ms) (.tup [.agg (cellsS oT ep s v), .int .i64 0, .int .i64 2]) (H.set (b + 1) (.cells (cellsS oT ep s v))) := by
      rw [e1, e2, e3]
      exact ⟨f, v, rfl, rH.set x.kz, x.K.set (by omega) _⟩
    obtain ⟨D, hD⟩ : ∃ D, D = cellsS oT ep s v := ⟨_, rfl⟩
    have hDl : D.length = 6 := by rw [hD]; rfl
    simp only [cellsS, List.drop_zero, List.drop_succ_cons] at c1
    rw [← hD] at z1 z2 z3 z4 fin g0 hcc hbx1
    by_cases hneg : ms < 0
    · simp (config := { maxSteps := 5000000 }) [ref27_advance.c, ref27_advance.r0, ref27_advance.r1, ref27_advance.r2, g0, g1, he, okV, fV_eq, hcc, hbx1, hla, ← hH, faddr_ptr, evPick, hneg, z1, z2, z3, z4, hDl, fin, ofCells]
    · have hgt : ms > 1125899906842624 - s.clock := by omega
      have hgt' : 1125899906842624 - s.clock < ms := hgt
      simp (config := { maxSteps := 5000000 }) [ref27_advance.c, ref27_advance.r0, ref27_advance.r1, ref27_advance.r2, g0, g1, he, okV, fV_eq, hcc, hbx1, hla, ← hH, faddr_ptr, evPick, hneg, c1, hws, hgt', z1, z2, z3, z4, hDl, fin, ofCells]
  · have hneg : ¬ ms < 0 := fun q => hbad (.inl q)
    have hgt : ¬ ms > 1125899906842624 - s.clock := fun q => hbad (.inr q)
    have hgt' : ¬ 1125899906842624 - s.clock < ms := hgt
    have e1 : advS s ms = (drain (clkL s (s.clock + ms)) s.tm.length).1 := by simp only [advS, if_neg hbad]
    have e2 : advSN s ms = (drain (clkL s (s.clock + ms)) s.tm.length).2 := by simp only [advSN, if_neg hbad]
    have e3 : advSV s ms = 0 := by simp only [advSV, if_neg hbad]
    have hw1 : IntKind.i64.wrap (s.clock + ms) = s.clock + ms := by rw [Ev.wrap64] <;> omega
    obtain ⟨S0, hS0⟩ : ∃ S0, S0 = clkL s (s.clock + ms) := ⟨_, rfl⟩
    have st1 := store_cell (off := 1) (x := .int .i64 (s.clock + ms)) x.kb (by simp [cellsS]) rfl rfl
    have ec : (cellsS oT ep s v).set 1 (.int .i64 (s.clock + ms)) = cellsS oT ep S0 v := by rw [hS0]; rfl
    rw [ec] at st1
    have r1 : RS (H.set b (.cells (cellsS oT ep S0 v))) oT ep S0 f v := by
      have := rH.set (cs' := cellsS oT ep S0 v) x.kb
      have hcont : ∀ i, cont2 S0 i = cont2 s i := fun i => by rw [hS0]; rfl
      exact ⟨this.row, fun i hi => by rw [hcont]; exact this.sl i hi, this.apart, this.ne⟩
    have x1 := x.set (cellsS oT ep S0 v)
    obtain ⟨H1, hH1⟩ : ∃ H1, H1 = H.set b (.cells (cellsS oT ep S0 v)) := ⟨_, rfl⟩
    rw [← hH1] at st1 r1 x1
    have htS : tot S0 < 2 ^ 39 := by rw [hS0]; exact ht
    have lp := fun (e : List V) he g2 g4 g7 => adv_loop r1 htS x1 (env := e) he g2 g4 g7
    have htm : S0.tm = s.tm := by rw [hS0]; rfl
    rw [htm, hS0] at lp
    rw [e1, e2, e3]
    obtain ⟨D, hD⟩ : ∃ D, D = cellsS oT ep s v := ⟨_, rfl⟩
    simp only [cellsS, List.drop_zero, List.drop_succ_cons] at c1
    rw [← hD] at g0 hcc hbx1
    simp (config := { maxSteps := 5000000 }) [ref27_advance.c, ref27_advance.r0, ref27_advance.r1, ref27_advance.r3, ref27_advance.r4, g0, g1, he, okV, fV_eq, hcc, hbx1, hla, ← hH, faddr_ptr, evPick, hneg, c1, hws, hgt', hw1, st1, ofCells]
    refine lp _ ?_ ?_ ?_ ?_ <;> simp [he]
end Go.Proofs.Lp
