/- LoopDoes: the plain law: the program's loop and the book's. LoopDoes: the plain law: every step. LoopDoes. No conditions. -/
import Derived.Test.YtgfebbhjpgkdfaaLpL
import Derived.Test.YtgfebbhjpgkdfaaLpGu
import Derived.Test.YtgfebbhjpgkdfaaLpFe
namespace Go.Proofs.Lp
open Go Go.Ev
set_option linter.unusedVariables false
set_option linter.unusedSimpArgs false

/-- The book's timers: by their numbers. -/
def byNum (l : List Tm) : Prop := l.Pairwise fun a b => a.num < b.num

/-- The program's loop stands as the book's. -/
structure Twin (L s : LS) : Prop where
  q : L.q = s.q
  clock : L.clock = s.clock
  given : L.given = s.given
  closed : L.closed = s.closed
  perm : L.tm.Perm s.tm
  srt : srt L.tm
  num : byNum s.tm
  le : ∀ t ∈ s.tm, t.num ≤ s.given

theorem take_cons {l : List Tm} {k : Nat} {t : Tm} (h : l[k]? = some t) : l = l.take k ++ t :: l.drop (k + 1) := by
  obtain ⟨h1, h2⟩ := List.getElem?_eq_some_iff.1 h
  rw [← h2, ← List.drop_eq_getElem_cons h1, List.take_append_drop]
theorem cut_perm {l : List Tm} {k : Nat} {t : Tm} (h : l[k]? = some t) : l.Perm (t :: (l.take k ++ l.drop (k + 1))) := by
  have e := take_cons h
  have : (l.take k ++ t :: l.drop (k + 1)).Perm (t :: (l.take k ++ l.drop (k + 1))) := List.perm_middle
  rw [← e] at this
  exact this
theorem cut_sub (l : List Tm) (k : Nat) : (l.take k ++ l.drop (k + 1)).Sublist l := by
  have h1 : (l.drop (k + 1)).Sublist (l.drop k) := by
    rw [← List.drop_drop]
    exact List.drop_sublist _ _
  have := (List.Sublist.refl (l.take k)).append h1
  rwa [List.take_append_drop] at this

/-- The next one, by its time, and of one time by its place. -/
theorem soon_min {l : List Tm} : ∀ {i k : Nat}, i ≤ l.length → soon l i = some k → ∃ t, l[k]? = some t ∧ ∀ j u, j < i → l[j]? = some u → t.due ≤ u.due ∧ (u.due = t.due → k ≤ j)
  | 0, k, _, h => by cases h
  | i + 1, k, hi, h => by
    obtain ⟨t, ht⟩ : ∃ t, l[i]? = some t := ⟨_, List.getElem?_eq_getElem (by omega)⟩
    cases hs : soon l i with
    | none =>
      have := soon_none (by omega) hs
      subst this
      simp only [soon, ht, hs] at h
      cases h
      refine ⟨t, ht, fun j u hj hu => ?_⟩
      have : j = 0 := by omega
      subst this
      rw [ht] at hu
      cases hu
      exact ⟨Int.le_refl _, fun _ => Nat.le_refl _⟩
    | some k' =>
      obtain ⟨t', ht', hm⟩ := soon_min (by omega) hs
      have hk' := (soon_lt hs).1
      simp only [soon, ht, hs, ht'] at h
      by_cases hd : t.due < t'.due
      · rw [if_pos hd] at h
        cases h
        refine ⟨t, ht, fun j u hj hu => ?_⟩
        by_cases e : j = i
        · subst e
          rw [ht] at hu
          cases hu
          exact ⟨Int.le_refl _, fun _ => Nat.le_refl _⟩
        · have := (hm j u (by omega) hu).1
          exact ⟨by omega, fun e => by omega⟩
      · rw [if_neg hd] at h
        cases h
        refine ⟨t', ht', fun j u hj hu => ?_⟩
        by_cases e : j = i
        · subst e
          rw [ht] at hu
          cases hu
          exact ⟨by omega, fun _ => by omega⟩
        · exact hm j u (by omega) hu

theorem byNum_at {l : List Tm} (h : byNum l) {i j : Nat} {a b : Tm} (hij : i < j) (ha : l[i]? = some a) (hb : l[j]? = some b) : a.num < b.num := by
  obtain ⟨h1, rfl⟩ := List.getElem?_eq_some_iff.1 ha
  obtain ⟨h2, rfl⟩ := List.getElem?_eq_some_iff.1 hb
  exact List.pairwise_iff_getElem.1 h i j h1 h2 hij

/-- The next one is the first of the sorted ones. -/
theorem soon_head {T S : List Tm} {t : Tm} (hp : (t :: T).Perm S) (hs : srt (t :: T)) (hn : byNum S) : ∃ k, soon S S.length = some k ∧ S[k]? = some t ∧ T.Perm (S.take k ++ S.drop (k + 1)) := by
  have hl := hp.length_eq
  simp only [List.length_cons] at hl
  obtain ⟨k, hk⟩ : ∃ k, soon S S.length = some k := by
    cases h : soon S S.length with
    | none =>
      have := soon_none (Nat.le_refl _) h
      omega
    | some k => exact ⟨k, rfl⟩
  obtain ⟨u, hu, hm⟩ := soon_min (Nat.le_refl _) hk
  have htS : t ∈ S := hp.subset (by simp)
  obtain ⟨j, hj⟩ := List.getElem?_of_mem htS
  have hjl := (List.getElem?_eq_some_iff.1 hj).1
  have huT : u ∈ t :: T := hp.symm.subset (List.mem_of_getElem? hu)
  have e : u = t := by
    rcases List.mem_cons.1 huT with e | hu'
    · exact e
    · exfalso
      have h1 := (List.pairwise_cons.1 hs).1 u hu'
      obtain ⟨h2, h3⟩ := hm j t hjl hj
      rcases h1 with h1 | ⟨h1, h1'⟩
      · omega
      · have hkj := h3 h1
        by_cases ek : k = j
        · subst ek
          rw [hu] at hj
          cases hj
          omega
        · have := byNum_at hn (by omega) hu hj
          omega
  subst e
  exact ⟨k, hk, hu, List.Perm.cons_inv (hp.trans (cut_perm hu))⟩

theorem Twin.sum {L s : LS} (w : Twin L s) (n : Nat) : sumq L n = sumq s n := sumq_q w.q n
theorem Twin.tot {L s : LS} (w : Twin L s) : tot L = tot s := by
  unfold Lp.tot
  rw [w.sum, w.q, w.perm.length_eq]
theorem Twin.fault {L s : LS} (w : Twin L s) (b : Bool) : faultV L b = faultV s b := by
  unfold faultV
  rw [w.tot, w.closed]
theorem Twin.alike {L s : LS} (w : Twin L s) : Alike L s := by
  refine ⟨w.sum 8, by rw [w.q], w.perm.length_eq, ?_, w.clock, w.given⟩
  cases hT : L.tm with
  | nil =>
    have hp := w.perm
    rw [hT] at hp
    have : s.tm = [] := List.Perm.nil_eq hp |>.symm
    rw [this]
    simp only [List.length_nil, soon]
    simp [dueV, hT]
  | cons t T =>
    have hp := w.perm
    have hs := w.srt
    rw [hT] at hp hs
    obtain ⟨k, h1, h2, _⟩ := soon_head hp hs w.num
    rw [h1]
    simp only
    exact ⟨t, h2, by simp [dueV, hT]⟩
theorem Twin.new : Twin LS.new LS.new := ⟨rfl, rfl, rfl, rfl, .refl _, List.Pairwise.nil, List.Pairwise.nil, fun t h => by cases h⟩
theorem Twin.upq {L s : LS} (w : Twin L s) (i : Nat) (l : List Int) : Twin (upq L i l) (upq s i l) :=
  ⟨by simp only [Lp.upq, w.q], w.clock, w.given, w.closed, w.perm, w.srt, w.num, w.le⟩
theorem Twin.rdy {L s : LS} (w : Twin L s) : ∀ n, rdy L n = rdy s n
  | 0 => rfl
  | n + 1 => by simp only [Lp.rdy, w.rdy n, w.q]
theorem Twin.next {L s : LS} (w : Twin L s) (p : Int) : (nextR L p).1 = (nextR s p).1 ∧ Twin (nextR L p).2 (nextR s p).2 := by
  unfold nextR
  rw [w.q, w.rdy 8]
  split
  · exact ⟨rfl, w.upq _ _⟩
  · split
    · exact ⟨rfl, w⟩
    · split
      · exact ⟨rfl, w⟩
      · exact ⟨rfl, w.upq _ _⟩

/-- Timers that are due. -/
theorem drain_twin : ∀ (T : List Tm) (s : LS), T.Perm s.tm → Lp.srt T → byNum s.tm →
    ∃ R, drain s s.tm.length = ({ Lp.upq s 1 (s.q 1 ++ (T.take (ripe s.clock T)).map Tm.id) with tm := R }, ripe s.clock T) ∧ (T.drop (ripe s.clock T)).Perm R ∧ R.Sublist s.tm
  | [], s, hp, _, _ => by
    have hz : s.tm = [] := (List.Perm.nil_eq hp).symm
    refine ⟨[], ?_, .nil, by rw [hz]; exact List.Sublist.refl _⟩
    rw [hz]
    have e : (fun k => if k = 1 then s.q 1 ++ [] else s.q k) = s.q := by
      funext k
      by_cases h : k = 1
      · subst h; simp
      · rw [if_neg h]
    simp only [List.length_nil, drain, ripe, List.take_nil, List.map_nil, Lp.upq, e]
    cases s
    simp only at hz
    rw [hz]
  | t :: T, s, hp, hs, hn => by
    obtain ⟨k, h1, h2, h3⟩ := soon_head hp hs hn
    have hkl := (List.getElem?_eq_some_iff.1 h2).1
    have hl := hp.length_eq
    simp only [List.length_cons] at hl
    rw [← hl]
    rw [← hl] at h1
    by_cases hd : t.due > s.clock
    · have hr : ripe s.clock (t :: T) = 0 := by simp only [ripe]; rw [if_neg (by omega)]
      refine ⟨s.tm, ?_, by rw [hr]; exact hp, .refl _⟩
      rw [hr]
      have e : (fun k => if k = 1 then s.q 1 ++ [] else s.q k) = s.q := by
        funext k
        by_cases h : k = 1
        · subst h; simp
        · rw [if_neg h]
      simp only [drain]
      rw [← hl, h1]
      simp only [h2, if_pos hd, List.take_zero, List.map_nil, Lp.upq, e]
    · have hr : ripe s.clock (t :: T) = ripe s.clock T + 1 := by simp only [ripe]; rw [if_pos (by omega)]
      have hpl := popT_len (t := t) hkl
      have hTl : T.length = (popT s k t).tm.length := by omega
      have hn' : byNum (popT s k t).tm := List.Pairwise.sublist (cut_sub s.tm k) hn
      obtain ⟨R, e1, e2, e3⟩ := drain_twin T (popT s k t) h3 (List.pairwise_cons.1 hs).2 hn'
      rw [← hTl] at e1
      have hc : (popT s k t).clock = s.clock := rfl
      rw [hc] at e1 e2
      refine ⟨R, ?_, by rw [hr]; exact e2, e3.trans (cut_sub s.tm k)⟩
      simp only [drain]
      rw [← hl, h1]
      simp only [h2, if_neg hd, e1, hr, List.take_succ_cons, List.map_cons]
      congr 1
      have hq : (popT s k t).q 1 = s.q 1 ++ [t.id] := rfl
      simp only [Lp.upq, hq, List.append_assoc, List.singleton_append]
      congr 1
      funext j
      by_cases hj : j = 1
      · simp only [if_pos hj]
      · simp only [if_neg hj, popT, Lp.upq]
end Go.Proofs.Lp

namespace Go.Proofs.Lp
open Go Go.Ev
set_option linter.unusedVariables false
set_option linter.unusedSimpArgs false

theorem place_is {n : Int} {l : List Tm} : (place n l).isSome = true ↔ ∃ t ∈ l, t.num = n := by
  constructor
  · intro h
    cases hp : place n l with
    | none => rw [hp] at h; cases h
    | some i =>
      obtain ⟨t, h1, h2⟩ := place_num hp
      exact ⟨t, List.mem_of_getElem? h1, h2⟩
  · rintro ⟨t, h1, h2⟩
    cases hp : place n l with
    | none => exact (place_none hp t h1 h2).elim
    | some i => rfl

theorem byNum_inj {l : List Tm} (h : byNum l) {a b : Tm} (ha : a ∈ l) (hb : b ∈ l) (e : a.num = b.num) : a = b := by
  obtain ⟨i, hi⟩ := List.getElem?_of_mem ha
  obtain ⟨j, hj⟩ := List.getElem?_of_mem hb
  rcases Nat.lt_trichotomy i j with q | q | q
  · have := byNum_at h q hi hj; omega
  · subst q; rw [hi] at hj; cases hj; rfl
  · have := byNum_at h q hj hi; omega

theorem Twin.clear {L s : LS} (w : Twin L s) (n : Int) : (place n L.tm).isSome = (place n s.tm).isSome ∧ Twin (clearL L n) (clearL s n) := by
  have hiff : (place n L.tm).isSome = true ↔ (place n s.tm).isSome = true := by
    rw [place_is, place_is]
    exact ⟨fun ⟨t, h1, h2⟩ => ⟨t, w.perm.subset h1, h2⟩, fun ⟨t, h1, h2⟩ => ⟨t, w.perm.symm.subset h1, h2⟩⟩
  refine ⟨Bool.eq_iff_iff.2 hiff, ?_⟩
  unfold clearL
  cases hL : place n L.tm with
  | none =>
    cases hs : place n s.tm with
    | none => exact w
    | some k => rw [hL, hs] at hiff; simp at hiff
  | some i =>
    cases hs : place n s.tm with
    | none => rw [hL, hs] at hiff; simp at hiff
    | some k =>
      obtain ⟨t, t1, t2⟩ := place_num hL
      obtain ⟨u, u1, u2⟩ := place_num hs
      have e : t = u := byNum_inj w.num (w.perm.subset (List.mem_of_getElem? t1)) (List.mem_of_getElem? u1) (by omega)
      subst e
      refine ⟨w.q, w.clock, w.given, w.closed, ?_, List.Pairwise.sublist (cut_sub L.tm i) w.srt, List.Pairwise.sublist (cut_sub s.tm k) w.num, fun x hx => w.le x ((cut_sub s.tm k).subset hx)⟩
      exact List.Perm.cons_inv (((cut_perm t1).symm.trans w.perm).trans (cut_perm u1))

theorem Twin.after {L s : LS} (w : Twin L s) (ms level id : Int) :
    Twin { L with given := L.given + 1, tm := L.tm.take (spot L.tm (afterT L ms level id).due L.tm.length) ++ [afterT L ms level id] ++ L.tm.drop (spot L.tm (afterT L ms level id).due L.tm.length) }
      { s with given := s.given + 1, tm := s.tm ++ [afterT s ms level id] } := by
  have et : afterT L ms level id = afterT s ms level id := by simp only [afterT, w.given, w.clock]
  have hn : (afterT s ms level id).num = s.given + 1 := rfl
  obtain ⟨t, ht⟩ : ∃ t, t = afterT s ms level id := ⟨_, rfl⟩
  rw [et, ← ht]
  rw [← ht] at hn
  refine ⟨w.q, w.clock, by simp only [w.given], w.closed, ?_, spot_ins w.srt (fun x hx => by have := w.le x (w.perm.subset hx); omega), ?_, fun x hx => ?_⟩
  · have h1 : (L.tm.take (spot L.tm t.due L.tm.length) ++ [t] ++ L.tm.drop (spot L.tm t.due L.tm.length)).Perm (t :: (L.tm.take (spot L.tm t.due L.tm.length) ++ L.tm.drop (spot L.tm t.due L.tm.length))) := by
      rw [List.append_assoc]
      exact List.perm_middle
    rw [List.take_append_drop] at h1
    have h2 : (s.tm ++ [t]).Perm (t :: s.tm) := List.perm_append_singleton t s.tm
    exact (h1.trans (w.perm.cons t)).trans h2.symm
  · simp only [byNum, List.pairwise_append, List.pairwise_singleton, true_and]
    refine ⟨w.num, fun a ha b hb => ?_⟩
    simp only [List.mem_singleton] at hb
    subst hb
    have := w.le a ha
    omega
  · simp only [List.mem_append, List.mem_singleton] at hx
    simp only
    rcases hx with hx | hx
    · have := w.le x hx; omega
    · subst hx; omega

/-- Every step is answered as the book says, and the loop stands as the book's. -/
theorem Twin.step {L s : LS} {n : Int} (w : Twin L s) (ok : Ok n L) (x : Step) : (doA L x).1 = (refA s x).1 ∧ Twin (doA L x).2 (refA s x).2 := by
  unfold doA refA doR
  by_cases k7 : x.kind = 7
  · have k123 : ¬ (x.kind = 1 ∨ x.kind = 2 ∨ x.kind = 3) := by omega
    have k4 : ¬ x.kind = 4 := by omega
    have k5 : ¬ x.kind = 5 := by omega
    have k6 : ¬ x.kind = 6 := by omega
    simp only [if_pos k7, if_neg k123, if_neg k4, if_neg k5, if_neg k6]
    refine ⟨by rw [w.closed], ?_⟩
    unfold closeL
    by_cases hc : L.closed = true
    · rw [if_pos hc]
      obtain ⟨h1, h2⟩ := ok.shut hc
      refine ⟨funext h2, w.clock, w.given, hc, by rw [h1], w.srt, List.Pairwise.nil, fun t h => by cases h⟩
    · rw [if_neg hc]
      exact ⟨rfl, w.clock, w.given, rfl, .refl _, List.Pairwise.nil, List.Pairwise.nil, fun t h => by cases h⟩
  · simp only [if_neg k7]
    by_cases k1 : x.kind = 1
    · have k123 : x.kind = 1 ∨ x.kind = 2 ∨ x.kind = 3 := .inl k1
      have n3 : ¬ x.kind = 3 := by omega
      have ev : putV s x = faultV L (decide (0 ≤ x.source ∧ x.source < 8)) := by unfold putV putOk; rw [if_pos k1, w.fault]
      have en : putN s x = 0 := by unfold putN; rw [if_neg (fun q => n3 q.2)]
      simp only [if_pos k1, if_pos k123, putS, ev, en, taskL, true_and]
      split
      · rw [w.q]; exact w.upq _ _
      · exact w
    · by_cases k2 : x.kind = 2
      · have k123 : x.kind = 1 ∨ x.kind = 2 ∨ x.kind = 3 := .inr (.inl k2)
        have n3 : ¬ x.kind = 3 := by omega
        have ev : putV s x = faultV L true := by unfold putV putOk; rw [if_neg k1, if_neg n3, w.fault]
        have en : putN s x = 0 := by unfold putN; rw [if_neg (fun q => n3 q.2)]
        simp only [if_neg k1, if_pos k2, if_pos k123, putS, ev, en, microL, true_and]
        split
        · rw [w.q]; exact w.upq _ _
        · exact w
      · by_cases k3 : x.kind = 3
        · have k123 : x.kind = 1 ∨ x.kind = 2 ∨ x.kind = 3 := .inr (.inr k3)
          have ev : putV s x = faultV L (afterOk x.ms x.level) := by unfold putV putOk; rw [if_neg k1, if_pos k3, w.fault]
          simp only [if_neg k1, if_neg k2, if_pos k3, if_pos k123, putS, putN, ev, afterV, afterL, and_true]
          by_cases hz : faultV L (afterOk x.ms x.level) = 0
          · simp only [if_pos hz]
            exact ⟨by rw [w.given, hz, if_pos (And.intro rfl k3)], w.after _ _ _⟩
          · simp only [if_neg hz]
            exact ⟨by rw [if_neg (fun q => hz q.1)], w⟩
        · have k123 : ¬ (x.kind = 1 ∨ x.kind = 2 ∨ x.kind = 3) := by omega
          simp only [if_neg k1, if_neg k2, if_neg k3, if_neg k123]
          by_cases k4 : x.kind = 4
          · simp only [if_pos k4]
            obtain ⟨h1, h2⟩ := w.clear x.timer
            exact ⟨by rw [h1], h2⟩
          · simp only [if_neg k4]
            by_cases k5 : x.kind = 5
            · simp only [if_pos k5, advV, advN, advL, w.closed]
              by_cases hc : s.closed = true
              · simp only [hc, if_true]
                exact ⟨rfl, w⟩
              · have hc' : s.closed = false := by simpa using hc
                simp only [hc', if_false, Bool.false_eq_true, advS, advSN, advSV, w.clock]
                by_cases hb : x.ms < 0 ∨ x.ms > 1125899906842624 - s.clock
                · simp only [if_pos hb]
                  exact ⟨rfl, w⟩
                · simp only [if_neg hb, if_true]
                  obtain ⟨R, e1, e2, e3⟩ := drain_twin L.tm (clkL s (s.clock + x.ms)) w.perm w.srt w.num
                  have e0 : (clkL s (s.clock + x.ms)).tm.length = s.tm.length := rfl
                  rw [e0] at e1
                  rw [e1]
                  refine ⟨rfl, ?_⟩
                  refine ⟨?_, rfl, w.given, by simp only [midL, Lp.upq, clkL]; exact w.closed, e2, List.Pairwise.sublist (List.drop_sublist _ _) w.srt, List.Pairwise.sublist e3 w.num, fun t ht => w.le t (e3.subset ht)⟩
                  simp only [midL, Lp.upq, clkL, w.q]
            · simp only [if_neg k5]
              by_cases k6 : x.kind = 6
              · simp only [if_pos k6]
                obtain ⟨h1, h2⟩ := w.next x.source
                exact ⟨by rw [h1], h2⟩
              · simp only [if_neg k6]
                exact ⟨trivial, w⟩
end Go.Proofs.Lp

namespace Go.Proofs.Lp
open Go Go.Ev
set_option linter.unusedVariables false
set_option linter.unusedSimpArgs false

set_option maxHeartbeats 16000000 in
set_option maxRecDepth 8000 in
theorem does_loop {P : V → Heap → Prop} (hP : ∀ h, P (.bool true) h) {S : List Step} (hS : S.length < 2 ^ 62) {hp : Heap} {l c : Nat} {L s : LS} {f : Nat → Option Nat} (hr : Rep hp l L f) (hok : Ok 0 L) (hw : Twin L s) (hc : hp[c]? = some (.cells (cellsF s))) (hcl : ¬ own l f c)
    {env : List V} (he : env.length = 60) (g0 : eget env 0 = .arr (S.map cS)) (g3 : eget env 3 = .ptr l 0) (g4 : eget env 4 = .ptr c 0) :
    WK (callW Φ) none (FinX [.tmp 2] P) [.o law27_LoopDoes.r5, .c (snd (fst (snd (snd (snd (snd law27_LoopDoes.c.body)))))), .c (snd (snd (snd (snd (snd law27_LoopDoes.c.body)))))] { env := env, marks := [], heap := hp } := by
  have hln : ∀ h, evLen h .l (.arr (S.map cS)) = some (.int .i64 S.length, h) := fun h => by simp [evLen, lenV, fNat_eq]
  simp only [snd, fst, law27_LoopDoes.c]
  simp [law27_LoopDoes.r5, g0, he, okV, fV_eq, hln]
  refine kLoop (fun m st => ∃ i : Nat, m = S.length - i ∧ i ≤ S.length ∧ st.env.length = 60 ∧ eget st.env 3 = .ptr l 0 ∧ eget st.env 4 = .ptr c 0 ∧ eget st.env 18 = .arr (S.map cS) ∧ eget st.env 19 = .int .i64 S.length ∧ eget st.env 20 = .int .i64 i ∧ st.marks = [] ∧
      ∃ L s f, Rep st.heap l L f ∧ Ok i L ∧ Twin L s ∧ st.heap[c]? = some (.cells (cellsF s)) ∧ ¬ own l f c) S.length ⟨0, by
      simp [g3, g4, he]
      exact ⟨L, s, f, hr, hok, hw, hc, hcl⟩⟩ ?_
  clear hr hok hw hc hcl g0 g3 g4 he
  rintro m ⟨e, mk, hq⟩ ⟨i, rfl, hi, he, k3, k4, k18, k19, k20, hm, L, s, f, hr, hok, hw, hc, hcl⟩
  simp only at he k3 k4 k18 k19 k20 hm hr hc
  obtain rfl := hm
  by_cases hlt : i < S.length
  · obtain ⟨x, hx⟩ : ∃ x, S[i]? = some x := ⟨_, List.getElem?_eq_getElem hlt⟩
    have ha := arr_at (h := hq) (sz := 6) (k := .i64) (xs := S.map cS) (i := i) (e := cS x) (by rw [List.getElem?_map, hx]; rfl) rfl
    have hi1 : (i : Int) < (S.length : Int) := by omega
    have hw1 : IntKind.i64.wrap ((i : Int) + 1) = ((i + 1 : Nat) : Int) := by rw [Ev.wrap64] <;> omega
    have q1 := hok.tot
    have q2 := hok.gn
    have q3 := hok.g0
    have q4 := hok.c0
    have q5 := hok.cm
    obtain ⟨es, hw'⟩ := hw.step hok x
    have ok' := hok.step x
    have htw := hw.tot
    have hcl' := (List.getElem?_eq_some_iff.1 hc).1
    -- the step
    obtain ⟨H1, e1⟩ : ∃ H1, H1 = hq ++ [Ob.cells (cS x)] := ⟨_, rfl⟩
    have st1 : evStoreV (hq ++ [Ob.cells [.int .u8 0, .int .i64 0, .int .i64 0, .int .i64 0, .int .i64 0, .int .i64 0]]) 6 (.ptr hq.length 0) (.agg (cS x)) = some (V.non, H1) := by
      rw [e1]; simp [evStoreV, evStore, V.cells, V.isCell, setRange, cS]
    have l1 : H1.length = hq.length + 1 := by rw [e1]; simp
    have K1 : Kc hq H1 := by rw [e1]; exact .ext _ _
    have x1 : H1[hq.length]? = some (.cells (cS x)) := by rw [e1]; simp
    -- the book
    have cr := ref_do H1 (s := s) (by rw [← htw]; omega) (by rw [← hw.given]; exact q3) (by rw [← hw.given]; omega) (by rw [← hw.clock]; exact q4) (by rw [← hw.clock]; exact q5) x
    obtain ⟨A, hA⟩ : ∃ A, A = (doA L x).1 := ⟨_, rfl⟩
    obtain ⟨s', hs'⟩ : ∃ s', s' = (refA s x).2 := ⟨_, rfl⟩
    obtain ⟨L', hL'⟩ : ∃ L', L' = (doA L x).2 := ⟨_, rfl⟩
    rw [← es, ← hA, ← hs'] at cr
    rw [← hs', ← hL'] at hw'
    rw [← hL'] at ok'
    -- what it is kept in
    obtain ⟨H2, e2⟩ : ∃ H2, H2 = H1 ++ [Ob.cells (cellsF s'), Ob.cells (cN A.2.1)] := ⟨_, rfl⟩
    have stA : evStoreV (H1 ++ [Ob.cells [.bool false, .int .i64 0, .int .i64 0, .nils, .nils, .nils], Ob.cells [.int .u8 0, .int .i64 0, .int .i64 0]]) 6 (.ptr H1.length 0) (.agg (cellsF s')) = some (V.non, H1 ++ [Ob.cells (cellsF s'), Ob.cells [.int .u8 0, .int .i64 0, .int .i64 0]]) := by
      simp [evStoreV, evStore, V.cells, V.isCell, setRange, cellsF]
    have stB : evStoreV (H1 ++ [Ob.cells (cellsF s'), Ob.cells [.int .u8 0, .int .i64 0, .int .i64 0]]) 3 (.ptr (H1.length + 1) 0) (.agg (cN A.2.1)) = some (V.non, H2) := by
      rw [e2]; simp [evStoreV, evStore, V.cells, V.isCell, setRange, cN]
    have K2 : Kc H1 H2 := by rw [e2]; exact .ext _ _
    have l2 : H2.length = H1.length + 2 := by rw [e2]; simp
    have y2 : H2[H1.length]? = some (.cells (cellsF s')) := by rw [e2]; simp
    have z2 : H2[H1.length + 1]? = some (.cells (cN A.2.1)) := by rw [e2]; simp
    have c2 : H2[c]? = some (.cells (cellsF s)) := K2 _ _ (K1 _ _ hc)
    -- the state is the book's
    have stC := store6 (ds := cellsF s') c2 rfl (by rfl)
    obtain ⟨H3, e3⟩ : ∃ H3, H3 = H2.set c (.cells (cellsF s')) := ⟨_, rfl⟩
    rw [← e3] at stC
    have l3 : H3.length = H2.length := by rw [e3]; simp
    have o3 : ∀ j, j ≠ c → H3[j]? = H2[j]? := fun j hj => by rw [e3, List.getElem?_set_ne (fun e => hj e.symm)]
    have c3 : H3[c]? = some (.cells (cellsF s')) := by rw [e3]; exact List.getElem?_set_self (by omega)
    have x3 : H3[hq.length]? = some (.cells (cS x)) := by rw [o3 _ (by omega)]; exact K2 _ _ x1
    have z3 : H3[H1.length + 1]? = some (.cells (cN A.2.1)) := by rw [o3 _ (by omega)]; exact z2
    have r1 : Rep H1 l L f := by rw [e1]; exact hr.ext _
    have r3 : Rep H3 l L f := by
      have r2 : Rep H2 l L f := by rw [e2]; exact r1.ext _
      exact r2.mono fun j hj => o3 j (fun e => hcl (e ▸ hj))
    -- the program
    obtain ⟨H4, f4, c4, r4, fr4⟩ := do_all r3 (by omega) q3 (by omega) q4 q5 x
    rw [← hA] at c4
    rw [← hL'] at r4
    have hlt3 : ∀ j, own l f j → j < hq.length := fun j hj => hr.lt hj
    have l4 := fr4.len
    have c4' : H4[c]? = some (.cells (cellsF s')) := by rw [fr4.rest c (by omega) hcl]; exact c3
    have z4 : H4[H1.length + 1]? = some (.cells (cN A.2.1)) := by rw [fr4.rest _ (by omega) (fun ho => by have := hlt3 _ ho; omega)]; exact z3
    obtain ⟨H5, e5⟩ : ∃ H5, H5 = H4 ++ [Ob.cells (cN A.2.1)] := ⟨_, rfl⟩
    have stD : evStoreV (H4 ++ [Ob.cells [.int .u8 0, .int .i64 0, .int .i64 0]]) 3 (.ptr H4.length 0) (.agg (cN A.2.1)) = some (V.non, H5) := by
      rw [e5]; simp [evStoreV, evStore, V.cells, V.isCell, setRange, cN]
    have K5 : Kc H4 H5 := by rw [e5]; exact .ext _ _
    have r5 : Rep H5 l L' f4 := by rw [e5]; exact r4.ext _
    have w5 : H5[H4.length]? = some (.cells (cN A.2.1)) := by rw [e5]; simp
    have z5 := K5 _ _ z4
    have c5 := K5 _ _ c4'
    -- alike
    obtain ⟨E, lk⟩ := like_spec r5 (by have := ok'.tot; omega) (by rw [← hw'.tot]; have := ok'.tot; omega) hw'.alike
    obtain ⟨H6, e6⟩ : ∃ H6, H6 = H5 ++ E := ⟨_, rfl⟩
    rw [← e6] at lk
    have K6 : Kc H5 H6 := by rw [e6]; exact .ext _ _
    have r6 : Rep H6 l L' f4 := by rw [e6]; exact r5.ext _
    have c6 := K6 _ _ c5
    have hcl4 : ¬ own l f4 c := fun ho => by
      rcases fr4.new c ho with q | q
      · exact hcl q
      · omega
    have eqt := eq_turn H5 A.2.1
    have p0 := cells_at x1
    have p1 := cells_at x3
    have p2 := cells_at y2
    have p3 := cells_at z5
    have p4 := cells_at w5
    have p5 := cells_at c5
    have p6 := cells_at (K1 _ _ hc)
    obtain ⟨F, hF⟩ : ∃ F, F = cellsF s := ⟨_, rfl⟩
    have hFl : F.length = 6 := by rw [hF]; rfl
    have hFt : List.take 6 F = F := by rw [← hFl]; exact List.take_length
    obtain ⟨F', hF'⟩ : ∃ F', F' = cellsF s' := ⟨_, rfl⟩
    have hFl' : F'.length = 6 := by rw [hF']; rfl
    have hFt' : List.take 6 F' = F' := by rw [← hFl']; exact List.take_length
    obtain ⟨X, hX⟩ : ∃ X, X = cS x := ⟨_, rfl⟩
    have hXl : X.length = 6 := by rw [hX]; rfl
    have hXt : List.take 6 X = X := by rw [← hXl]; exact List.take_length
    rw [← hF] at cr p6
    rw [← hF'] at cr stA stB stC p2 p5 lk
    rw [← hX] at cr ha st1 p0 p1 c4
    rw [hFl'] at stC
    simp only [cN] at cr stB stD c4 p3 p4
    simp (config := { maxSteps := 5000000 }) [law27_LoopDoes.b14, law27_LoopDoes.r6, law27_LoopDoes.r7, law27_LoopDoes.r8, k3, k4, k18, k19, k20, he, okV, fV_eq, hi1, hlt, ha, hXl, hXt, st1, p6, hFl, hFt, p0, cr, evExt, stA, stB, ofCells]
    simp (config := { maxSteps := 5000000 }) [law27_LoopDoes.r9, law27_LoopDoes.r10, k3, k4, k18, k19, k20, he, okV, fV_eq, p2, hFl', hFt', stC, p1, hXl, hXt, c4, evExt, stD, ofCells]
    simp (config := { maxSteps := 5000000 }) [law27_LoopDoes.r11, law27_LoopDoes.r13, k3, k4, k18, k19, k20, he, okV, fV_eq, p3, p4, eqt, p5, hFl', hFt', lk, evPick, ofCells]
    exact ⟨S.length - (i + 1), by omega, i + 1, rfl, by omega, by simpa using hw1, L', s', f4, r6, by simpa using ok', hw', by rw [c6], hcl4⟩
  · have hi' : i = S.length := by omega
    subst hi'
    simp [law27_LoopDoes.b14, law27_LoopDoes.r6, law27_LoopDoes.r15, k19, k20, he, okV, fV_eq, hP]

set_option maxHeartbeats 8000000 in
set_option maxRecDepth 8000 in
theorem does_spec (S : List Step) (hS : S.length < 2 ^ 62) (h : Heap) : callW Φ law27_LoopDoes [.arr (S.map cS)] h = some (.bool true, h) := by
  obtain ⟨P, hPd⟩ : ∃ P : V → Heap → Prop, P = fun r h' => r = .bool true := ⟨_, rfl⟩
  have hP : ∀ h, P (.bool true) h := fun h => by rw [hPd]
  have hflat : flatN2 (.arr (S.map cS)) = true := by simp [flatN2, flatN, scalN, scal, cS]
  suffices hgo : ∃ r h', evBodyW (callW Φ) law27_LoopDoes.c [.arr (S.map cS)] [] = some (r, h') ∧ P r h' by
    obtain ⟨r, h', h1, h2⟩ := hgo
    rw [hPd] at h2
    subst h2
    exact callW_flat (args := [.arr (S.map cS)]) law27_LoopDoes.Φ rfl (by simp only [List.all_cons, List.all_nil, hflat, Bool.and_true]) h1 rfl
  refine body_x (Nat.le_of_ble_eq_true rfl) (fun env he g => ?_)
  have g0 := g 0 (by simp)
  change eget env 0 = .arr (S.map cS) at g0
  clear g
  simp [law27_LoopDoes.c] at he
  have hlv := lives_spec
  obtain ⟨f0, c0, r0, n0⟩ := new_spec []
  obtain ⟨H0, hH0⟩ : ∃ H0 : Heap, H0 = [] ++ [Ob.cells (cellsL (fun _ => V.nils) LS.new)] := ⟨_, rfl⟩
  rw [← hH0] at c0 r0
  have l0 : H0.length = 1 := by rw [hH0]; rfl
  have cn := ref_new H0
  obtain ⟨H1, hH1⟩ : ∃ H1 : Heap, H1 = H0 ++ [Ob.cells (cellsF LS.new)] := ⟨_, rfl⟩
  have st : evStoreV (H0 ++ [Ob.cells [.bool false, .int .i64 0, .int .i64 0, .nils, .nils, .nils]]) 6 (.ptr H0.length 0) (.agg (cellsF LS.new)) = some (V.non, H1) := by
    rw [hH1]; simp [evStoreV, evStore, V.cells, V.isCell, setRange, cellsF]
  have r1 : Rep H1 0 LS.new f0 := by rw [hH1]; exact r0.ext _
  have k1 : H1[H0.length]? = some (.cells (cellsF LS.new)) := by rw [hH1]; simp
  have hno : ¬ own 0 f0 H0.length := fun ho => by have := r0.lt ho; omega
  obtain ⟨F, hF⟩ : ∃ F, F = cellsF LS.new := ⟨_, rfl⟩
  rw [← hF] at cn st
  simp only [List.length_nil] at c0
  simp [law27_LoopDoes.c, law27_LoopDoes.r0, law27_LoopDoes.r1, law27_LoopDoes.r3, law27_LoopDoes.r4, g0, he, okV, fV_eq, hlv, c0, cn, st]
  refine does_loop hP hS r1 Ok.new Twin.new k1 hno ?_ ?_ ?_ ?_
  all_goals simp [he, g0]
end Go.Proofs.Lp
