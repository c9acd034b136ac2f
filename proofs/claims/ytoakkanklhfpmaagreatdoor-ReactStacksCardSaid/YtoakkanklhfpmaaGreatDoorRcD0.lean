/- Reactions that wait, as values; the plain law. The plain law: what is taken, till there is none. No conditions. -/
import Derived.Test.YtoakkanklhfpmaaGreatDoorRcA
set_option maxHeartbeats 16000000
set_option maxRecDepth 100000
set_option linter.unusedVariables false
set_option linter.unusedSimpArgs false
set_option linter.unusedSectionVars false
namespace Go.Proofs.Rc
open Go Go.Ev
structure Rx where
 el : Int := 0
 kind : Nat := 0
 cb : Int := 0
 df : Bs := []
 loc : Bs := []
 space : Bs := []
 old : Bs := []
 nw : Bs := []
 had : Bool := false
 has : Bool := false
 frm : Int := 0
 tt : Int := 0
 deriving DecidableEq
structure Qu where
 el : Int := 0
 l : List Rx := []
 deriving DecidableEq
structure Rs where
 qs : List Qu := []
 st : List (List Int) := []
 bk : List Int := []
 busy : Bool := false
 deriving DecidableEq
def cX (r : Rx) : List V := [.int .i64 r.el, .int .u8 r.kind, .int .i64 r.cb, T r.df, T r.loc, T r.space, T r.old, T r.nw, .bool r.had, .bool r.has, .int .i64 r.frm, .int .i64 r.tt]
def cQu (q : Qu) : List V := [.int .i64 q.el, .arr (q.l.map cX)]
def cL (l : List Int) : List V := [.arr (l.map cI)]
abbrev cS (s : Rs) : List V := [.arr (s.qs.map cQu), .arr (s.st.map cL), .arr (s.bk.map cI), .bool s.busy]
def SzL (l : List Int) : Prop := l.length ≤ 2 ^ 44
def SzQ (q : Qu) : Prop := q.l.length ≤ 2 ^ 40
def SzS (s : Rs) : Prop := s.qs.length ≤ 2 ^ 42 ∧ s.st.length * 24 ≤ 2 ^ 47 ∧ SzL s.bk ∧ (∀ q ∈ s.qs, SzQ q) ∧ ∀ l ∈ s.st, SzL l
def manyF (n : Int) (q : Qu) : Int := IntKind.i64.wrap (n + q.l.length)
def manyW (qs : List Qu) : Int := qs.foldl manyF 0
def tot (qs : List Qu) : Nat := (qs.map fun q => q.l.length).sum
def elemsB (l : List Int) : Bool := decide (l.length ≤ 4096) && l.all fun x => decide (1 ≤ x)
def okX (e : Int) (r : Rx) : Bool := decide (r.el = e) && decide (1 ≤ r.kind) && decide (r.kind < 6)
def okQ1 (q : Qu) : Bool := decide (1 ≤ q.el) && decide (q.l ≠ []) && q.l.all (okX q.el)
def els (qs : List Qu) : List Int := qs.map (·.el)
def okQs (qs : List Qu) : Bool := qs.all okQ1 && decide (els qs).Nodup
def rightB (s : Rs) : Bool := okQs s.qs && s.st.all elemsB && decide (manyW s.qs ≤ 4096) && decide (s.st.length ≤ 1024) && elemsB s.bk
theorem manyW_snoc (qs : List Qu) (q : Qu) : manyW (qs ++ [q]) = manyF (manyW qs) q := by simp [manyW, List.foldl_append]
theorem many_take {qs : List Qu} {i : Nat} {q : Qu} (h : qs[i]? = some q) : manyW (qs.take (i + 1)) = IntKind.i64.wrap (manyW (qs.take i) + q.l.length) := by
 rw [List.take_add_one, h]
 exact manyW_snoc _ _
theorem jZ6 : ∀ (qs : List Qu), tot qs < 2 ^ 62 → manyW qs = tot qs := by
 have h : ∀ (qs : List Qu) (n : Nat), n + tot qs < 2 ^ 62 → qs.foldl manyF (n : Int) = ((n + tot qs : Nat) : Int) := by
  intro qs
  induction qs with
  | nil => intro n _; simp [tot]
  | cons q r ih =>
   intro n hn
   simp only [tot, List.map_cons, List.sum_cons] at hn ih ⊢
   rw [List.foldl_cons, show manyF (n : Int) q = ((n + q.l.length : Nat) : Int) by unfold manyF; rw [wrap64 (by omega) (by omega)]; simp, ih _ (by omega)]
   congr 1; omega
 intro qs hq
 have := h qs 0 (by omega)
 simpa [manyW] using this
theorem okQs_take {qs : List Qu} {i : Nat} {q : Qu} (hq : qs[i]? = some q) (h : okQs (qs.take i) = true) (h1 : okQ1 q = true) (h2 : q.el ∉ els (qs.take i)) : okQs (qs.take (i + 1)) = true := by
 simp only [okQs, Bool.and_eq_true, decide_eq_true_eq] at h ⊢
 rw [List.take_add_one, hq]
 refine ⟨by simp [h.1, h1], ?_⟩
 simp only [els, List.map_append, Option.toList_some, List.map_cons, List.map_nil] at h2 ⊢
 rw [List.nodup_append]
 refine ⟨h.2, by simp, fun a ha b hb e => ?_⟩
 simp only [List.mem_singleton] at hb
 subst hb; subst e
 exact h2 ha
theorem kZr {qs : List Qu} {i : Nat} {q : Qu} (hq : qs[i]? = some q) (h : okQ1 q = false ∨ q.el ∈ els (qs.take i)) : okQs qs = false := by
 cases hc : okQs qs with
 | false => rfl
 | true =>
  exfalso
  simp only [okQs, Bool.and_eq_true, decide_eq_true_eq] at hc
  rcases h with h | h
  ·have := List.all_eq_true.1 hc.1 q (List.mem_of_getElem? hq)
   rw [h] at this; cases this
  ·have hi := (List.getElem?_eq_some_iff.1 hq).1
   have hn := hc.2
   rw [← List.take_append_drop i qs] at hn
   simp only [els, List.map_append] at hn h
   rw [List.nodup_append] at hn
   refine hn.2.2 _ h q.el ?_ rfl
   refine List.mem_map.2 ⟨q, ?_, rfl⟩
   rw [List.drop_eq_getElem_cons hi]
   have e := (List.getElem?_eq_getElem hi).symm.trans hq
   simp only [Option.some.injEq] at e
   simp [e]
theorem els_take {qs : List Qu} {i : Nat} {q : Qu} (hq : qs[i]? = some q) : els (qs.take (i + 1)) = els (qs.take i) ++ [q.el] := by
 rw [List.take_add_one, hq]; simp [els]
def takeS (s : Rs) : List Int → Rs × List Int × Rx × Bool
 | [] => (s, [], {}, false)
 | h :: r =>
  match s.qs.findIdx? (fun q => q.el == h) with
  | none => takeS s r
  | some a =>
   match s.qs[a]? with
   | none => (s, [], {}, false)
   | some q => if q.l.length = 1 then ({ s with qs := s.qs.eraseIdx a }, r, q.l.headD {}, true) else ({ s with qs := s.qs.set a { q with l := q.l.tail } }, h :: r, q.l.headD {}, true)
def waitB (s : Rs) (h : Int) : List Rx := match s.qs.find? (fun q => q.el == h) with | some q => q.l | none => []
open Go Go.Ev
theorem jZ8 {qs : List Qu} (h : okQs qs = true) : (∀ q ∈ qs, okQ1 q = true) ∧ (els qs).Nodup := by
 simp only [okQs, Bool.and_eq_true, decide_eq_true_eq, List.all_eq_true] at h
 exact h
theorem xZb {q : Qu} (h : okQ1 q = true) : q.l ≠ [] ∧ ∀ r ∈ q.l, r.el = q.el := by
 simp only [okQ1, okX, Bool.and_eq_true, decide_eq_true_eq, List.all_eq_true] at h
 exact ⟨h.1.2, fun r hr => (h.2 r hr).1.1⟩
theorem xZN {qs : List Qu} {h : Int} {a : Nat} (hp : qs.findIdx? (fun q => q.el == h) = some a) : ∃ q, qs[a]? = some q ∧ q.el = h ∧ qs.find? (fun q => q.el == h) = some q := by
 rw [List.findIdx?_eq_some_iff_getElem] at hp
 obtain ⟨ha, h1, h2⟩ := hp
 refine ⟨qs[a], List.getElem?_eq_getElem ha, by simpa using h1, ?_⟩
 rw [List.find?_eq_some_iff_getElem]
 refine ⟨h1, a, ha, rfl, fun j hj => ?_⟩
 have := h2 j hj
 simpa using this
theorem place_none {qs : List Qu} {h : Int} (hp : qs.findIdx? (fun q => q.el == h) = none) : ∀ q ∈ qs, q.el ≠ h := by
 rw [List.findIdx?_eq_none_iff] at hp
 intro q hq e
 have := hp q hq
 simp [e] at this
theorem xZl {s : Rs} {h : Int} (hp : ∀ q ∈ s.qs, q.el ≠ h) : waitB s h = [] := by
 unfold waitB
 rw [List.find?_eq_none.2 fun q hq => by simpa using hp q hq]
theorem wait_iff {s : Rs} (hs : okQs s.qs = true) (h : Int) : waitB s h = [] ↔ ∀ q ∈ s.qs, q.el ≠ h := by
 refine ⟨fun hw q hq e => ?_, xZl⟩
 unfold waitB at hw
 cases hf : s.qs.find? (fun q => q.el == h) with
 | none =>
  have := List.find?_eq_none.1 hf q hq
  simp [e] at this
 | some q2 =>
  rw [hf] at hw
  exact (xZb ((jZ8 hs).1 q2 (List.mem_of_find?_eq_some hf))).1 hw
structure Step (s s' : Rs) (l l' : List Int) (r : Rx) : Prop where
 q : okQs s'.qs = true
 was : waitB s r.el = r :: waitB s' r.el
 other : ∀ h, h ≠ r.el → waitB s' h = waitB s h
 tot : tot s.qs = tot s'.qs + 1
 st : s'.st = s.st
 bk : s'.bk = s.bk
 busy : s'.busy = s.busy
 suf : ∃ p, l = p ++ l' ∧ ∀ x ∈ p, waitB s' x = []
theorem tot_set : ∀ {qs : List Qu} {a : Nat} {q q2 : Qu}, qs[a]? = some q → tot (qs.set a q2) + q.l.length = tot qs + q2.l.length
 | [], a, q, q2, h => by simp at h
 | x :: r, 0, q, q2, h => by
  simp only [List.getElem?_cons_zero, Option.some.injEq] at h
  subst h
  simp only [List.set_cons_zero, tot, List.map_cons, List.sum_cons]
  omega
 | x :: r, a + 1, q, q2, h => by
  simp only [List.getElem?_cons_succ] at h
  have := tot_set (q2 := q2) h
  simp only [List.set_cons_succ, tot, List.map_cons, List.sum_cons] at this ⊢
  omega
theorem tot_erase : ∀ {qs : List Qu} {a : Nat} {q : Qu}, qs[a]? = some q → tot (qs.eraseIdx a) + q.l.length = tot qs
 | [], a, q, h => by simp at h
 | x :: r, 0, q, h => by
  simp only [List.getElem?_cons_zero, Option.some.injEq] at h
  subst h
  simp only [List.eraseIdx_cons_zero, tot, List.map_cons, List.sum_cons]
  omega
 | x :: r, a + 1, q, h => by
  simp only [List.getElem?_cons_succ] at h
  have := tot_erase h
  simp only [List.eraseIdx_cons_succ, tot, List.map_cons, List.sum_cons] at this ⊢
  omega
theorem find_set {h : Int} : ∀ {qs : List Qu} {a : Nat} {q q2 : Qu}, qs[a]? = some q → q2.el = q.el → (els qs).Nodup → (qs.set a q2).find? (fun q => q.el == h) = if q.el = h then some q2 else qs.find? (fun q => q.el == h)
 | [], a, q, q2, ha, _, _ => by simp at ha
 | x :: r, 0, q, q2, ha, he, hn => by
  simp only [List.getElem?_cons_zero, Option.some.injEq] at ha
  subst ha
  by_cases c : x.el = h
  ·simp [List.find?_cons, he, c]
  ·simp [List.find?_cons, he, c]
 | x :: r, a + 1, q, q2, ha, he, hn => by
  simp only [List.getElem?_cons_succ] at ha
  simp only [els, List.map_cons, List.nodup_cons] at hn
  have hne : x.el ≠ q.el := fun e => hn.1 (List.mem_map.2 ⟨q, List.mem_of_getElem? ha, e.symm⟩)
  have ih := find_set (h := h) ha he hn.2
  by_cases c : x.el = h
  ·have c2 : ¬ q.el = h := fun e => hne (by rw [c, e])
   simp [List.find?_cons, c, c2]
  ·have : (x.el == h) = false := by simpa using c
   simp only [List.set_cons_succ, List.find?_cons, this, ih]
theorem jZF {h : Int} : ∀ {qs : List Qu} {a : Nat} {q : Qu}, qs[a]? = some q → (els qs).Nodup → (qs.eraseIdx a).find? (fun q => q.el == h) = if q.el = h then none else qs.find? (fun q => q.el == h)
 | [], a, q, ha, _ => by simp at ha
 | x :: r, 0, q, ha, hn => by
  simp only [List.getElem?_cons_zero, Option.some.injEq] at ha
  subst ha
  simp only [els, List.map_cons, List.nodup_cons] at hn
  by_cases c : x.el = h
  ·simp only [List.eraseIdx_cons_zero, c, if_true]
   rw [List.find?_eq_none]
   intro y hy e
   have : y.el = h := by simpa using e
   exact hn.1 (List.mem_map.2 ⟨y, hy, by rw [this, c]⟩)
  ·have : (x.el == h) = false := by simpa using c
   simp [List.find?_cons, c, this]
 | x :: r, a + 1, q, ha, hn => by
  simp only [List.getElem?_cons_succ] at ha
  simp only [els, List.map_cons, List.nodup_cons] at hn
  have hne : x.el ≠ q.el := fun e => hn.1 (List.mem_map.2 ⟨q, List.mem_of_getElem? ha, e.symm⟩)
  have ih := jZF (h := h) ha hn.2
  by_cases c : x.el = h
  ·have c2 : ¬ q.el = h := fun e => hne (by rw [c, e])
   simp [List.find?_cons, c, c2]
  ·have : (x.el == h) = false := by simpa using c
   simp only [List.eraseIdx_cons_succ, List.find?_cons, this, ih]
theorem els_set : ∀ {qs : List Qu} {a : Nat} {q q2 : Qu}, qs[a]? = some q → q2.el = q.el → els (qs.set a q2) = els qs
 | [], a, q, q2, ha, _ => by simp at ha
 | x :: r, 0, q, q2, ha, he => by
  simp only [List.getElem?_cons_zero, Option.some.injEq] at ha
  subst ha
  simp [els, he]
 | x :: r, a + 1, q, q2, ha, he => by
  simp only [List.getElem?_cons_succ] at ha
  have := els_set ha he
  simp only [els, List.set_cons_succ, List.map_cons] at this ⊢
  rw [this]
theorem els_erase (qs : List Qu) (a : Nat) : List.Sublist (els (qs.eraseIdx a)) (els qs) := (List.eraseIdx_sublist qs a).map _
theorem xZk {s : Rs} (hs : okQs s.qs = true) : ∀ (l : List Int), (takeS s l = (s, [], {}, false) ∧ ∀ x ∈ l, waitB s x = []) ∨ ∃ s' l' r, takeS s l = (s', l', r, true) ∧ Step s s' l l' r
 | [] => .inl ⟨rfl, fun x h => by cases h⟩
 | h :: t => by
  unfold takeS
  cases hp : s.qs.findIdx? (fun q => q.el == h) with
  | none =>
   have hw := xZl (place_none hp)
   simp only
   rcases xZk hs t with ⟨h1, h2⟩ | ⟨s', l', r, h1, h2⟩
   ·refine .inl ⟨h1, fun x hx => ?_⟩
    rcases List.mem_cons.1 hx with rfl | hx
    ·exact hw
    ·exact h2 x hx
   ·refine .inr ⟨s', l', r, h1, h2.q, h2.was, h2.other, h2.tot, h2.st, h2.bk, h2.busy, ?_⟩
    obtain ⟨p, hp1, hp2⟩ := h2.suf
    refine ⟨h :: p, by rw [hp1]; rfl, fun x hx => ?_⟩
    rcases List.mem_cons.1 hx with rfl | hx
    ·by_cases e : x = r.el
     ·rw [e, h2.was] at hw; cases hw
     ·rw [h2.other x e, hw]
    ·exact hp2 x hx
  | some a =>
   obtain ⟨q, ha, he, hf⟩ := xZN hp
   obtain ⟨hall, hnd⟩ := jZ8 hs
   have hok := hall q (List.mem_of_getElem? ha)
   obtain ⟨hne, hel⟩ := xZb hok
   simp only [ha]
   have hlt := (List.getElem?_eq_some_iff.1 ha).1
   match hql : q.l, hne with
   | r0 :: rt, _ =>
    have hr0 : r0.el = h := by rw [hel r0 (by rw [hql]; simp), he]
    have hwas : waitB s h = r0 :: rt := by unfold waitB; rw [hf]; exact hql
    simp only [List.headD_cons, List.length_cons, List.tail_cons]
    by_cases c : rt.length = 0
    ·have hrt : rt = [] := List.eq_nil_of_length_eq_zero c
     subst hrt
     rw [if_pos (show ([] : List Rx).length + 1 = 1 from rfl)]
     refine .inr ⟨_, _, _, rfl, ?_, ?_, ?_, ?_, rfl, rfl, rfl, ?_⟩
     ·simp only [okQs, Bool.and_eq_true, decide_eq_true_eq, List.all_eq_true]
      exact ⟨fun y hy => hall y (List.mem_of_mem_eraseIdx hy), (els_erase _ _).nodup hnd⟩
     ·rw [hr0, hwas]
      simp only [waitB, jZF ha hnd, he, if_true]
     ·intro x hx
      simp only [waitB, jZF ha hnd]
      rw [if_neg (by rw [he, ← hr0]; exact fun e => hx e.symm)]
     ·have := tot_erase ha
      rw [hql] at this
      simpa using this.symm
     ·refine ⟨[h], rfl, fun x hx => ?_⟩
      rw [List.mem_singleton.1 hx]
      simp only [waitB, jZF ha hnd, he, if_true]
    ·rw [if_neg (by omega)]
     generalize hq2 : ({ q with l := rt } : Qu) = q2
     have e1 : q2.el = q.el := by rw [← hq2]
     have e2 : q2.l = rt := by rw [← hq2]
     refine .inr ⟨_, _, _, rfl, ?_, ?_, ?_, ?_, rfl, rfl, rfl, ⟨[], rfl, fun x hx => by cases hx⟩⟩
     ·simp only [okQs, Bool.and_eq_true, decide_eq_true_eq, List.all_eq_true]
      refine ⟨fun y hy => ?_, by rw [els_set ha e1]; exact hnd⟩
      rcases List.mem_or_eq_of_mem_set hy with hy | rfl
      ·exact hall y hy
      ·simp only [okQ1, Bool.and_eq_true, decide_eq_true_eq, List.all_eq_true] at hok ⊢
       rw [e1, e2]
       refine ⟨⟨hok.1.1, fun e => c (by rw [e]; rfl)⟩, fun x hx => hok.2 x (by rw [hql]; simp [hx])⟩
     ·rw [hr0, hwas]
      simp only [waitB, find_set ha e1 hnd, he, if_true, e2]
     ·intro x hx
      simp only [waitB, find_set ha e1 hnd]
      rw [if_neg (by rw [he, ← hr0]; exact fun e => hx e.symm)]
     ·have := tot_set (q2 := q2) ha
      rw [hql, e2] at this
      simp only [List.length_cons] at this
      show tot s.qs = tot (s.qs.set a q2) + 1
      omega
theorem tot_zero {qs : List Qu} (hs : okQs qs = true) (h : tot qs = 0) : qs = [] := by
 cases qs with
 | nil => rfl
 | cons q r =>
  have := (xZb ((jZ8 hs).1 q (by simp))).1
  simp only [tot, List.map_cons, List.sum_cons] at h
  have : q.l.length ≠ 0 := fun e => this (List.eq_nil_of_length_eq_zero e)
  omega
theorem tot_le {qs : List Qu} {q : Qu} (h : q ∈ qs) : q.l.length ≤ tot qs := by
 induction qs with
 | nil => cases h
 | cons x r ih =>
  simp only [tot, List.map_cons, List.sum_cons] at ih ⊢
  rcases List.mem_cons.1 h with rfl | h
  ·omega
  ·have := ih h; omega
end Go.Proofs.Rc
