/- Timers in their order: plain law. No conditions. -/
import Derived.Test.YtgfebbhjpgkdfaaLpK
namespace Go.Proofs.Lp
open Go Go.Ev
set_option linter.unusedVariables false
set_option linter.unusedSimpArgs false

def tk (W : List Int) (k : Nat) : Tm := ⟨k + 1, max (W.getD k 0) 0, k⟩
def tlt (a b : Tm) : Prop := a.due < b.due ∨ (a.due = b.due ∧ a.num < b.num)
def srt (l : List Tm) : Prop := l.Pairwise tlt

theorem spot_after {l : List Tm} {due : Int} : ∀ {i j : Nat}, i ≤ l.length → spot l due i ≤ j → j < i → ∀ t, l[j]? = some t → t.due > due
  | 0, j, _, _, hj, t, _ => absurd hj (Nat.not_lt_zero _)
  | i + 1, j, hi, hs, hj, t, ht => by
    obtain ⟨x, hx⟩ : ∃ x, l[i]? = some x := ⟨_, List.getElem?_eq_getElem (by omega)⟩
    simp only [spot, hx] at hs
    split at hs
    · rename_i hd
      by_cases e : j = i
      · subst e
        rw [hx] at ht
        cases ht
        exact hd
      · exact spot_after (by omega) hs (by omega) t ht
    · omega
theorem spot_before {l : List Tm} {due : Int} : ∀ {i : Nat}, i ≤ l.length → spot l due i = 0 ∨ ∃ t, l[spot l due i - 1]? = some t ∧ t.due ≤ due
  | 0, _ => .inl rfl
  | i + 1, hi => by
    obtain ⟨x, hx⟩ : ∃ x, l[i]? = some x := ⟨_, List.getElem?_eq_getElem (by omega)⟩
    simp only [spot, hx]
    split
    · exact spot_before (by omega)
    · rename_i hd
      exact .inr ⟨x, by simpa using hx, by omega⟩

theorem srt_le {l : List Tm} (hs : srt l) {i j : Nat} {a b : Tm} (hij : i ≤ j) (ha : l[i]? = some a) (hb : l[j]? = some b) : a.due ≤ b.due := by
  by_cases e : i = j
  · subst e
    rw [ha] at hb
    cases hb
    exact Int.le_refl _
  · obtain ⟨hi, rfl⟩ := List.getElem?_eq_some_iff.1 ha
    obtain ⟨hj, rfl⟩ := List.getElem?_eq_some_iff.1 hb
    rcases List.pairwise_iff_getElem.1 hs i j hi hj (by omega) with h | h <;> omega

theorem spot_ins {l : List Tm} (hs : srt l) {t : Tm} (hn : ∀ x ∈ l, x.num < t.num) : srt (l.take (spot l t.due l.length) ++ [t] ++ l.drop (spot l t.due l.length)) := by
  have hle := spot_le l t.due l.length
  have ha : ∀ x ∈ l.drop (spot l t.due l.length), x.due > t.due := fun x hx => by
    obtain ⟨j, hj⟩ := List.getElem?_of_mem hx
    rw [List.getElem?_drop] at hj
    exact spot_after (Nat.le_refl _) (by omega) (List.getElem?_eq_some_iff.1 hj).1 x hj
  have hb : ∀ x ∈ l.take (spot l t.due l.length), x.due ≤ t.due := fun x hx => by
    obtain ⟨j, hj⟩ := List.getElem?_of_mem hx
    have hjl := (List.getElem?_eq_some_iff.1 hj).1
    rw [List.length_take] at hjl
    rw [List.getElem?_take_of_lt (by omega)] at hj
    rcases spot_before (l := l) (due := t.due) (Nat.le_refl _) with h | ⟨y, hy, hd⟩
    · omega
    · have := srt_le hs (i := j) (j := spot l t.due l.length - 1) (by omega) hj hy
      omega
  unfold srt at hs ⊢
  rw [List.append_assoc]
  refine List.pairwise_append.2 ⟨hs.sublist (List.take_sublist _ _), List.pairwise_cons.2 ⟨fun x hx => .inl (ha x (by simpa using hx)), hs.sublist (List.drop_sublist _ _)⟩, fun a hia b hib => ?_⟩
  simp only [List.cons_append, List.nil_append, List.mem_cons] at hib
  rcases hib with rfl | hib
  · have h1 := hb a hia
    have h2 := hn a (List.mem_of_mem_take hia)
    by_cases e : a.due = b.due
    · exact .inr ⟨e, h2⟩
    · exact .inl (by omega)
  · have h1 := hb a hia
    have h2 := ha b hib
    exact .inl (by omega)

/-- What waits, where C tells which are no more. -/
structure J (W : List Int) (n : Nat) (C : Nat → Bool) (l : List Tm) : Prop where
  srt : srt l
  mem : ∀ t ∈ l, ∃ k, k < n ∧ C k = false ∧ t = tk W k
  all : ∀ k, k < n → C k = false → tk W k ∈ l

def updC (C : Nat → Bool) (k : Nat) : Nat → Bool := fun j => if j = k then true else C j

theorem J.zero (W : List Int) : J W 0 (fun _ => false) [] := ⟨List.Pairwise.nil, (fun t h => by cases h), fun k h => absurd h (Nat.not_lt_zero _)⟩
theorem J.ins {W : List Int} {n : Nat} {l : List Tm} (h : J W n (fun _ => false) l) : J W (n + 1) (fun _ => false) (l.take (spot l (tk W n).due l.length) ++ [tk W n] ++ l.drop (spot l (tk W n).due l.length)) := by
  have hm : ∀ x, x ∈ l.take (spot l (tk W n).due l.length) ++ [tk W n] ++ l.drop (spot l (tk W n).due l.length) ↔ x ∈ l ∨ x = tk W n := fun x => by
    have : x ∈ l ↔ x ∈ l.take (spot l (tk W n).due l.length) ∨ x ∈ l.drop (spot l (tk W n).due l.length) := by
      rw [← List.mem_append, List.take_append_drop]
    simp only [List.mem_append, List.mem_singleton]
    rw [this]
    constructor
    · rintro ((h | h) | h)
      · exact .inl (.inl h)
      · exact .inr h
      · exact .inl (.inr h)
    · rintro ((h | h) | h)
      · exact .inl (.inl h)
      · exact .inr h
      · exact .inl (.inr h)
  refine ⟨spot_ins h.srt fun x hx => ?_, fun t ht => ?_, fun k hk hc => ?_⟩
  · obtain ⟨k, hk, _, rfl⟩ := h.mem x hx
    simp only [tk]; omega
  · rcases (hm t).1 ht with h1 | h1
    · obtain ⟨k, hk, hc, rfl⟩ := h.mem t h1
      exact ⟨k, by omega, rfl, rfl⟩
    · exact ⟨n, by omega, rfl, h1⟩
  · refine (hm _).2 ?_
    by_cases e : k = n
    · subst e; exact .inr rfl
    · exact .inl (h.all k (by omega) hc)

theorem tlt_irr {a : Tm} (h : tlt a a) : False := by
  rcases h with h | h <;> omega

/-- One is taken out. -/
theorem J.out {W : List Int} {n : Nat} {C : Nat → Bool} {a b : List Tm} {t : Tm} (h : J W n C (a ++ t :: b)) : ∃ k, k < n ∧ C k = false ∧ t = tk W k ∧ J W n (updC C k) (a ++ b) := by
  obtain ⟨k, hk, hc, rfl⟩ := h.mem t (by simp)
  have hs := h.srt
  have hsub : (a ++ b).Sublist (a ++ tk W k :: b) := List.Sublist.append (List.Sublist.refl _) (List.sublist_cons_self _ _)
  obtain ⟨h1, h2, h3⟩ := List.pairwise_append.1 hs
  have hno : ∀ x ∈ a ++ b, x ≠ tk W k := by
    rintro x hx rfl
    rcases List.mem_append.1 hx with hx | hx
    · exact tlt_irr (h3 _ hx _ (by simp))
    · exact tlt_irr ((List.pairwise_cons.1 h2).1 _ hx)
  refine ⟨k, hk, hc, rfl, hs.sublist hsub, fun x hx => ?_, fun j hj hjc => ?_⟩
  · obtain ⟨j, hj, hjc, rfl⟩ := h.mem x (hsub.subset hx)
    refine ⟨j, hj, ?_, rfl⟩
    have : j ≠ k := fun e => hno _ hx (by rw [e])
    simp [updC, this, hjc]
  · have hne : j ≠ k := fun e => by simp [updC, e] at hjc
    have hjc' : C j = false := by simpa [updC, hne] using hjc
    have hm := h.all j hj hjc'
    simp only [List.mem_append, List.mem_cons] at hm ⊢
    rcases hm with hm | hm | hm
    · exact .inl hm
    · exfalso
      have : (tk W j).num = (tk W k).num := by rw [hm]
      simp only [tk] at this
      omega
    · exact .inr hm

theorem place_num {n : Int} : ∀ {l : List Tm} {i : Nat}, place n l = some i → ∃ t, l[i]? = some t ∧ t.num = n
  | [], i, h => by cases h
  | t :: l, i, h => by
    simp only [place] at h
    split at h
    · rename_i e
      cases h
      exact ⟨t, rfl, e⟩
    · cases hp : place n l with
      | none => rw [hp] at h; cases h
      | some j =>
        rw [hp] at h; cases h
        have ih := place_num hp
        simpa using ih
theorem place_none {n : Int} : ∀ {l : List Tm}, place n l = none → ∀ t ∈ l, t.num ≠ n
  | [], _, t, ht => by cases ht
  | x :: l, h, t, ht => by
    simp only [place] at h
    split at h
    · cases h
    · rename_i e
      have hp : place n l = none := by
        cases hp : place n l with
        | none => rfl
        | some j => rw [hp] at h; cases h
      rcases List.mem_cons.1 ht with rfl | ht
      · exact e
      · exact place_none hp t ht

/-- A timer of this number waits: one of those that do. -/
theorem J.place {W : List Int} {n : Nat} {C : Nat → Bool} {l : List Tm} (h : J W n C l) (q : Int) :
    (∃ k, k < n ∧ q = k + 1 ∧ C k = false ∧ ∃ i, place q l = some i ∧ J W n (updC C k) (l.take i ++ l.drop (i + 1))) ∨ (place q l = none ∧ ∀ k, k < n → q = k + 1 → C k = true) := by
  cases hp : Lp.place q l with
  | none =>
    refine .inr ⟨rfl, fun k hk hq => ?_⟩
    cases hc : C k with
    | true => rfl
    | false => exact absurd (show (tk W k).num = q by rw [hq]; rfl) (place_none (n := q) hp (tk W k) (h.all k hk hc))
  | some i =>
    obtain ⟨t, ht, hn⟩ := place_num hp
    have hsp : l = l.take i ++ t :: l.drop (i + 1) := by
      obtain ⟨h1, h2⟩ := List.getElem?_eq_some_iff.1 ht
      rw [← h2, ← List.drop_eq_getElem_cons h1, List.take_append_drop]
    have h' := h
    rw [hsp] at h'
    obtain ⟨k, hk, hc, hte, hj⟩ := h'.out
    refine .inl ⟨k, hk, ?_, hc, i, rfl, hj⟩
    rw [← hn, hte]
    rfl

theorem ripe_take (c : Int) : ∀ l : List Tm, ∀ t ∈ l.take (ripe c l), t.due ≤ c
  | [], t, h => by simp [ripe] at h
  | x :: l, t, h => by
    simp only [ripe] at h
    split at h
    · rename_i hx
      simp only [List.take_succ_cons, List.mem_cons] at h
      rcases h with rfl | h
      · exact hx
      · exact ripe_take c l t h
    · simp at h
theorem ripe_drop {c : Int} : ∀ {l : List Tm}, srt l → ∀ t ∈ l.drop (ripe c l), t.due > c
  | [], _, t, h => by simp [ripe] at h
  | x :: l, hs, t, h => by
    simp only [ripe] at h
    have h2 := List.pairwise_cons.1 hs
    split at h
    · exact ripe_drop h2.2 t (by simpa using h)
    · rename_i hx
      simp only [List.drop_zero, List.mem_cons] at h
      rcases h with rfl | h
      · omega
      · rcases h2.1 t h with q | q <;> omega
end Go.Proofs.Lp
