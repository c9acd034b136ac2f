/- The lists that LoopOrder keeps of its own: what comes, what goes. No conditions. -/
import Derived.Test.YtgfebbhjpgkdfaaLpOa
namespace Go.Proofs.Lp
open Go Go.Ev
set_option linter.unusedVariables false
set_option linter.unusedSimpArgs false

def upd0 (q : Nat → List Int) (i : Nat) (l : List Int) : Nat → List Int := fun k => if k = i then l else q k

theorem SL.ne_cells {h : Heap} {sz : Nat} {v : V} {o : Option Nat} {xs : List (List V)} (hs : SL h sz v o xs) {a : Nat} {cs : List V} (ha : h[a]? = some (Ob.cells cs)) : o ≠ some a := by
  rintro rfl
  rcases hs with ⟨_, _, q⟩ | ⟨id, ep, pre, post, q, _, hr, _⟩
  · cases q
  · cases q
    rw [ha] at hr
    cases hr

section
variable {h : Heap} {l : Nat} {f : Nat → Option Nat} {oT : Nat} {vs : Nat → V} {os : Nat → Option Nat} {vM : V} {oM : Option Nat} {q : Nat → List Int}

/-- A microtask of the law's comes. -/
theorem Own.pushM (w : Own h l f oT vs os vM oM q) (hb : ∀ id, own l f id → id < h.length) (hq : (q 0).length < 2 ^ 40) (x : Int) :
    ∃ v' o' h', evApp (h ++ [Ob.row 1 [cI x] 0 true]) 1 8 vM (.sl h.length 0 0 1) = some (v', h') ∧ Own h' l f oT vs os v' o' (upd0 q 0 (q 0 ++ [x])) ∧ h.length ≤ h'.length ∧ (∀ (j : Nat) cs, h[j]? = some (Ob.cells cs) → h'[j]? = some (Ob.cells cs)) ∧ ∀ j, own l f j → h'[j]? = h[j]? := by
  have hT := (List.getElem?_eq_some_iff.1 w.row).1
  have hs1 : SL (h ++ [Ob.row 1 [cI x] 0 true]) 1 vM oM ((q 0).map cI) := w.ms.mono (fun id ho => by rw [List.getElem?_append_left (w.ms.lt ho)])
  obtain ⟨v', o', h2, happ, hs2, hl2, hrest2, hnew2⟩ := hs1.app (by_ := 8) (e := cI x) (by intro e he; simp at he; subst he; exact ⟨rfl, rfl, rfl⟩) (q := .sl h.length 0 0 1) (by simp [elemsOf]) (by simp; unfold roomB; omega)
  have hl1 : (h ++ [Ob.row 1 [cI x] 0 true]).length = h.length + 1 := by simp
  have keep : ∀ j, j < h.length → oM ≠ some j → h2[j]? = h[j]? := fun j hj hne => by
    rw [hrest2 j (by omega) hne, List.getElem?_append_left hj]
  refine ⟨v', o', h2, happ, ⟨?_, ?_, ?_, w.apT, w.apQ, ?_, w.neQ, ?_, ?_, w.neQQ⟩, by omega, fun j cs hj => by rw [keep j (List.getElem?_eq_some_iff.1 hj).1 (w.ms.ne_cells hj)]; exact hj, fun j hj => keep j (hb j hj) (fun e => w.apM j e hj)⟩
  · rw [keep oT hT w.neM]; exact w.row
  · intro i hi
    have : upd0 q 0 (q 0 ++ [x]) (i + 1) = q (i + 1) := by simp [upd0]
    rw [this]
    exact (w.qs i hi).mono fun id hid => keep id ((w.qs i hi).lt hid) (w.neQM i id hi hid)
  · have : upd0 q 0 (q 0 ++ [x]) 0 = q 0 ++ [x] := by simp [upd0]
    rw [this, List.map_append]
    exact hs2
  · intro id hid ho
    rcases hnew2 id hid with e | e
    · exact w.apM id e ho
    · have := hb id ho; omega
  · intro e
    rcases hnew2 oT e with e | e
    · exact w.neM e
    · omega
  · intro i id hi hid e
    rcases hnew2 id e with e | e
    · exact w.neQM i id hi hid e
    · have := (w.qs i hi).lt hid; omega

def upo (os : Nat → Option Nat) (i : Nat) (o : Option Nat) : Nat → Option Nat := fun k => if k = i then o else os k

/-- One of the row's slices is another one. -/
theorem Own.putQ (w : Own h l f oT vs os vM oM q) (hb : ∀ id, own l f id → id < h.length) {i : Nat} (hi : i < 8) {h2 : Heap} {v' : V} {o' : Option Nat} {ys : List Int} (hs : SL h2 1 v' o' (ys.map cI)) (hlen : h.length ≤ h2.length)
    (hrest : ∀ j, j < h.length → os i ≠ some j → h2[j]? = h[j]?) (hnew : ∀ id, o' = some id → os i = some id ∨ h.length ≤ id) :
    h2[oT]? = some (.row 1 (rowV vs) 0 true) ∧ Own (h2.set oT (.row 1 (rowV (upv vs i v')) 0 true)) l f oT (upv vs i v') (upo os i o') vM oM (upd0 q (i + 1) ys) ∧
      (∀ j, own l f j → (h2.set oT (.row 1 (rowV (upv vs i v')) 0 true))[j]? = h[j]?) := by
  have hT := (List.getElem?_eq_some_iff.1 w.row).1
  have e1 : h2[oT]? = some (.row 1 (rowV vs) 0 true) := by rw [hrest oT hT (w.neQ i hi)]; exact w.row
  have hT2 := (List.getElem?_eq_some_iff.1 e1).1
  have no' : o' ≠ some oT := fun e => by
    rcases hnew oT e with q | q
    · exact w.neQ i hi q
    · omega
  have keep : ∀ j, j < h.length → os i ≠ some j → j ≠ oT → (h2.set oT (.row 1 (rowV (upv vs i v')) 0 true))[j]? = h[j]? := fun j hj h1 h3 => by
    rw [List.getElem?_set_ne (Ne.symm h3)]; exact hrest j hj h1
  refine ⟨e1, ⟨by rw [List.getElem?_set_self hT2], fun k hk => ?_, ?_, w.apT, fun k id hk hid => ?_, w.apM, fun k hk => ?_, w.neM, fun k id hk hid => ?_, fun a b id ha hbb hia hib => ?_⟩, fun j hj => keep j (hb j hj) (fun e => w.apQ i j hi e hj) (fun e => w.apT (e ▸ hj))⟩
  · by_cases e : k = i
    · subst e
      simp only [upv, upo, upd0, if_true]
      exact hs.mono fun id hid => by rw [List.getElem?_set_ne (fun e => no' (by rw [e]; exact hid))]
    · have e2 : ¬ k + 1 = i + 1 := by omega
      simp only [upv, upo, upd0, if_neg e, if_neg e2]
      exact (w.qs k hk).mono fun id hid => keep id ((w.qs k hk).lt hid) (fun h1 => e (w.neQQ k i id hk hi hid h1)) (fun h1 => w.neQ k hk (by rw [← h1]; exact hid))
  · have e2 : ¬ 0 = i + 1 := by omega
    simp only [upd0, if_neg e2]
    exact w.ms.mono fun id hid => keep id (w.ms.lt hid) (fun h1 => w.neQM i id hi h1 hid) (fun h1 => w.neM (by rw [← h1]; exact hid))
  · by_cases e : k = i
    · simp only [upo, if_pos e] at hid
      intro ho
      rcases hnew id hid with h1 | h1
      · exact w.apQ i id hi h1 ho
      · have := hb id ho; omega
    · simp only [upo, if_neg e] at hid
      exact w.apQ k id hk hid
  · by_cases e : k = i
    · simp only [upo, if_pos e]; exact no'
    · simp only [upo, if_neg e]; exact w.neQ k hk
  · by_cases e : k = i
    · simp only [upo, if_pos e] at hid
      intro hm
      rcases hnew id hid with h1 | h1
      · exact w.neQM i id hi h1 hm
      · have := w.ms.lt hm; omega
    · simp only [upo, if_neg e] at hid
      exact w.neQM k id hk hid
  · have low : ∀ k id, k < 8 → ¬ k = i → os k = some id → o' = some id → False := fun k id hk e h1 h2 => by
      rcases hnew id h2 with q | q
      · exact e (w.neQQ k i id hk hi h1 q)
      · have := (w.qs k hk).lt h1; omega
    by_cases ea : a = i
    · by_cases eb : b = i
      · rw [ea, eb]
      · simp only [upo, if_pos ea, if_neg eb] at hia hib
        exact (low b id hbb eb hib hia).elim
    · by_cases eb : b = i
      · simp only [upo, if_neg ea, if_pos eb] at hia hib
        exact (low a id ha ea hia hib).elim
      · simp only [upo, if_neg ea, if_neg eb] at hia hib
        exact w.neQQ a b id ha hbb hia hib
end
end Go.Proofs.Lp
