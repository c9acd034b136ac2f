/- The lists that LoopOrder keeps of its own. No conditions. -/
import Derived.Test.YtgfebbhjpgkdfaaLpRw
namespace Go.Proofs.Lp
open Go Go.Ev
set_option linter.unusedVariables false
set_option linter.unusedSimpArgs false

/-- The law's own lists: its tasks (a row of slices), its microtasks. -/
structure Own (h : Heap) (l : Nat) (f : Nat → Option Nat) (oT : Nat) (vs : Nat → V) (os : Nat → Option Nat) (vM : V) (oM : Option Nat) (q : Nat → List Int) : Prop where
  row : h[oT]? = some (.row 1 (rowV vs) 0 true)
  qs : ∀ i, i < 8 → SL h 1 (vs i) (os i) ((q (i + 1)).map cI)
  ms : SL h 1 vM oM ((q 0).map cI)
  apT : ¬ own l f oT
  apQ : ∀ i id, i < 8 → os i = some id → ¬ own l f id
  apM : ∀ id, oM = some id → ¬ own l f id
  neQ : ∀ i, i < 8 → os i ≠ some oT
  neM : oM ≠ some oT
  neQM : ∀ i id, i < 8 → os i = some id → oM ≠ some id
  neQQ : ∀ i j id, i < 8 → j < 8 → os i = some id → os j = some id → i = j

theorem Own.frame {h h' : Heap} {l : Nat} {f f' : Nat → Option Nat} {oT : Nat} {vs : Nat → V} {os : Nat → Option Nat} {vM : V} {oM : Option Nat} {q : Nat → List Int}
    (w : Own h l f oT vs os vM oM q) (hf : Fr h h' l f f') : Own h' l f' oT vs os vM oM q := by
  have hT := (List.getElem?_eq_some_iff.1 w.row).1
  have keep : ∀ id, id < h.length → ¬ own l f id → h'[id]? = h[id]? ∧ ¬ own l f' id := fun id hid hno => ⟨hf.rest id hid hno, fun ho => by
    rcases hf.new id ho with q | q
    · exact hno q
    · omega⟩
  exact ⟨by rw [(keep oT hT w.apT).1]; exact w.row, fun i hi => (w.qs i hi).mono fun id hid => (keep id ((w.qs i hi).lt hid) (w.apQ i id hi hid)).1, w.ms.mono fun id hid => (keep id (w.ms.lt hid) (w.apM id hid)).1,
    (keep oT hT w.apT).2, fun i id hi hid => (keep id ((w.qs i hi).lt hid) (w.apQ i id hi hid)).2, fun id hid => (keep id (w.ms.lt hid) (w.apM id hid)).2, w.neQ, w.neM, w.neQM, w.neQQ⟩
end Go.Proofs.Lp
