/- A row of slices of numbers. No conditions. -/
import Derived.Test.YtgfebbhjpgkdfaaLpW
namespace Go.Proofs.Lp
open Go Go.Ev
set_option linter.unusedVariables false
set_option linter.unusedSimpArgs false

def rowV (vs : Nat → V) : List (List V) := (List.range 8).map fun i => [vs i]
theorem rowV_len (vs : Nat → V) : (rowV vs).length = 8 := by simp [rowV]
theorem rowV_get (vs : Nat → V) {i : Nat} (hi : i < 8) : (rowV vs)[i]? = some [vs i] := by simp [rowV, hi]
theorem rowV_set (vs : Nat → V) {i : Nat} (hi : i < 8) (x : V) : (rowV vs).set i [x] = rowV (upv vs i x) := by
  apply List.ext_getElem?
  intro j
  by_cases hj : j < 8
  · rw [rowV_get _ hj]
    by_cases e : j = i
    · subst e
      rw [List.getElem?_set_self (by rw [rowV_len]; exact hj)]
      simp [upv]
    · rw [List.getElem?_set_ne (Ne.symm e), rowV_get _ hj]
      simp [upv, e]
  · rw [List.getElem?_eq_none (by simp [rowV_len]; omega), List.getElem?_eq_none (by simp [rowV_len]; omega)]

theorem row_at {h : Heap} {o : Nat} {vs : Nat → V} (hr : h[o]? = some (.row 1 (rowV vs) 0 true)) {i : Nat} (hi : i < 8) :
    iaddrV h 1 (.sl o 0 0 8) (.int .i64 i) = some (.eptr o 0 i 0) ∧ cellsAt h (.eptr o 0 i 0) = some [vs i] := by
  have h8 : (i : Int) < 8 := by omega
  refine ⟨?_, ?_⟩
  · simp [iaddrV, hr, rowV_len, hi, h8]
  · simp [cellsAt, hr, rowV_get vs hi]
theorem row_put {h : Heap} {o : Nat} {vs : Nat → V} (hr : h[o]? = some (.row 1 (rowV vs) 0 true)) {i : Nat} (hi : i < 8) {x : V} (h1 : x.isCell = true) (h2 : x.cells = [x]) :
    evStoreV h 1 (.eptr o 0 i 0) x = some (V.non, h.set o (.row 1 (rowV (upv vs i x)) 0 true)) := by
  have hs : setRange [vs i] 0 [x] = some [x] := rfl
  simp only [evStoreV, h2, List.length_singleton, List.all_cons, List.all_nil, h1, Bool.and_self, and_self, if_true, evStore, hr, rowV_get vs hi, hs, rowV_set vs hi, setOb_eq]
end Go.Proofs.Lp
