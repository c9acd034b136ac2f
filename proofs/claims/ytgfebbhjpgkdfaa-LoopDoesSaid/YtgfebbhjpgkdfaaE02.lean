/- The evaluator, part 2: append, copy, slices of slices, len. append, as the evaluator says. copy, slices, len, conversions, against nil, max and min. copy, conversions, max and min. Texts and bytes. No conditions. -/
import Derived.Test.YtgfebbhjpgkdfaaE01
import Derived.Lib.ConvBytes
import Derived.Laws.BytesString
namespace Go.Ev
open Go.RowKit
set_option linter.unusedVariables false
set_option linter.unusedSectionVars false
set_option linter.unusedSimpArgs false

section
variable {P : Program} {B : Nat} {S : Cells} {w : World} {κ : Kap} {h : Heap}

theorem szOk_iff {sz : Nat} {xs : List (List V)} : szOk sz xs = true ↔ ∀ e ∈ xs, e.length = sz := by
  simp [szOk]

theorem Cel_flatten {b sz : Nat} : ∀ (es : List (List V)) (o : Nat), (∀ i e, es[i]? = some e → e.length = sz ∧ Cel S w κ b (o + i * sz) e) → Cel S w κ b o es.flatten
  | [], o, _, j, x, hx => by simp at hx
  | e :: es, o, hh, j, x, hx => by
    obtain ⟨h1, h2⟩ := hh 0 e rfl
    rw [Nat.zero_mul, Nat.add_zero] at h2
    rw [List.flatten_cons, List.getElem?_append] at hx
    split at hx
    · exact h2 j x hx
    · rename_i hge
      have := Cel_flatten es (o + sz) (fun i e' he => by
        obtain ⟨k1, k2⟩ := hh (i + 1) e' (by simpa using he)
        rw [Nat.succ_mul] at k2
        exact ⟨k1, by rwa [show o + sz + i * sz = o + (i * sz + sz) by omega]⟩) (j - e.length) x hx
      rwa [show o + sz + (j - e.length) = o + j by omega] at this

theorem flatten_len {sz : Nat} : ∀ (es : List (List V)), (∀ e ∈ es, e.length = sz) → es.flatten.length = es.length * sz
  | [], _ => by simp
  | e :: es, hh => by
    simp only [List.flatten_cons, List.length_append, List.length_cons]
    rw [hh e (by simp), flatten_len es (fun x hx => hh x (by simp [hx])), Nat.succ_mul]
    omega

/-- A source of elements, as append and copy read it. -/
theorem elems_sound (inv : Inv P B S w κ h) {sz : Nat} (h0 : sz ≠ 0) {x : V} {u : Value} {es : List (List V)} (hx : RV S w κ x u) (hh : elemsOf h x = some es) (hsz : ∀ e ∈ es, e.length = sz) :
    (Builtin.lenOf u).run P w = .ok es.length w ∧ (∀ y ∈ es.flatten, y.isCell = true) ∧
    ∀ m, m ≤ es.length → ∃ vs : List Value, vs.length = m * sz ∧ RL S w κ (es.take m).flatten vs ∧ (Builtin.firstCells sz m u).run P w = .ok vs.toArray w := by
  have key : ∀ (a : Addr) (n cap : Nat), n = es.length → (∀ m, m ≤ es.length → m ≠ 0 → ∃ b o, a = ⟨b, o, none⟩ ∧ Cel S w κ b o es.flatten) →
      ∀ m, m ≤ es.length → ∃ vs : List Value, vs.length = m * sz ∧ RL S w κ (es.take m).flatten vs ∧ (Builtin.firstCells sz m (.slice (some a) n cap)).run P w = .ok vs.toArray w := by
    intro a n cap hn hc m hm
    by_cases hm0 : m = 0
    · subst hm0
      exact ⟨[], by simp, by simp [RL], by simp [Builtin.firstCells, loadCells, loadCellsFrom]⟩
    · obtain ⟨b, o, rfl, hcel⟩ := hc m hm hm0
      have hfl : (es.take m).flatten = es.flatten.take (m * sz) := by
        have e1 : es.flatten = (es.take m).flatten ++ (es.drop m).flatten := by rw [← List.flatten_append, List.take_append_drop]
        have e2 : (es.take m).flatten.length = m * sz := by
          rw [flatten_len (sz := sz) _ (fun e he => hsz e (List.mem_of_mem_take he))]
          simp [Nat.min_eq_left hm]
        rw [e1, ← e2, List.take_left']
        rfl
      have hle : m * sz ≤ es.flatten.length := by
        rw [flatten_len es hsz]
        exact Nat.mul_le_mul_right _ hm
      obtain ⟨vs, l, r, k⟩ := Cel_list (m * sz) hcel hle
      refine ⟨vs, l, by rw [hfl]; exact r, ?_⟩
      have := run_loadCells_list (P := P) w ⟨b, o, none⟩ vs (fun j v hv => by rw [add_off]; exact k j v hv)
      rw [l] at this
      simp [Builtin.firstCells, this]
  unfold elemsOf at hh
  split at hh
  · cases hh
    simp only [RV] at hx
    subst hx
    refine ⟨by simp [Builtin.lenOf], by simp, fun m hm => ?_⟩
    have : m = 0 := by simpa using hm
    subst this
    exact ⟨[], by simp, by simp [RL], by simp [Builtin.firstCells]⟩
  · rename_i xs
    cases hh
    simp only [RV] at hx
    obtain ⟨a, cap, rfl, hcap, hx⟩ := hx
    rcases hx with rfl | ⟨b, o, sz', rfl, hre⟩
    · refine ⟨by simp [Builtin.lenOf], by simp, fun m hm => ?_⟩
      have : m = 0 := by simpa using hm
      subst this
      cases a with
      | none => exact ⟨[], by simp, by simp [RL], by simp [Builtin.firstCells]⟩
      | some a => exact ⟨[], by simp, by simp [RL], by simp [Builtin.firstCells, loadCells, loadCellsFrom]⟩
    · have hcells : ∀ (ys : List V) (b o : Nat), RC S w ys b o → ∀ y ∈ ys, y.isCell = true := by
        intro ys
        induction ys with
        | nil => simp
        | cons y ys ih =>
          intro b o hr z hz
          simp only [RC] at hr
          rcases List.mem_cons.1 hz with rfl | hz
          · obtain ⟨_, ⟨_, _, i, _⟩, _⟩ := hr; exact i
          · exact ih b (o + 1) hr.2.2 z hz
      refine ⟨by simp [Builtin.lenOf], fun y hy => ?_, key _ _ _ rfl (fun m hm hm0 => ⟨b, o, rfl, Cel_flatten (sz := sz) _ o (fun i e he => ?_)⟩)⟩
      · obtain ⟨e, he, hy⟩ := List.mem_flatten.1 hy
        obtain ⟨i, hi⟩ := List.getElem?_of_mem he
        exact hcells e b _ (RE_get hre hi).2 y hy
      · obtain ⟨k1, k2⟩ := RE_get hre he
        have : sz' = sz := by rw [← k1]; exact hsz e (List.mem_of_getElem? he)
        subst this
        exact ⟨k1, Cel_of_RC k2⟩
  · rename_i s
    cases hh
    simp only [RV] at hx
    subst hx
    refine ⟨by simp [Builtin.lenOf, bytesOf], fun y hy => ?_, fun m hm => ?_⟩
    · obtain ⟨e, he, hy⟩ := List.mem_flatten.1 hy
      simp only [bytesOf, List.mem_map] at he
      obtain ⟨b, _, rfl⟩ := he
      simp at hy; subst hy; rfl
    · by_cases hm0 : m = 0
      · subst hm0
        refine ⟨[], by simp, by simp [RL], ?_⟩
        simp [Builtin.firstCells]
      · have hs1 : sz = 1 := by
          cases hb : bytesOf s with
          | nil => rw [hb] at hm; simp at hm; omega
          | cons e r =>
            have h1 := hsz e (by rw [hb]; simp)
            have h2 : e ∈ bytesOf s := by rw [hb]; simp
            simp only [bytesOf, List.mem_map] at h2
            obtain ⟨b, _, rfl⟩ := h2
            simpa using h1.symm
        subst hs1
        refine ⟨(s.data.toList.take m).map fun b => Value.int .u8 b.toNat, ?_, ?_, ?_⟩
        · simp [bytesOf] at hm
          simp; omega
        · have e1 : ((bytesOf s).take m).flatten = (s.data.toList.take m).map fun b => V.int .u8 b.toNat := by
            rw [bytesOf, ← List.map_take]
            generalize s.data.toList.take m = l
            induction l with
            | nil => rfl
            | cons b l ih => simp [ih]
          rw [e1]
          generalize s.data.toList.take m = l
          induction l with
          | nil => simp [RL]
          | cons b l ih => simp only [List.map_cons, RL, RV]; exact ⟨trivial, ih⟩
        · simp only [Builtin.firstCells, Sem.run_pure]
          congr 1
          apply Array.ext'
          simp
  · rename_i id ep off len
    split at hh
    · rename_i zz xs cur wr hi
      obtain ⟨⟨hep, hle⟩, h1⟩ := ite_some hh
      subst hep
      subst h1
      obtain ⟨b, st, cp, c, el, fr, g1, g2, g3, g4, g5, g6, g7, g8, g9, g10, g11⟩ := row_elem inv hi
      simp only [RV] at hx
      obtain ⟨e', b', st', cp', sz'', a, cc, k1, k2, rfl, kl, k3⟩ := hx
      rw [g1] at k1; cases k1
      obtain ⟨k4, k5, k6, k7⟩ := k3 rfl
      have hlen : ((xs.drop off).take len).length = len := by simp; omega
      refine ⟨by simp [Builtin.lenOf]; omega, fun y hy => ?_, key _ _ _ hlen.symm (fun m hm hm0 => ?_)⟩
      · obtain ⟨e, he, hy⟩ := List.mem_flatten.1 hy
        exact List.all_eq_true.1 (g8 e (List.mem_of_mem_drop (List.mem_of_mem_take he))).2 y hy
      · rw [hlen] at hm
        rcases k7 with k7 | rfl
        · omega
        · refine ⟨_, _, rfl, Cel_flatten (sz := sz) _ _ (fun i e he => ?_)⟩
          rw [List.getElem?_take] at he
          split at he
          · rw [List.getElem?_drop] at he
            have hs' : zz = sz := by
              rw [← (g8 e (List.mem_of_getElem? he)).1]
              exact hsz e (by
                refine List.mem_of_getElem? (i := i) ?_
                rw [List.getElem?_take, if_pos (by assumption), List.getElem?_drop]
                exact he)
            subst hs'
            refine ⟨(g8 e (List.mem_of_getElem? he)).1, ?_⟩
            have := row_cel g2 g8 g9 (by omega) he
            rwa [show (off + i - st) * zz = (off - st) * zz + i * zz by rw [← Nat.add_mul]; congr 1; omega] at this
          · cases he
    · cases hh
  · cases hh
theorem app_fits {t u T e : TypeId} {q : Nat × Nat × List V} (ht : P.underlying t = some (.slice e)) {d : TypeDesc} (hu : P.underlying u = some d) (hd : ∀ k, d ≠ .int k) (hq : elemT P e = some q)
    {a : Addr} {sLen sCap n : Nat} {y : Value} {vs : List Value} (hl : (Builtin.lenOf y).run P w = .ok n w) (hf : (Builtin.firstCells q.1 n y).run P w = .ok vs.toArray w)
    (hc : sLen + n ≤ sCap) {w1 : World} (hst : (storeCells (a.add (sLen * q.1)) vs).run P w = .ok () w1) :
    (Builtin.append_ #[t, u] T #[.slice (some a) sLen sCap, y]).run P w = .ok (.slice (some a) (sLen + n) sCap) w1 := by
  obtain ⟨i, zv, z0, hi, hv, hz, rfl, n1, n2, n3, r1, r2, r3⟩ := elemT_run hq
  have hd' : (match d with | TypeDesc.int _ => true | _ => false) = false := by
    cases d <;> first | rfl | exact absurd rfl (hd _)
  simp only [Builtin.append_, List.getElem?_toArray, List.getElem?_cons_zero, List.getElem?_cons_succ, Sem.run_bind, run_underlying ht, run_underlying hu, Result.andThen_ok, r2]
  simp only [Sem.run_bind, run_underlying hu, Result.andThen_ok, Sem.run_pure, hd', Bool.false_eq_true, if_false, hl, Bool.not_false, if_true, if_pos hc, hf, hst]

theorem app_grows {t u T e : TypeId} {q : Nat × Nat × List V} (ht : P.underlying t = some (.slice e)) {d : TypeDesc} (hu : P.underlying u = some d) (hd : ∀ k, d ≠ .int k) (hq : elemT P e = some q)
    {base : Option Addr} {sLen sCap n : Nat} {y : Value} {vs os : List Value} (hl : (Builtin.lenOf y).run P w = .ok n w) (hf : (Builtin.firstCells q.1 n y).run P w.drew = .ok vs.toArray w.drew)
    (ho : (Builtin.firstCells q.1 sLen (.slice base sLen sCap)).run P w.drew = .ok os.toArray w.drew)
    (hc : ¬ sLen + n ≤ sCap) (hroom : (sLen + n) * q.2.1 ≤ roomB) :
    ∃ cap c, sLen + n ≤ cap ∧ c.size = os.length + vs.length + (cap - (sLen + n)) * q.1 ∧ (∀ j, j < os.length + vs.length → c.toList[j]? = (os ++ vs)[j]?) ∧
    (Builtin.append_ #[t, u] T #[.slice base sLen sCap, y]).run P w = .ok (.slice (some ⟨w.heap.size, 0, none⟩) (sLen + n) cap) (w.drew.alloc (.cells c e)) := by
  obtain ⟨i, zv, z0, hi, hv, hz, rfl, n1, n2, n3, r1, r2, r3⟩ := elemT_run hq
  have hd' : (match d with | TypeDesc.int _ => true | _ => false) = false := by
    cases d <;> first | rfl | exact absurd rfl (hd _)
  have hfit := growslice_fits (need := sLen + n) (old := sCap) (bytes := i.bytes) (by omega) hroom
  let cap := (Question.appendCap (sLen + n) sCap e).cut (w.tape w.drawn (.appendCap (sLen + n) sCap e))
  have hcap : sLen + n ≤ cap := by simp only [cap, Question.cut]; omega
  refine ⟨cap, os.toArray ++ vs.toArray ++ Builtin.zeroCells zv.cells (cap - (sLen + n)), hcap, ?_, ?_, ?_⟩
  · simp [Builtin.zeroCells, n3]
  · intro j hj
    simp only [Array.toList_append, List.append_assoc, ← List.append_assoc]
    rw [List.getElem?_append_left (by simpa using hj)]
  · simp only [Builtin.append_, List.getElem?_toArray, List.getElem?_cons_zero, List.getElem?_cons_succ, Sem.run_bind, run_underlying ht, run_underlying hu, Result.andThen_ok, r2]
    simp only [Sem.run_bind, run_underlying hu, Result.andThen_ok, Sem.run_pure, hd', Bool.false_eq_true, if_false, hl, Bool.not_false, if_true, if_neg hc, r3]
    rw [if_neg (by
      rintro ⟨_, h2⟩
      rcases h2 with h2 | h2
      · cases h2
      · exact n2 h2)]
    simp only [Sem.run_bind, Sem.run_pure, Result.andThen_ok, r3]
    rw [if_neg (by
      have : (2 : Nat) ^ 48 = 281474976710656 := by decide
      omega)]
    simp only [Sem.run_bind, Sem.run_pure, Result.andThen_ok, r3, run_choose, Question.forced, Bool.false_eq_true, if_false, run_askRoom]
    have ho1 : (Builtin.firstCells i.size sLen (.slice base sLen sCap)).run P { w with drawn := w.drawn + 1 } = .ok os.toArray { w with drawn := w.drawn + 1 } := ho
    have hf1 : (Builtin.firstCells i.size n y).run P { w with drawn := w.drawn + 1 } = .ok vs.toArray { w with drawn := w.drawn + 1 } := hf
    rw [ho1]
    simp only [Result.andThen_ok]
    rw [hf1]
    simp only [Result.andThen_ok, r1, newRow, Sem.run_bind, run_newObj, Sem.run_pure]
    rfl

end
end Go.Ev

namespace Go.Ev
open Go.RowKit
set_option linter.unusedVariables false
set_option linter.unusedSectionVars false
set_option linter.unusedSimpArgs false

section
variable {P : Program} {B : Nat} {S : Cells} {w : World} {κ : Kap} {h : Heap}

theorem flat_chunk {sz : Nat} {es : List (List V)} (hs : ∀ e ∈ es, e.length = sz) {i : Nat} {e : List V} (he : es[i]? = some e) : (es.flatten.drop (i * sz)).take sz = e := by
  apply List.ext_getElem?
  intro j
  rw [List.getElem?_take, List.getElem?_drop]
  have hl := hs e (List.mem_of_getElem? he)
  split
  · rename_i hj
    exact flatten_get sz es hs i j e he hj
  · rw [List.getElem?_eq_none (by omega)]

/-- Elements out of flat cells. -/
theorem RR_flat {sz st : Nat} {xs : List (List V)} {vs c : List Value} (hs : ∀ e ∈ xs, e.length = sz) (hr : RL S w κ (xs.drop st).flatten vs)
    (hc : ∀ j, j < vs.length → c[j]? = vs[j]?) : RR S w κ xs st sz c := by
  intro i e hi he
  have hs' : ∀ e ∈ xs.drop st, e.length = sz := fun e he => hs e (List.mem_of_mem_drop he)
  have he' : (xs.drop st)[i - st]? = some e := by rw [List.getElem?_drop, show st + (i - st) = i by omega]; exact he
  have h1 := flat_chunk hs' he'
  have h2 := RL_take (S := S) (w := w) (κ := κ) sz (RL_drop ((i - st) * sz) hr)
  rw [h1] at h2
  have hl := RL_length hr
  rw [flatten_len _ hs'] at hl
  have hil : i - st < (xs.drop st).length := (List.getElem?_eq_some_iff.1 he').1
  have hb : (i - st) * sz + sz ≤ vs.length := by
    rw [← hl, ← Nat.succ_mul]
    exact Nat.mul_le_mul_right _ hil
  have : (c.drop ((i - st) * sz)).take sz = (vs.drop ((i - st) * sz)).take sz := by
    apply List.ext_getElem?
    intro j
    simp only [List.getElem?_take, List.getElem?_drop]
    split
    · exact hc _ (by omega)
    · rfl
  rw [this]
  exact h2

theorem all_cells {sz : Nat} {es : List (List V)} (hs : ∀ e ∈ es, e.length = sz) (hc : ∀ y ∈ es.flatten, y.isCell = true) : ∀ e ∈ es, e.length = sz ∧ e.all V.isCell = true :=
  fun e he => ⟨hs e he, List.all_eq_true.2 fun y hy => hc y (List.mem_flatten.2 ⟨e, he, hy⟩)⟩

theorem app_none {t u T e : TypeId} {q : Nat × Nat × List V} (ht : P.underlying t = some (.slice e)) {d : TypeDesc} (hu : P.underlying u = some d) (hd : ∀ k, d ≠ .int k) (hq : elemT P e = some q)
    {y : Value} (hl : (Builtin.lenOf y).run P w = .ok 0 w) (hf : (Builtin.firstCells q.1 0 y).run P w = .ok #[] w) :
    (Builtin.append_ #[t, u] T #[.slice none 0 0, y]).run P w = .ok (.slice none 0 0) w := by
  obtain ⟨i, zv, z0, hi, hv, hz, rfl, n1, n2, n3, r1, r2, r3⟩ := elemT_run hq
  have hd' : (match d with | TypeDesc.int _ => true | _ => false) = false := by
    cases d <;> first | rfl | exact absurd rfl (hd _)
  simp only [Builtin.append_, List.getElem?_toArray, List.getElem?_cons_zero, List.getElem?_cons_succ, Sem.run_bind, run_underlying ht, run_underlying hu, Result.andThen_ok, r2]
  simp only [Sem.run_bind, run_underlying hu, Result.andThen_ok, Sem.run_pure, hd', Bool.false_eq_true, if_false, hl, Bool.not_false, if_true]
  have hf' : (Builtin.firstCells i.size 0 y).run P w = .ok #[] w := hf
  rw [if_pos (by omega)]
  simp only [Sem.run_bind, hf', Result.andThen_ok]
  rfl

theorem evApp_nils {sz by_ : Nat} {x z : V} {h' : Heap} {es : List (List V)} (he : elemsOf h x = some es) (hh : evApp h sz by_ .nils x = some (z, h')) :
    (es = [] ∧ z = .nils ∧ h' = h) ∨ (es ≠ [] ∧ es.length * by_ ≤ roomB ∧ (∀ e ∈ es, e.length = sz) ∧ z = .sl h.length 0 0 es.length ∧ h' = h ++ [.row sz es 0 true]) := by
  unfold evApp at hh
  rw [he] at hh
  cases es with
  | nil => simp at hh; exact .inl ⟨rfl, hh.1.symm, hh.2.symm⟩
  | cons e r =>
    right
    simp only at hh
    obtain ⟨⟨h1, h2⟩, h3⟩ := ite_some' hh
    simp only [fNat_eq, newOb_eq, Option.some.injEq, Prod.mk.injEq] at h3
    exact ⟨by simp, h1, szOk_iff.1 h2, h3.1.symm, h3.2.symm⟩

theorem evApp_sl {sz by_ id ep off len : Nat} {x z : V} {h' : Heap} {es : List (List V)} (he : elemsOf h x = some es) (hh : evApp h sz by_ (.sl id ep off len) x = some (z, h')) :
    ∃ zz xs cur wr, h[id]? = some (.row zz xs cur wr) ∧
      ((es = [] ∧ z = .sl id ep off len ∧ h' = h) ∨
       (es ≠ [] ∧ ep = cur ∧ zz = sz ∧ (len + es.length) * by_ ≤ roomB ∧ (∀ e ∈ es, e.length = sz) ∧
         ((off + len = xs.length ∧ z = .sl id (cur + 1) off (len + es.length) ∧ h' = h.set id (.row zz (xs ++ es) (cur + 1) wr)) ∨
          (off + len + es.length ≤ xs.length ∧ wr = true ∧ z = .sl id ep off (len + es.length) ∧
            h' = h.set id (.row zz (xs.take (off + len) ++ es ++ xs.drop (off + len + es.length)) cur true))))) := by
  unfold evApp at hh
  rw [he] at hh
  simp only at hh
  split at hh
  · rename_i zz xs cur wr hi
    refine ⟨zz, xs, cur, wr, hi, ?_⟩
    cases es with
    | nil => simp at hh; exact .inl ⟨rfl, hh.1.symm, hh.2.symm⟩
    | cons e r =>
      right
      simp only at hh
      obtain ⟨⟨h1, hz, h2, h3⟩, h4⟩ := ite_some' hh
      refine ⟨by simp, h1, hz, h2, szOk_iff.1 h3, ?_⟩
      split at h4
      · rename_i h5
        simp only [fNat_eq, setOb_eq, Option.some.injEq, Prod.mk.injEq] at h4
        exact .inl ⟨h5, h4.1.symm, h4.2.symm⟩
      · obtain ⟨⟨h6, h7⟩, h8⟩ := ite_some' h4
        simp only [fNat_eq, setOb_eq, Option.some.injEq, Prod.mk.injEq] at h8
        exact .inr ⟨h6, h7, h8.1.symm, h8.2.symm⟩
  · cases hh

theorem Inv.drawn (inv : Inv P B S w κ h) : Inv P B S w.drew κ h ∧ Stp B S w κ S w.drew κ := Inv.drew inv rfl rfl rfl rfl

/-- A new slice out of elements. -/
theorem app_new (inv : Inv P B S w κ h) {t u T e : TypeId} {q : Nat × Nat × List V} (ht : P.underlying t = some (.slice e)) {d : TypeDesc} (hu : P.underlying u = some d) (hd : ∀ k, d ≠ .int k)
    (hq : elemT P e = some q) {x : V} {y : Value} {es : List (List V)} (hx : RV S w κ x y) (hes : elemsOf h x = some es) (h0 : es ≠ []) (hroom : es.length * q.2.1 ≤ roomB) (hsz : ∀ e ∈ es, e.length = q.1) :
    ∃ r w' S' κ', (Builtin.append_ #[t, u] T #[.slice none 0 0, y]).run P w = .ok r w' ∧ Inv P B S' w' κ' (h ++ [.row q.1 es 0 true]) ∧ Stp B S w κ S' w' κ' ∧ RV S' w' κ' (.sl h.length 0 0 es.length) r := by
  have hq' := hq
  obtain ⟨ii, zv, z0, hi0, hv0, hz0, rfl, n1, n2, n3, r1, r2, r3⟩ := elemT_run hq
  obtain ⟨l1, _, _⟩ := elems_sound inv n1 hx hes hsz
  obtain ⟨inv1, st1⟩ := inv.drawn
  have hx1 := RV.mono st1.sle st1.kle _ _ hx
  obtain ⟨_, hcell, hf⟩ := elems_sound inv1 n1 hx1 hes hsz
  obtain ⟨vs, lv, rv, fv⟩ := hf es.length (Nat.le_refl _)
  rw [List.take_length] at rv
  have hpos : 0 < es.length := List.length_pos_iff.2 h0
  obtain ⟨cap, c, c1, c2, c3, c4⟩ := app_grows (T := T) (base := none) (sLen := 0) (sCap := 0) (os := []) ht hu hd hq' l1 fv (by simp [Builtin.firstCells]) (by omega) (by simpa using hroom)
  simp only [Nat.zero_add] at c1 c2 c4
  have hcs : c.size = cap * ii.size := by
    rw [c2, lv]
    simp only [List.length_nil, Nat.zero_add]
    rw [← Nat.add_mul]
    congr 1; omega
  obtain ⟨g1, g2, g3⟩ := fresh_row inv1 (xs := es) (c := c) e cap ii.size (by omega) hcs c1 (all_cells hsz hcell)
    (RR_flat hsz (by simpa using rv) (fun j hj => by have := c3 j (by simpa using hj); simpa using this))
  exact ⟨_, _, _, _, c4, g1, st1.trans g2, g3⟩
theorem RR_mono {S' : Cells} {w' : World} {κ' : Kap} (hs : Sle S w S' w') (hk : Kle κ κ') {xs : List (List V)} {st sz : Nat} {c : List Value} (hr : RR S w κ xs st sz c) : RR S' w' κ' xs st sz c :=
  fun i e hi he => RL.mono hs hk _ _ (hr i e hi he)

/-- Elements written into a row's block from place m on. -/
theorem RR_put {xs es : List (List V)} {st sz m : Nat} {c : Array Value} {vs : List Value} (hm : st ≤ m) (hmx : m ≤ xs.length) (hr : RR S w κ xs st sz c.toList) (hx : ∀ e ∈ xs, e.length = sz)
    (hes : ∀ e ∈ es, e.length = sz) (hv : RL S w κ es.flatten vs) (hfit : (m - st) * sz + vs.length ≤ c.size) :
    RR S w κ (xs.take m ++ es ++ xs.drop (m + es.length)) st sz (putA c ((m - st) * sz) vs).toList := by
  have hvl : vs.length = es.length * sz := by rw [← RL_length hv, flatten_len es hes]
  intro i e hi he
  have ltk : (xs.take m).length = m := by simp; omega
  have l2 : (xs.take m ++ es).length = m + es.length := by simp; omega
  rw [List.getElem?_append, List.getElem?_append, ltk, l2] at he
  by_cases h1 : i < m
  · rw [if_pos (by omega), if_pos h1, List.getElem?_take, if_pos h1] at he
    rw [drop_take_putA hfit]
    · exact hr i e hi he
    · left
      have : (i - st + 1) * sz ≤ (m - st) * sz := Nat.mul_le_mul_right _ (by omega)
      rw [Nat.succ_mul] at this
      omega
  · by_cases h2 : i < m + es.length
    · rw [if_pos h2, if_neg h1] at he
      have h3 := RL_take (S := S) (w := w) (κ := κ) sz (RL_drop ((i - m) * sz) hv)
      rw [flat_chunk hes he] at h3
      have hb : (i - m + 1) * sz ≤ es.length * sz := Nat.mul_le_mul_right _ (by omega)
      rw [Nat.succ_mul] at hb
      have : ((putA c ((m - st) * sz) vs).toList.drop ((i - st) * sz)).take sz = (vs.drop ((i - m) * sz)).take sz := by
        apply List.ext_getElem?
        intro j
        simp only [List.getElem?_take, List.getElem?_drop, Array.getElem?_toList]
        split
        · have e1 : (i - st) * sz = (m - st) * sz + (i - m) * sz := by rw [← Nat.add_mul]; congr 1; omega
          rw [putA_get vs c _ hfit, if_pos (by omega)]
          congr 1; omega
        · rfl
      rw [this]
      exact h3
    · rw [if_neg h2, List.getElem?_drop] at he
      have e1 : m + es.length + (i - (m + es.length)) = i := by omega
      rw [e1] at he
      rw [drop_take_putA hfit]
      · exact hr i e hi he
      · right
        have : (m - st + es.length) * sz ≤ (i - st) * sz := Nat.mul_le_mul_right _ (by omega)
        rw [Nat.add_mul] at this
        omega

set_option maxHeartbeats 1000000 in
/-- Onto a slice of ours. -/
theorem app_onto (inv : Inv P B S w κ h) {t u T e : TypeId} {q : Nat × Nat × List V} (ht : P.underlying t = some (.slice e)) {d : TypeDesc} (hu : P.underlying u = some d) (hd : ∀ k, d ≠ .int k)
    (hq : elemT P e = some q) {id off len : Nat} {x : V} {v y : Value} {es : List (List V)} {xs : List (List V)} {cur : Nat} {wr : Bool} (hi : h[id]? = some (.row q.1 xs cur wr))
    (hs : RV S w κ (.sl id cur off len) v) (hx : RV S w κ x y) (hes : elemsOf h x = some es) (h0 : es ≠ []) (hroom : (len + es.length) * q.2.1 ≤ roomB) (hsz : ∀ e ∈ es, e.length = q.1)
    (htip : off + len = xs.length) :
    ∃ r w' S' κ', (Builtin.append_ #[t, u] T #[v, y]).run P w = .ok r w' ∧ Inv P B S' w' κ' (h.set id (.row q.1 (xs ++ es) (cur + 1) wr)) ∧ Stp B S w κ S' w' κ' ∧
      RV S' w' κ' (.sl id (cur + 1) off (len + es.length)) r := by
  have hq' := hq
  obtain ⟨ii, zv, z0, hi0, hv0, hz0, rfl, n1, n2, n3, r1, r2, r3⟩ := elemT_run hq
  obtain ⟨l1, hcell, hf⟩ := elems_sound inv n1 hx hes hsz
  obtain ⟨b, st, cp, c, el, fr, g1, g2, g3, g4, g5, g6, g7, g8, g9, g10, g11⟩ := row_elem inv hi
  simp only [RV] at hs
  obtain ⟨e', b', st', cp', sz', a, cc, k1, k2, rfl, kl, k3⟩ := hs
  rw [g1] at k1; cases k1
  obtain ⟨k4, k5, k6, k7⟩ := k3 rfl
  have hpos : 0 < es.length := List.length_pos_iff.2 h0
  have hilt := (inv.dom _ _ g1).1
  have hb := (Array.getElem?_eq_some_iff.1 g2).1
  have hbB := (inv.dom _ _ g1).2.1
  obtain ⟨vs, lv, rv, fv⟩ := hf es.length (Nat.le_refl _)
  rw [List.take_length] at rv
  have hxs : ∀ e ∈ xs, e.length = ii.size := fun e he => (g8 e he).1
  have hmem : ∀ e ∈ xs ++ es, e.length = ii.size ∧ e.all V.isCell = true := fun e he => by
    rcases List.mem_append.1 he with he | he
    · exact g8 e he
    · exact all_cells hsz hcell e he
  by_cases hfit : len + es.length ≤ cc
  · -- within the capacity
    have hane : a = ⟨b, (off - st) * ii.size, none⟩ := by
      rcases k7 with k7 | k7
      · omega
      · exact k7
    subst hane
    have e1 : (off - st) * ii.size + len * ii.size = (xs.length - st) * ii.size := by
      rw [← Nat.add_mul]; congr 1; omega
    have hput : (xs.length - st) * ii.size + 0 + vs.length ≤ c.size := by
      rw [lv, g5, Nat.add_zero, ← Nat.add_mul]
      exact Nat.mul_le_mul_right _ (by omega)
    have hone : ∀ v ∈ vs, v.oneCell' = true := allCell_one rv (List.all_eq_true.2 hcell)
    have hst := run_storeCells_block (P := P) vs ((xs.length - st) * ii.size) 0 c w g2 g3.1 hput hone
    have hrun := app_fits (T := T) ht hu hd hq' (a := ⟨b, (off - st) * ii.size, none⟩) l1 fv hfit (w1 := World.withBlock w b (.cells (putA c ((xs.length - st) * ii.size + 0) vs) el fr))
      (by rw [add_off, e1]; exact hst)
    have hput' : (xs.length - st) * ii.size + vs.length ≤ c.size := by omega
    have hW := Inv.write inv g1 (.cells (putA c ((xs.length - st) * ii.size + 0) vs) el fr) (.row (cur + 1) b st cp ii.size) (.later _ _ _ _ _ _ _ _ _ (by omega)) rfl
      (.row ii.size (xs ++ es) (cur + 1) wr) (fun o hs => by
        have ho : o < (xs.length - st) * ii.size := by
          rcases Nat.lt_or_ge o ((xs.length - st) * ii.size) with h | h
          · exact h
          · exact absurd hs (g10 o h)
        show (World.withBlock w b _).cell? ⟨b, o, none⟩ = w.cell? ⟨b, o, none⟩
        rw [cell?_of _ _ _ (withBlock_same w _ _ hb), cell?_of w _ _ g2, Nat.add_zero, putA_get vs c _ hput', if_neg (by omega)]) (fun sle kle => by
        refine ⟨b, st, cp, _, el, fr, upd_same _ _ _, withBlock_same _ _ _ hb, by rw [putA_size]; exact g3, g4, by rw [putA_size]; exact g5, by simp; omega, by simp; omega, hmem, ?_, ?_, g11⟩
        · have := RR_put (S := S) (w := w) (κ := κ) (m := xs.length) g6 (Nat.le_refl _) g9 hxs hsz rv hput'
          rw [List.take_length, List.drop_eq_nil_of_le (by omega), List.append_nil] at this
          exact RR_mono sle kle this
        · intro o ho
          refine g10 o (Nat.le_trans (Nat.mul_le_mul_right _ ?_) ho)
          simp; omega)
    refine ⟨_, _, _, _, hrun, hW.1, hW.2, ?_⟩
    simp only [RV]
    exact ⟨_, b, st, cp, _, _, _, upd_same _ _ _, Nat.le_refl _, rfl, by omega, fun _ => ⟨k4, by omega, by omega, .inr rfl⟩⟩
  · -- a new block
    obtain ⟨inv1, st1⟩ := inv.drawn
    have hx1 := RV.mono st1.sle st1.kle _ _ hx
    obtain ⟨_, _, hf1⟩ := elems_sound inv1 n1 hx1 hes hsz
    obtain ⟨vs1, lv1, rv1, fv1⟩ := hf1 es.length (Nat.le_refl _)
    rw [List.take_length] at rv1
    have hsl : RV S w.drew κ (.sl id cur off len) (.slice (some a) len cc) := by
      simp only [RV]
      exact ⟨_, b, st, cp, _, _, _, g1, Nat.le_refl _, rfl, kl, fun _ => ⟨k4, k5, k6, k7⟩⟩
    have hel : elemsOf h (.sl id cur off len) = some (xs.drop off) := by
      simp only [elemsOf, hi, true_and]
      rw [if_pos (by omega), List.take_of_length_le (by simp; omega)]
    obtain ⟨_, _, hf2⟩ := elems_sound inv1 n1 hsl hel (fun e he => hxs e (List.mem_of_mem_drop he))
    obtain ⟨os, lo, ro, fo⟩ := hf2 len (by simp; omega)
    rw [List.take_of_length_le (by simp; omega)] at ro
    obtain ⟨cap, c', c1, c2, c3, c4⟩ := app_grows (T := T) ht hu hd hq' l1 fv1 fo hfit hroom
    have hcs : c'.size = cap * ii.size := by
      rw [c2, lo, lv1, ← Nat.add_mul, ← Nat.add_mul]
      congr 1; omega
    have hW := Inv.fresh inv1 id (by omega) (.cells c' e) (.row (cur + 1) w.heap.size off cap ii.size)
      (fun k hk => by rw [g1] at hk; cases hk; exact .later _ _ _ _ _ _ _ _ _ (by omega)) rfl (h.set id (.row ii.size (xs ++ es) (cur + 1) wr))
      (fun i o hne ho => by rwa [List.getElem?_set_ne (Ne.symm hne)] at ho) (by simp) (by simpa using hilt) (fun sle kle o ho => by
        rw [List.getElem?_set_self hilt] at ho
        cases ho
        refine ⟨w.heap.size, off, cap, c', e, (0, 0), upd_same _ _ _, alloc_last w.drew _, ⟨NF_zero _, fun _ => NF_zero _⟩, g4, hcs, by simp; omega, by simp; omega, hmem, ?_, fun o _ ho => ?_, fun _ o ho => ?_⟩
        · refine RR_mono sle kle (RR_flat (fun e he => (hmem e he).1) (vs := os ++ vs1) ?_ (fun j hj => c3 j (by simpa using hj)))
          rw [List.drop_append_of_le_length (by omega), List.flatten_append]
          exact RL_append ro rv1
        · exact absurd (inv.sb _ _ ho) (by omega)
        · exact absurd (inv.sb _ _ ho) (by omega))
    refine ⟨_, _, _, _, c4, hW.1, st1.trans hW.2, ?_⟩
    simp only [RV]
    exact ⟨_, _, off, cap, _, _, _, upd_same _ _ _, Nat.le_refl _, rfl, c1, fun _ => ⟨Nat.le_refl _, by omega, by omega, .inr (by simp)⟩⟩

set_option maxHeartbeats 1000000 in
/-- Over what stands in a slice of ours. -/
theorem app_over (inv : Inv P B S w κ h) {t u T e : TypeId} {q : Nat × Nat × List V} (ht : P.underlying t = some (.slice e)) {d : TypeDesc} (hu : P.underlying u = some d) (hd : ∀ k, d ≠ .int k)
    (hq : elemT P e = some q) {id off len : Nat} {x : V} {v y : Value} {es : List (List V)} {xs : List (List V)} {cur : Nat} (hi : h[id]? = some (.row q.1 xs cur true))
    (hs : RV S w κ (.sl id cur off len) v) (hx : RV S w κ x y) (hes : elemsOf h x = some es) (h0 : es ≠ []) (hsz : ∀ e ∈ es, e.length = q.1)
    (hin : off + len + es.length ≤ xs.length) :
    ∃ r w' S' κ', (Builtin.append_ #[t, u] T #[v, y]).run P w = .ok r w' ∧
      Inv P B S' w' κ' (h.set id (.row q.1 (xs.take (off + len) ++ es ++ xs.drop (off + len + es.length)) cur true)) ∧ Stp B S w κ S' w' κ' ∧
      RV S' w' κ' (.sl id cur off (len + es.length)) r := by
  have hq' := hq
  obtain ⟨ii, zv, z0, hi0, hv0, hz0, rfl, n1, n2, n3, r1, r2, r3⟩ := elemT_run hq
  obtain ⟨l1, hcell, hf⟩ := elems_sound inv n1 hx hes hsz
  obtain ⟨b, st, cp, c, el, fr, g1, g2, g3, g4, g5, g6, g7, g8, g9, g10, g11⟩ := row_elem inv hi
  simp only [RV] at hs
  obtain ⟨e', b', st', cp', sz', a, cc, k1, k2, rfl, kl, k3⟩ := hs
  rw [g1] at k1; cases k1
  obtain ⟨k4, k5, k6, k7⟩ := k3 rfl
  have hpos : 0 < es.length := List.length_pos_iff.2 h0
  have hb := (Array.getElem?_eq_some_iff.1 g2).1
  obtain ⟨vs, lv, rv, fv⟩ := hf es.length (Nat.le_refl _)
  rw [List.take_length] at rv
  have hxs : ∀ e ∈ xs, e.length = ii.size := fun e he => (g8 e he).1
  have hfit : len + es.length ≤ cc := by omega
  have hane : a = ⟨b, (off - st) * ii.size, none⟩ := by
    rcases k7 with k7 | k7
    · omega
    · exact k7
  subst hane
  have e1 : (off - st) * ii.size + len * ii.size = (off + len - st) * ii.size := by
    rw [← Nat.add_mul]; congr 1; omega
  have hput : (off + len - st) * ii.size + 0 + vs.length ≤ c.size := by
    rw [lv, g5, Nat.add_zero, ← Nat.add_mul]
    exact Nat.mul_le_mul_right _ (by omega)
  have hone : ∀ v ∈ vs, v.oneCell' = true := allCell_one rv (List.all_eq_true.2 hcell)
  have hst := run_storeCells_block (P := P) vs ((off + len - st) * ii.size) 0 c w g2 g3.1 hput hone
  have hrun := app_fits (T := T) ht hu hd hq' (a := ⟨b, (off - st) * ii.size, none⟩) l1 fv hfit (w1 := World.withBlock w b (.cells (putA c ((off + len - st) * ii.size + 0) vs) el fr))
    (by rw [add_off, e1]; exact hst)
  have hput' : (off + len - st) * ii.size + vs.length ≤ c.size := by omega
  have hlen : (xs.take (off + len) ++ es ++ xs.drop (off + len + es.length)).length = xs.length := by simp; omega
  have hW := Inv.write inv g1 (.cells (putA c ((off + len - st) * ii.size + 0) vs) el fr) (.row cur b st cp ii.size) (.refl _) rfl
    (.row ii.size (xs.take (off + len) ++ es ++ xs.drop (off + len + es.length)) cur true) (fun o hs => absurd hs (g11 rfl o)) (fun sle kle => by
      refine ⟨b, st, cp, _, el, fr, upd_same _ _ _, withBlock_same _ _ _ hb, by rw [putA_size]; exact g3, g4, by rw [putA_size]; exact g5, by rw [hlen]; exact g6, by rw [hlen]; exact g7, ?_, ?_, by rw [hlen]; exact g10, g11⟩
      · intro e he
        rcases List.mem_append.1 he with he | he
        · rcases List.mem_append.1 he with he | he
          · exact g8 e (List.mem_of_mem_take he)
          · exact all_cells hsz hcell e he
        · exact g8 e (List.mem_of_mem_drop he)
      · exact RR_mono sle kle (RR_put (S := S) (w := w) (κ := κ) (m := off + len) (by omega) (by omega) g9 hxs hsz rv hput'))
  refine ⟨_, _, _, _, hrun, hW.1, hW.2, ?_⟩
  simp only [RV]
  exact ⟨_, b, st, cp, _, _, _, upd_same _ _ _, Nat.le_refl _, rfl, by omega, fun _ => ⟨k4, by omega, by omega, .inr rfl⟩⟩

/-- append, as the evaluator says. -/
theorem app_sound (inv : Inv P B S w κ h) {t u T e : TypeId} {q : Nat × Nat × List V} (ht : P.underlying t = some (.slice e)) {d : TypeDesc} (hu : P.underlying u = some d) (hd : ∀ k, d ≠ .int k)
    (hq : elemT P e = some q) {s x z : V} {v y : Value} {h' : Heap} (hs : RV S w κ s v) (hx : RV S w κ x y) (hh : evApp h q.1 q.2.1 s x = some (z, h')) :
    ∃ r w' S' κ', (Builtin.append_ #[t, u] T #[v, y]).run P w = .ok r w' ∧ Inv P B S' w' κ' h' ∧ Stp B S w κ S' w' κ' ∧ RV S' w' κ' z r := by
  have n1 : q.1 ≠ 0 := by
    obtain ⟨ii, zv, z0, hi0, hv0, hz0, rfl, n1, _⟩ := elemT_run hq
    exact n1
  cases hes : elemsOf h x with
  | none => unfold evApp at hh; rw [hes] at hh; cases hh
  | some es =>
    cases s with
    | nils =>
      simp only [RV] at hs
      subst hs
      rcases evApp_nils hes hh with ⟨rfl, rfl, rfl⟩ | ⟨h0, h1, h2, rfl, rfl⟩
      · obtain ⟨l1, _, hf⟩ := elems_sound inv n1 hx hes (by simp)
        obtain ⟨vs, lv, rv, fv⟩ := hf 0 (Nat.le_refl _)
        have : vs = [] := by simpa using lv
        subst this
        exact ⟨_, _, S, κ, app_none ht hu hd hq l1 fv, inv, .refl _ _ _ _, by simp [RV]⟩
      · exact app_new inv ht hu hd hq hx hes h0 h1 h2
    | sl id ep off len =>
      obtain ⟨zz, xs, cur, wr, hi, hc⟩ := evApp_sl hes hh
      rcases hc with ⟨rfl, rfl, rfl⟩ | ⟨h0, rfl, rfl, h2, h3, h4⟩
      · obtain ⟨l1, _, hf⟩ := elems_sound inv n1 hx hes (by simp)
        obtain ⟨vs, lv, rv, fv⟩ := hf 0 (Nat.le_refl _)
        have : vs = [] := by simpa using lv
        subst this
        have hs' := hs
        simp only [RV] at hs
        obtain ⟨e', b', st', cp', sz', a, cc, k1, k2, rfl, kl, k3⟩ := hs
        exact ⟨_, _, S, κ, app_fits (T := T) ht hu hd hq l1 fv (by simpa using kl) (w1 := w) rfl, inv, .refl _ _ _ _, hs'⟩
      · rcases h4 with ⟨h5, rfl, rfl⟩ | ⟨h5, rfl, rfl, rfl⟩
        · exact app_onto inv ht hu hd hq hi hs hx hes h0 h2 h3 h5
        · exact app_over inv ht hu hd hq hi hs hx hes h0 h3 h5
    | _ => unfold evApp at hh; rw [hes] at hh; cases hh
end
end Go.Ev

namespace Go.Ev
open Go.RowKit
set_option linter.unusedVariables false
set_option linter.unusedSectionVars false
set_option linter.unusedSimpArgs false

section
variable {P : Program} {B : Nat} {S : Cells} {w : World} {κ : Kap} {h : Heap}

theorem ME_length : ∀ (xs : List (V × V × Nat)) (ys : List MapEntry), ME S w κ xs ys → xs.length = ys.length
  | [], [], _ => rfl
  | [], _ :: _, h => h.elim
  | _ :: _, [], h => h.elim
  | x :: xs, y :: ys, h => by simp [ME_length xs ys h.2.2.2]

theorem map_obj (inv : Inv P B S w κ h) {id : Nat} {es : List (V × V × Nat)} {clock : Nat} (hi : h[id]? = some (.map es clock)) {u : Value} (hx : RV S w κ (.map id) u) :
    ∃ b es', u = .map (some b) ∧ κ id = some (.blk b) ∧ w.heap[b]? = some (.map es' clock) ∧ ME S w κ es es'.toList := by
  obtain ⟨b, es', h1, h2, h3⟩ := inv.obs _ _ hi
  simp only [RV] at hx
  obtain ⟨b', k1, rfl⟩ := hx
  rw [h1] at k1; cases k1
  exact ⟨b, es', rfl, h1, h2, h3⟩

theorem getObj_map {b : Nat} {es : Array MapEntry} {clock : Nat} (hb : w.heap[b]? = some (.map es clock)) : (getObj b).run P w = .ok (.map es clock) w := by
  simp [getObj, Sem.run, hb]

theorem len_s {t T : TypeId} (ht : P.underlying t = some .string) {x : V} {u : Value} {n : Nat} (hx : RV S w κ x u) (hh : lenV .s h x = some n) :
    (Builtin.len_ #[t] T #[u]).run P w = .ok (.int .i64 n) w := by
  cases x <;> simp only [lenV, Option.some.injEq, reduceCtorEq] at hh
  simp only [RV] at hx
  subst hx; subst hh
  simp [Builtin.len_, run_underlying ht, goInt]

theorem lenV_l {x : V} {u : Value} {n : Nat} (hx : RV S w κ x u) (hh : lenV .l h x = some n) : ∃ a c, u = .slice a n c := by
  cases x <;> simp only [lenV, Option.some.injEq, reduceCtorEq] at hh
  case nils => simp only [RV] at hx; subst hh; exact ⟨_, _, hx⟩
  case arr => simp only [RV] at hx; obtain ⟨a, c, rfl, _⟩ := hx; subst hh; exact ⟨_, _, rfl⟩
  case sl => simp only [RV] at hx; obtain ⟨_, _, _, _, _, a, c, _, _, rfl, _⟩ := hx; subst hh; exact ⟨_, _, rfl⟩

theorem len_l {t T e : TypeId} (ht : P.underlying t = some (.slice e)) {x : V} {u : Value} {n : Nat} (hx : RV S w κ x u) (hh : lenV .l h x = some n) :
    (Builtin.len_ #[t] T #[u]).run P w = .ok (.int .i64 n) w := by
  obtain ⟨a, c, rfl⟩ := lenV_l hx hh
  simp [Builtin.len_, run_underlying ht, goInt]

theorem len_m (inv : Inv P B S w κ h) {t T k e : TypeId} (ht : P.underlying t = some (.map k e)) {x : V} {u : Value} {n : Nat} (hx : RV S w κ x u) (hh : lenV .m h x = some n) :
    (Builtin.len_ #[t] T #[u]).run P w = .ok (.int .i64 n) w := by
  cases x <;> simp only [lenV, Option.some.injEq, reduceCtorEq] at hh
  case nilm => simp only [RV] at hx; subst hx; subst hh; simp [Builtin.len_, run_underlying ht, goInt]
  case map id =>
    split at hh
    · rename_i es clock hi
      cases hh
      obtain ⟨b, es', rfl, h1, h2, h3⟩ := map_obj inv hi hx
      have hl := ME_length _ _ h3
      simp at hl
      simp [Builtin.len_, run_underlying ht, goInt, getObj_map h2, hl]
    · cases hh

theorem evLen_some {k : Lk} {x z : V} {h' : Heap} (hh : evLen h k x = some (z, h')) : ∃ n, lenV k h x = some n ∧ z = .int .i64 n ∧ h' = h := by
  unfold evLen at hh
  split at hh
  · rename_i n hn
    simp only [fNat_eq, Option.some.injEq, Prod.mk.injEq] at hh
    exact ⟨n, hn, hh.1.symm, hh.2.symm⟩
  · cases hh

/-! ### Against nil -/
def nkT (P : Program) (t : TypeId) : Lk → Prop
  | .p => ∃ e, P.underlying t = some (.pointer e)
  | .l => ∃ e, P.underlying t = some (.slice e)
  | .m => ∃ k e, P.underlying t = some (.map k e)
  | .f => ∃ a b c, P.underlying t = some (.func a b c)
  | .s => False

theorem nilOf_sound {k : Lk} {x : V} {u : Value} {b : Bool} (hx : RV S w κ x u) (hh : nilOf k x = some b) :
    match k with
    | .p => (b = true ∧ u = .pointer none) ∨ (b = false ∧ ∃ a, u = .pointer (some a))
    | .l => (b = true ∧ u = .slice none 0 0) ∨ (b = false ∧ ∃ a n c, u = .slice (some a) n c)
    | .m => (b = true ∧ u = .map none) ∨ (b = false ∧ ∃ a, u = .map (some a))
    | .f => (b = true ∧ u = .nilFunc) ∨ (b = false ∧ ∃ f a c, u = .func f a c)
    | .s => False := by
  cases k
  case p =>
    cases x <;> simp only [nilOf, Option.some.injEq, reduceCtorEq] at hh
    case nilp => simp only [RV] at hx; exact .inl ⟨hh.symm, hx⟩
    case ptr => simp only [RV] at hx; obtain ⟨_, _, rfl⟩ := hx; exact .inr ⟨hh.symm, _, rfl⟩
    case eptr => simp only [RV] at hx; obtain ⟨_, _, _, _, _, _, _, _, rfl, _⟩ := hx; exact .inr ⟨hh.symm, _, rfl⟩
    case iptr => simp only [RV] at hx; obtain ⟨_, _, rfl, _⟩ := hx; exact .inr ⟨hh.symm, _, rfl⟩
  case l =>
    cases x <;> simp only [nilOf, Option.some.injEq, reduceCtorEq] at hh
    case nils => simp only [RV] at hx; exact .inl ⟨hh.symm, hx⟩
    case arr xs =>
      cases xs with
      | nil => cases hh
      | cons e r =>
        simp only [RV] at hx
        obtain ⟨a, c, rfl, _, hx⟩ := hx
        rcases hx with hx | ⟨_, _, _, rfl, _⟩
        · cases hx
        · exact .inr ⟨by simpa using hh.symm, _, _, _, rfl⟩
    case sl => simp only [RV] at hx; obtain ⟨_, _, _, _, _, _, _, _, _, rfl, _⟩ := hx; exact .inr ⟨hh.symm, _, _, _, rfl⟩
  case m =>
    cases x <;> simp only [nilOf, Option.some.injEq, reduceCtorEq] at hh
    case nilm => simp only [RV] at hx; exact .inl ⟨hh.symm, hx⟩
    case map => simp only [RV] at hx; obtain ⟨_, _, rfl⟩ := hx; exact .inr ⟨hh.symm, _, rfl⟩
  case f =>
    cases x with
    | nilf => simp only [nilOf, Option.some.injEq] at hh; simp only [RV] at hx; exact .inl ⟨hh.symm, hx⟩
    | fn f a c =>
      have hb : b = false := by simpa [nilOf] using hh.symm
      cases f <;> (simp only [RV] at hx; obtain ⟨_, _, rfl, _⟩ := hx; exact .inr ⟨hb, _, _, _, rfl⟩)
    | _ => simp [nilOf] at hh
  case s => simp [nilOf] at hh

theorem eqn_sound {k : Lk} {t : TypeId} (ht : nkT P t k) {x y : V} {u v : Value} {r : Bool} (hx : RV S w κ x u) (hy : RV S w κ y v) (hh : eqnV k x y = some r) (D : Nat) (w' : World) :
    (Op.equalIn (D + 1) t u v).run P w' = .ok r w' := by
  unfold eqnV at hh
  cases hn : nilOf k x with
  | none => rw [hn] at hh; cases hh
  | some b =>
    rw [hn] at hh
    have h1 := nilOf_sound hx hn
    cases hm : nilOf k y with
    | none => rw [hm] at hh; cases b <;> cases hh
    | some b' =>
      rw [hm] at hh
      have h2 := nilOf_sound hy hm
      cases k
      case p =>
        obtain ⟨e, he⟩ := ht
        rcases h1 with ⟨rfl, rfl⟩ | ⟨rfl, a, rfl⟩ <;> rcases h2 with ⟨rfl, rfl⟩ | ⟨rfl, a', rfl⟩ <;> cases hh <;>
          simp only [Op.equalIn, Sem.run_bind, run_underlying he, Result.andThen_ok, Option.isNone, Sem.run_pure]
      case l =>
        obtain ⟨e, he⟩ := ht
        rcases h1 with ⟨rfl, rfl⟩ | ⟨rfl, a, n, c, rfl⟩ <;> rcases h2 with ⟨rfl, rfl⟩ | ⟨rfl, a', n', c', rfl⟩ <;> cases hh <;>
          simp only [Op.equalIn, Sem.run_bind, run_underlying he, Result.andThen_ok, Option.isNone, Sem.run_pure]
      case m =>
        obtain ⟨e, e', he⟩ := ht
        rcases h1 with ⟨rfl, rfl⟩ | ⟨rfl, a, rfl⟩ <;> rcases h2 with ⟨rfl, rfl⟩ | ⟨rfl, a', rfl⟩ <;> cases hh <;>
          simp only [Op.equalIn, Sem.run_bind, run_underlying he, Result.andThen_ok, Option.isNone, Sem.run_pure]
      case f =>
        obtain ⟨e, e', e'', he⟩ := ht
        rcases h1 with ⟨rfl, rfl⟩ | ⟨rfl, a, n, c, rfl⟩ <;> rcases h2 with ⟨rfl, rfl⟩ | ⟨rfl, a', n', c', rfl⟩ <;> cases hh <;>
          simp only [Op.equalIn, Sem.run_bind, run_underlying he, Result.andThen_ok, Option.isNone, Sem.run_pure]
      case s => exact ht.elim

/-! ### Slices -/
theorem bound_sound {x : V} {u : Value} {n m : Nat} (c : BoundsCode) (hx : RV S w κ x u) (hh : bound x n = some m) (w' : World) :
    m ≤ n ∧ (Instr.sliceBound u n c).run P w' = .ok m w' := by
  unfold bound at hh
  split at hh
  · obtain ⟨hc, rfl⟩ := ite_some hh
    simp only [RV] at hx
    subst hx
    exact ⟨by omega, by simp [Instr.sliceBound, asIntOf, hc]⟩
  · cases hh

/-- An operand that may be left out. -/
def RO (S : Cells) (w : World) (κ : Kap) : Option V → Option Value → Prop
  | some x, some u => RV S w κ x u
  | none, none => True
  | _, _ => False

theorem lohi_sound {len most cap : Nat} {lo hi : Option V} {lo' hi' : Option Value} {l m : Nat} (isS : Bool) (hmost : most ≤ cap) (hlen : len ≤ most)
    (hlo : RO S w κ lo lo') (hhi : RO S w κ hi hi') (hh : lohi len most lo hi = some (l, m)) (w' : World) :
    l ≤ m ∧ m ≤ most ∧ (Instr.sliceBounds isS len cap lo' hi' none).run P w' = .ok (l, m, cap) w' := by
  have bnd : ∀ {x : V} {u : Value} {n c m : Nat} (code : BoundsCode), n ≤ c → RV S w κ x u → bound x n = some m → m ≤ n ∧ (Instr.sliceBound u c code).run P w' = .ok m w' := by
    intro x u n c m code hnc hx hb
    unfold bound at hb
    split at hb
    · obtain ⟨hc, rfl⟩ := ite_some hb
      simp only [RV] at hx
      subst hx
      refine ⟨by omega, ?_⟩
      simp only [Instr.sliceBound, asIntOf, Sem.run_bind, Sem.run_pure, Result.andThen_ok]
      rw [if_pos (by omega)]
      rfl
    · cases hb
  unfold lohi at hh
  cases hi with
  | none =>
    cases hi' with
    | some _ => exact hhi.elim
    | none =>
      simp only at hh
      cases lo with
      | none =>
        cases lo' with
        | some _ => exact hlo.elim
        | none =>
          simp only [Option.some.injEq, Prod.mk.injEq] at hh
          obtain ⟨rfl, rfl⟩ := hh
          exact ⟨by omega, hlen, by simp [Instr.sliceBounds]⟩
      | some x =>
        cases lo' with
        | none => exact hlo.elim
        | some u =>
          simp only at hh
          split at hh
          · cases hh
          · rename_i l' hl
            simp only [Option.some.injEq, Prod.mk.injEq] at hh
            obtain ⟨rfl, rfl⟩ := hh
            obtain ⟨b1, b2⟩ := bnd .sliceB (Nat.le_refl _) hlo hl
            exact ⟨b1, hlen, by simp [Instr.sliceBounds, b2]⟩
  | some y =>
    cases hi' with
    | none => exact hhi.elim
    | some v =>
      simp only at hh
      split at hh
      · cases hh
      · rename_i h' hm
        obtain ⟨c1, c2⟩ := bnd (if isS = true then .sliceAcap else .sliceAlen) hmost hhi hm
        cases lo with
        | none =>
          cases lo' with
          | some _ => exact hlo.elim
          | none =>
            simp only [Option.some.injEq, Prod.mk.injEq] at hh
            obtain ⟨rfl, rfl⟩ := hh
            exact ⟨by omega, c1, by simp [Instr.sliceBounds, c2]⟩
        | some x =>
          cases lo' with
          | none => exact hlo.elim
          | some u =>
            simp only at hh
            split at hh
            · cases hh
            · rename_i l' hl
              simp only [Option.some.injEq, Prod.mk.injEq] at hh
              obtain ⟨rfl, rfl⟩ := hh
              obtain ⟨b1, b2⟩ := bnd .sliceB (Nat.le_refl _) hlo hl
              exact ⟨b1, c1, by simp [Instr.sliceBounds, c2, b2]⟩

theorem sliceS_sound {t : TypeId} (ht : P.underlying t = some .string) {x z : V} {u : Value} {lo hi : Option V} {lo' hi' : Option Value} (hx : RV S w κ x u)
    (hlo : RO S w κ lo lo') (hhi : RO S w κ hi hi') (hh : sliceS x lo hi = some z) : ∃ v, RV S w κ z v ∧ ∀ w', (Instr.sliceAt t u lo' hi' none).run P w' = .ok v w' := by
  unfold sliceS at hh
  split at hh
  · split at hh
    · rename_i s p hp
      cases hh
      simp only [RV] at hx
      subst hx
      refine ⟨_, rfl, fun w' => ?_⟩
      obtain ⟨_, _, r⟩ := lohi_sound (P := P) false (Nat.le_refl _) (Nat.le_refl _) hlo hhi hp w'
      simp [Instr.sliceAt, Instr.slice, run_underlying ht, r]
    · cases hh
  · cases hh

theorem RE_drop : ∀ (n : Nat) {xs : List (List V)} {b o sz : Nat}, RE S w xs b o sz → RE S w (xs.drop n) b (o + n * sz) sz
  | 0, xs, b, o, sz, h => by simpa using h
  | n + 1, [], b, o, sz, h => by simp [RE]
  | n + 1, x :: xs, b, o, sz, h => by
    simp only [RE] at h
    have := RE_drop n h.2.2
    rw [Nat.succ_mul, show o + (n * sz + sz) = o + sz + n * sz by omega]
    simpa using this
theorem RE_take : ∀ (n : Nat) {xs : List (List V)} {b o sz : Nat}, RE S w xs b o sz → RE S w (xs.take n) b o sz
  | 0, xs, b, o, sz, h => by simp [RE]
  | n + 1, [], b, o, sz, h => by simp [RE]
  | n + 1, x :: xs, b, o, sz, h => by
    simp only [RE] at h
    simp only [List.take_succ_cons, RE]
    exact ⟨h.1, h.2.1, RE_take n h.2.2⟩

theorem slice_run {t e : TypeId} {n : Nat} (ht : P.underlying t = some (.slice e)) (hn : sizeT P e = some n) {a : Option Addr} {len cap l m : Nat} {lo' hi' : Option Value} (w' : World)
    (r : (Instr.sliceBounds true len cap lo' hi' none).run P w' = .ok (l, m, cap) w') :
    (Instr.sliceAt t (.slice a len cap) lo' hi' none).run P w' = .ok (.slice (if cap = l then a else a.map (·.add (l * n))) (m - l) (cap - l)) w' := by
  simp [Instr.sliceAt, Instr.slice, run_underlying ht, r, sizeT_run hn]

theorem sliceL_sound (inv : Inv P B S w κ h) {t e : TypeId} {n : Nat} (ht : P.underlying t = some (.slice e)) (hn : sizeT P e = some n) {x z : V} {u : Value} {lo hi : Option V} {lo' hi' : Option Value}
    (hx : RV S w κ x u) (hlo : RO S w κ lo lo') (hhi : RO S w κ hi hi') (hh : sliceL h n x lo hi = some z) :
    ∃ v, RV S w κ z v ∧ ∀ w', (Instr.sliceAt t u lo' hi' none).run P w' = .ok v w' := by
  unfold sliceL at hh
  split at hh
  · split at hh
    · rename_i p hp
      cases hh
      simp only [RV] at hx
      subst hx
      refine ⟨.slice none 0 0, by simp [RV], fun w' => ?_⟩
      obtain ⟨h1, h2, r⟩ := lohi_sound (P := P) (l := p.1) (m := p.2) true (Nat.le_refl _) (Nat.le_refl _) hlo hhi hp w'
      rw [slice_run ht hn w' r]
      have : p.2 = 0 := by omega
      have : p.1 = 0 := by omega
      simp [*]
    · cases hh
  · rename_i xs
    obtain ⟨hsz, h1⟩ := ite_some' hh
    split at h1
    · rename_i p hp
      cases h1
      simp only [RV] at hx
      obtain ⟨a, cap, rfl, hcap, hx⟩ := hx
      obtain ⟨q1, q2, _⟩ := lohi_sound (P := P) (l := p.1) (m := p.2) true hcap (Nat.le_refl _) hlo hhi hp w
      refine ⟨_, ?_, fun w' => slice_run ht hn w' (lohi_sound (P := P) (l := p.1) (m := p.2) true hcap (Nat.le_refl _) hlo hhi hp w').2.2⟩
      simp only [RV]
      have hl : ((xs.take p.2).drop p.1).length = p.2 - p.1 := by simp; omega
      refine ⟨_, cap - p.1, by rw [hl], by rw [hl]; omega, ?_⟩
      by_cases h0 : p.2 - p.1 = 0
      · left
        apply List.eq_nil_of_length_eq_zero
        omega
      · right
        rcases hx with rfl | ⟨b, o, sz, rfl, hre⟩
        · simp at q2; omega
        · have hsn : sz = n := by
            cases xs with
            | nil => simp at q2; omega
            | cons e r =>
              have k1 := (RE_get hre (i := 0) (e := e) rfl).1
              have k2 := szOk_iff.1 hsz e (by simp)
              omega
          subst hsn
          rw [if_neg (by omega)]
          exact ⟨b, o + p.1 * sz, sz, by simp [add_off], RE_drop _ (RE_take _ hre)⟩
    · cases h1
  · rename_i id ep off len
    split at hh
    · rename_i zz xs cur wr hi
      obtain ⟨⟨hep, hzz⟩, h1⟩ := ite_some' hh
      subst hep
      subst hzz
      split at h1
      · rename_i p hp
        cases h1
        obtain ⟨b, st, cp, c, el, fr, g1, g2, g3, g4, g5, g6, g7, g8, g9, g10, g11⟩ := row_elem inv hi
        simp only [RV] at hx
        obtain ⟨e', b', st', cp', sz'', a, cc, k1, k2, rfl, kl, k3⟩ := hx
        rw [g1] at k1; cases k1
        obtain ⟨k4, k5, k6, k7⟩ := k3 rfl
        have hb := lohi_sound (P := P) (l := p.1) (m := p.2) (len := len) (cap := cc) true (by omega) (by omega) hlo hhi hp
        obtain ⟨q1, q2, _⟩ := hb w
        refine ⟨_, ?_, fun w' => slice_run ht hn w' (hb w').2.2⟩
        by_cases hcl : cc = p.1
        · rw [if_pos hcl]
          simp only [RV]
          exact ⟨_, b, st, cp, _, a, cc - p.1, g1, Nat.le_refl _, rfl, by omega, fun _ => ⟨by omega, by omega, by omega, .inl (by omega)⟩⟩
        · rw [if_neg hcl]
          simp only [RV, Option.map_some]
          refine ⟨_, b, st, cp, _, _, cc - p.1, g1, Nat.le_refl _, rfl, by omega, fun _ => ⟨by omega, by omega, by omega, .inr ?_⟩⟩
          rcases k7 with k7 | rfl
          · omega
          · rw [add_off]
            congr 1
            rw [← Nat.add_mul]
            congr 1; omega
      · cases h1
    · cases hh
  · cases hh
end
end Go.Ev

namespace Go.Ev
open Go.RowKit
set_option linter.unusedVariables false
set_option linter.unusedSectionVars false
set_option linter.unusedSimpArgs false

section
variable {P : Program} {B : Nat} {S : Cells} {w : World} {κ : Kap} {h : Heap}

theorem elemsTo_len {m : Nat} {x : V} {es : List (List V)} (hh : elemsTo h m x = some es) : es.length = m := by
  have gen : ∀ x, (match elemsOf h x with | some es => if m ≤ es.length then some (es.take m) else none | none => none) = some es → es.length = m := by
    intro x hh
    split at hh
    · obtain ⟨h1, rfl⟩ := ite_some hh
      simp; omega
    · cases hh
  unfold elemsTo at hh
  split at hh
  · obtain ⟨_, hh⟩ := ite_some' hh
    simp only [elemsOf] at hh
    split at hh
    · obtain ⟨h1, rfl⟩ := ite_some hh
      simp; omega
    · cases hh
  · exact gen _ hh

theorem evCopy_some {sz : Nat} {d x z : V} {h' : Heap} (hh : evCopy h sz d x = some (z, h')) :
    ∃ l m, lenAny h x = some l ∧ lenV .l h d = some m ∧ z = .int .i64 (min l m : Nat) ∧
      ((min l m = 0 ∧ h' = h) ∨ (min l m ≠ 0 ∧ ∃ es id ep off xs, elemsTo h (min l m) x = some es ∧ d = .sl id ep off m ∧ h[id]? = some (.row sz xs ep true) ∧ off ≤ xs.length ∧ (∀ e ∈ es, e.length = sz) ∧
        h' = h.set id (.row sz (xs.take off ++ es ++ xs.drop (off + min l m)) ep true))) := by
  unfold evCopy at hh
  split at hh
  · cases hh
  · rename_i l hl
    split at hh
    · cases hh
    · rename_i m hm
      simp only [fNat_eq] at hh
      refine ⟨l, m, hl, hm, ?_⟩
      split at hh
      · rename_i h0
        simp only [Option.some.injEq, Prod.mk.injEq] at hh
        exact ⟨by rw [h0]; exact hh.1.symm, .inl ⟨h0, hh.2.symm⟩⟩
      · rename_i h0
        split at hh
        · cases hh
        · rename_i es hes
          split at hh
          · rename_i id ep off len
            split at hh
            · rename_i zz xs cur hi
              obtain ⟨⟨h1, h2, h3, h4⟩, h5⟩ := ite_some' hh
              subst h1; subst h2
              simp only [setOb_eq, Option.some.injEq, Prod.mk.injEq] at h5
              simp only [lenV, Option.some.injEq] at hm
              subst hm
              exact ⟨h5.1.symm, .inr ⟨h0, es, id, ep, off, xs, hes, rfl, hi, h3, szOk_iff.1 h4, h5.2.symm⟩⟩
            · cases hh
          · cases hh

theorem lenAny_sound {x : V} {u : Value} {n : Nat} (hx : RV S w κ x u) (hh : lenAny h x = some n) : (Builtin.lenOf u).run P w = .ok n w := by
  unfold lenAny at hh
  split at hh
  · simp only [Option.some.injEq] at hh
    subst hh
    simp only [RV] at hx
    subst hx
    simp [Builtin.lenOf]
  · obtain ⟨a, c, rfl⟩ := lenV_l hx hh
    simp [Builtin.lenOf]

/-- The first elements, as copy reads them. -/
theorem first_sound (inv : Inv P B S w κ h) {sz m : Nat} (h0 : sz ≠ 0) {x : V} {u : Value} {es : List (List V)} (hx : RV S w κ x u) (hh : elemsTo h m x = some es) (hsz : ∀ e ∈ es, e.length = sz) (hm : m ≠ 0) :
    (∀ y ∈ es.flatten, y.isCell = true) ∧ ∃ vs : List Value, vs.length = m * sz ∧ RL S w κ es.flatten vs ∧ (Builtin.firstCells sz m u).run P w = .ok vs.toArray w := by
  have hlen := elemsTo_len hh
  by_cases hsl : ∃ id ep off len, x = .sl id ep off len
  · obtain ⟨id, ep, off, len, rfl⟩ := hsl
    simp only [elemsTo] at hh
    obtain ⟨hml, hh⟩ := ite_some' hh
    simp only [RV] at hx
    obtain ⟨e', b', st', cp', sz', a, cc, k1, k2, rfl, kl, k3⟩ := hx
    have hx' : RV S w κ (.sl id ep off m) (.slice (some a) m cc) := by
      simp only [RV]
      exact ⟨e', b', st', cp', sz', a, cc, k1, k2, rfl, by omega, fun he => by obtain ⟨q1, q2, q3, q4⟩ := k3 he; exact ⟨q1, by omega, q3, q4⟩⟩
    obtain ⟨_, hc, hf⟩ := elems_sound inv h0 hx' hh hsz
    obtain ⟨vs, l, r, f⟩ := hf m (by omega)
    rw [List.take_of_length_le (by omega)] at r
    exact ⟨hc, vs, l, r, f⟩
  · have hx2 : (match elemsOf h x with | some es => if m ≤ es.length then some (es.take m) else none | none => none) = some es := by
      cases x <;> first | exact absurd ⟨_, _, _, _, rfl⟩ hsl | exact hh
    split at hx2
    case h_2 => cases hx2
    rename_i fs hfs
    obtain ⟨hml, rfl⟩ := ite_some hx2
    -- every element is of that size: by the first one
    have hszf : ∀ e ∈ fs, e.length = sz := by
      have key : ∃ z, ∀ e ∈ fs, e.length = z := by
        cases x <;> simp only [elemsOf, Option.some.injEq, reduceCtorEq] at hfs
        case nils => subst hfs; exact ⟨0, by simp⟩
        case arr xs =>
          subst hfs
          simp only [RV] at hx
          obtain ⟨a, cap, rfl, _, hx⟩ := hx
          rcases hx with rfl | ⟨b, o, sz', _, hre⟩
          · exact ⟨0, by simp⟩
          · refine ⟨sz', fun e he => ?_⟩
            obtain ⟨i, hi⟩ := List.getElem?_of_mem he
            exact (RE_get hre hi).1
        case str s => subst hfs; exact ⟨1, fun e he => by simp only [bytesOf, List.mem_map] at he; obtain ⟨b, _, rfl⟩ := he; rfl⟩
        case sl => exact absurd ⟨_, _, _, _, rfl⟩ hsl
      obtain ⟨z, hz⟩ := key
      have hne : fs ≠ [] := by intro e; subst e; simp at hml; exact hm hml
      obtain ⟨e0, r0, rfl⟩ := List.exists_cons_of_ne_nil hne
      have h1 : e0.length = sz := hsz e0 (by
        obtain ⟨k, rfl⟩ : ∃ k, m = k + 1 := ⟨m - 1, by omega⟩
        simp)
      have h2 := hz e0 (by simp)
      intro e he
      rw [hz e he, ← h2, h1]
    obtain ⟨_, hc, hf⟩ := elems_sound inv h0 hx hfs hszf
    obtain ⟨vs, l, r, f⟩ := hf m hml
    refine ⟨fun y hy => ?_, vs, l, r, f⟩
    obtain ⟨e, he, hy⟩ := List.mem_flatten.1 hy
    exact hc y (List.mem_flatten.2 ⟨e, List.mem_of_mem_take he, hy⟩)

theorem first_zero {x : V} {u : Value} {n : Nat} {sz : Nat} (hx : RV S w κ x u) (hh : lenAny h x = some n) : (Builtin.firstCells sz 0 u).run P w = .ok ([] : List Value).toArray w := by
  unfold lenAny at hh
  split at hh
  · simp only [RV] at hx
    subst hx
    simp [Builtin.firstCells]
  · obtain ⟨a, c, rfl⟩ := lenV_l hx hh
    cases a <;> simp [Builtin.firstCells, loadCells, loadCellsFrom]

theorem copy_run {t u T e : TypeId} {q : Nat × Nat × List V} (ht : P.underlying t = some (.slice e)) (hq : elemT P e = some q) {y : Value} {base : Option Addr} {m cap n : Nat} {vs : List Value} {w1 : World}
    (hl : (Builtin.lenOf y).run P w = .ok n w) (hf : (Builtin.firstCells q.1 (Nat.min n m) y).run P w = .ok vs.toArray w)
    (hst : match base with | some a => (storeCells a vs).run P w = .ok () w1 | none => w1 = w) :
    (Builtin.copy_ #[t, u] T #[.slice base m cap, y]).run P w = .ok (.int .i64 (Nat.min n m : Nat)) w1 := by
  obtain ⟨i, zv, z0, hi, hv, hz, rfl, n1, n2, n3, r1, r2, r3⟩ := elemT_run hq
  have hf' : (Builtin.firstCells i.size (Nat.min n m) y).run P w = .ok vs.toArray w := hf
  simp only [Builtin.copy_, List.getElem?_toArray, List.getElem?_cons_zero, List.getElem?_cons_succ, Sem.run_bind, run_underlying ht, Result.andThen_ok, r2, hl, hf']
  cases base with
  | none => simp only at hst; subst hst; rfl
  | some a => simp only at hst; simp only [Sem.run_bind, hst, Result.andThen_ok]; rfl

theorem copy_sound (inv : Inv P B S w κ h) {t u T e : TypeId} {q : Nat × Nat × List V} (ht : P.underlying t = some (.slice e)) (hq : elemT P e = some q) {d x z : V} {v y : Value} {h' : Heap}
    (hd : RV S w κ d v) (hx : RV S w κ x y) (hh : evCopy h q.1 d x = some (z, h')) :
    ∃ r w' S' κ', (Builtin.copy_ #[t, u] T #[v, y]).run P w = .ok r w' ∧ Inv P B S' w' κ' h' ∧ Stp B S w κ S' w' κ' ∧ RV S' w' κ' z r := by
  have n1 : q.1 ≠ 0 := by
    obtain ⟨ii, zv, z0, hi0, hv0, hz0, rfl, n1, _⟩ := elemT_run hq
    exact n1
  obtain ⟨l, m, hl, hm, rfl, hc⟩ := evCopy_some hh
  have hlen := lenAny_sound (P := P) hx hl
  obtain ⟨base, cap, rfl⟩ := lenV_l hd hm
  rcases hc with ⟨h0, rfl⟩ | ⟨h0, es, id, ep, off, xs, hes, rfl, hi, hol, hsz, rfl⟩
  · refine ⟨_, w, S, κ, copy_run (T := T) ht hq (vs := []) (w1 := w) hlen (by rw [show Nat.min l m = 0 from h0]; exact first_zero hx hl) (by cases base <;> rfl), inv, .refl _ _ _ _, ?_⟩
    simp only [RV] <;> rfl
  · obtain ⟨hcell, vs, lv, rv, fv⟩ := first_sound inv n1 hx hes hsz h0
    have hel := elemsTo_len hes
    obtain ⟨b, st, cp, c, el, fr, g1, g2, g3, g4, g5, g6, g7, g8, g9, g10, g11⟩ := row_elem inv hi
    simp only [RV] at hd
    obtain ⟨e', b', st', cp', sz', a, cc, k1, k2, heq, kl, k3⟩ := hd
    cases heq
    rw [g1] at k1; cases k1
    obtain ⟨k4, k5, k6, k7⟩ := k3 rfl
    have hmin : min l m ≤ m := Nat.min_le_right _ _
    have hane : a = ⟨b, (off - st) * q.1, none⟩ := by
      rcases k7 with k7 | k7
      · omega
      · exact k7
    subst hane
    have hb := (Array.getElem?_eq_some_iff.1 g2).1
    have hput : (off - st) * q.1 + 0 + vs.length ≤ c.size := by
      rw [lv, g5, Nat.add_zero, ← Nat.add_mul]
      exact Nat.mul_le_mul_right _ (by omega)
    have hput' : (off - st) * q.1 + vs.length ≤ c.size := by omega
    have hone : ∀ v ∈ vs, v.oneCell' = true := allCell_one rv (List.all_eq_true.2 hcell)
    have hst := run_storeCells_block (P := P) vs ((off - st) * q.1) 0 c w g2 g3.1 hput hone
    have hxs : ∀ e ∈ xs, e.length = q.1 := fun e he => (g8 e he).1
    have hlen' : (xs.take off ++ es ++ xs.drop (off + min l m)).length = max xs.length (off + min l m) := by simp; omega
    have hW := Inv.write inv g1 (.cells (putA c ((off - st) * q.1 + 0) vs) el fr) (.row ep b st cp q.1) (.refl _) rfl
      (.row q.1 (xs.take off ++ es ++ xs.drop (off + min l m)) ep true) (fun o hs => absurd hs (g11 rfl o)) (fun sle kle => by
        refine ⟨b, st, cp, _, el, fr, upd_same _ _ _, withBlock_same _ _ _ hb, by rw [putA_size]; exact g3, g4, by rw [putA_size]; exact g5, by rw [hlen']; omega, by rw [hlen']; omega, ?_, ?_, fun o _ => g11 rfl o, g11⟩
        · intro e he
          rcases List.mem_append.1 he with he | he
          · rcases List.mem_append.1 he with he | he
            · exact g8 e (List.mem_of_mem_take he)
            · exact all_cells hsz hcell e he
          · exact g8 e (List.mem_of_mem_drop he)
        · have := RR_put (S := S) (w := w) (κ := κ) (m := off) k4 hol g9 hxs hsz rv hput'
          rw [hel] at this
          exact RR_mono sle kle this)
    exact ⟨_, _, _, _, copy_run (T := T) ht hq hlen fv hst, hW.1, hW.2, by simp only [RV] <;> rfl⟩

theorem bound_wide {x : V} {u : Value} {n k m : Nat} (c : BoundsCode) (hk : n ≤ k) (hx : RV S w κ x u) (hh : bound x n = some m) (w' : World) :
    m ≤ n ∧ (Instr.sliceBound u k c).run P w' = .ok m w' := by
  unfold bound at hh
  split at hh
  · obtain ⟨hc, rfl⟩ := ite_some hh
    simp only [RV] at hx
    subst hx
    refine ⟨by omega, ?_⟩
    simp only [Instr.sliceBound, asIntOf, Sem.run_bind, Sem.run_pure, Result.andThen_ok]
    rw [if_pos (by omega)]
    rfl
  · cases hh

theorem lenV_cap {x : V} {u : Value} {n : Nat} (hx : RV S w κ x u) (hh : lenV .l h x = some n) : ∃ a c, u = .slice a n c ∧ n ≤ c := by
  cases x <;> simp only [lenV, Option.some.injEq, reduceCtorEq] at hh
  case nils => subst hh; simp only [RV] at hx; exact ⟨_, _, hx, Nat.le_refl _⟩
  case arr => subst hh; simp only [RV] at hx; obtain ⟨a, c, rfl, h1, _⟩ := hx; exact ⟨_, _, rfl, h1⟩
  case sl => subst hh; simp only [RV] at hx; obtain ⟨_, _, _, _, _, a, c, _, _, rfl, h1, _⟩ := hx; exact ⟨_, _, rfl, h1⟩

theorem sl3_sound {t e : TypeId} {n : Nat} (ht : P.underlying t = some (.slice e)) (hn : sizeT P e = some n) {x hi mx z : V} {u v m' : Value} {lo : Option V} {lo' : Option Value} {h' : Heap}
    (hx : RV S w κ x u) (hlo : RO S w κ lo lo') (hhi : RV S w κ hi v) (hmx : RV S w κ mx m') (hh : evSl3 h x lo hi mx = some (z, h')) :
    h' = h ∧ ∃ r, RV S w κ z r ∧ ∀ w', (Instr.sliceAt t u lo' (some v) (some m')).run P w' = .ok r w' := by
  unfold evSl3 at hh
  split at hh
  case h_2 => cases hh
  rename_i l hl
  split at hh
  case h_2 => cases hh
  rename_i m hm
  split at hh
  case h_2 => cases hh
  rename_i p hp
  simp only [Option.some.injEq, Prod.mk.injEq] at hh
  obtain ⟨rfl, rfl⟩ := hh
  obtain ⟨a, c, rfl, hc⟩ := lenV_cap hx hl
  refine ⟨rfl, ?_⟩
  unfold lohi at hp
  simp only at hp
  split at hp
  · cases hp
  · rename_i hb hhb
    split at hp
    · cases hp
    · rename_i lb hlb
      refine ⟨.slice (if m = lb then a else a.map (·.add (lb * n))) (hb - lb) (m - lb), by simp [RV], fun w' => ?_⟩
      obtain ⟨_, r1⟩ := bound_wide (P := P) .slice3Acap hc hmx hm w'
      obtain ⟨_, r2⟩ := bound_wide (P := P) .slice3B (Nat.le_refl _) hhi hhb w'
      cases lo with
      | none =>
        cases lo' with
        | some _ => exact hlo.elim
        | none =>
          simp only [Option.some.injEq] at hlb
          subst hlb
          simp [Instr.sliceAt, Instr.slice, run_underlying ht, Instr.sliceBounds, r1, r2, sizeT_run hn]
      | some y =>
        cases lo' with
        | none => exact hlo.elim
        | some y' =>
          obtain ⟨_, r3⟩ := bound_wide (P := P) .slice3C (Nat.le_refl _) hlo hlb w'
          simp [Instr.sliceAt, Instr.slice, run_underlying ht, Instr.sliceBounds, r1, r2, r3, sizeT_run hn]

theorem zeroCells_eq (z : Array Value) (n s : Nat) (hs : z.size = s) (h0 : s ≠ 0) : (Builtin.zeroCells z n).toList = (List.replicate n z.toList).flatten := by
  have := zero_fill z n s hs h0
  rw [← hs] at this
  exact this

theorem clr_sound (inv : Inv P B S w κ h) {t e T : TypeId} {q : Nat × Nat × List V} (ht : P.underlying t = some (.slice e)) (hq : elemT P e = some q) {x z : V} {u : Value} {h' : Heap}
    (hx : RV S w κ x u) (hh : evClr h q.1 q.2.2 x = some (z, h')) :
    ∃ r w' S' κ', (Builtin.clear_ #[t] T #[u]).run P w = .ok r w' ∧ Inv P B S' w' κ' h' ∧ Stp B S w κ S' w' κ' ∧ RV S' w' κ' z r := by
  obtain ⟨ii, zv, z0, hi0, hv0, hz0, rfl, n1, n2, n3, r1, r2, r3⟩ := elemT_run hq
  obtain ⟨hrz, hcz⟩ := ofConst_cells (S := S) (w := w) (κ := κ) hz0
  unfold evClr at hh
  split at hh
  · simp only [Option.some.injEq, Prod.mk.injEq] at hh
    obtain ⟨rfl, rfl⟩ := hh
    simp only [RV] at hx
    subst hx
    exact ⟨.tuple #[], w, S, κ, by simp [Builtin.clear_, run_underlying ht], inv, .refl _ _ _ _, RV_non⟩
  · rename_i id ep off len
    split at hh
    · rename_i h0
      simp only [Option.some.injEq, Prod.mk.injEq] at hh
      obtain ⟨rfl, rfl⟩ := hh
      subst h0
      simp only [RV] at hx
      obtain ⟨_, _, _, _, _, a, c, _, _, rfl, _⟩ := hx
      exact ⟨.tuple #[], w, S, κ, by simp [Builtin.clear_, run_underlying ht], inv, .refl _ _ _ _, RV_non⟩
    · rename_i h0
      split at hh
      case h_2 => cases hh
      rename_i zz xs cur hi
      obtain ⟨⟨hep, hzz, hol, hzl⟩, h1⟩ := ite_some' hh
      subst hep; subst hzz
      simp only [setOb_eq, Option.some.injEq, Prod.mk.injEq] at h1
      obtain ⟨rfl, rfl⟩ := h1
      obtain ⟨b, st, cp, c, el, fr, g1, g2, g3, g4, g5, g6, g7, g8, g9, g10, g11⟩ := row_elem inv hi
      simp only [RV] at hx
      obtain ⟨e', b', st', cp', sz', a, cc, k1, k2, rfl, kl, k3⟩ := hx
      rw [g1] at k1; cases k1
      obtain ⟨k4, k5, k6, k7⟩ := k3 rfl
      have hane : a = ⟨b, (off - st) * ii.size, none⟩ := by
        rcases k7 with k7 | k7
        · omega
        · exact k7
      subst hane
      have hb := (Array.getElem?_eq_some_iff.1 g2).1
      have hz : ∀ e ∈ List.replicate len z0.cells, e.length = ii.size := fun e he => by rw [List.mem_replicate] at he; rw [he.2]; exact hzl
      let vs := (List.replicate len zv.cells.toList).flatten
      have rv : RL S w κ (List.replicate len z0.cells).flatten vs := RL_flat_rep hrz len
      have lv : vs.length = len * ii.size := by
        rw [← RL_length rv, flatten_len _ hz, List.length_replicate]
      have hput : (off - st) * ii.size + 0 + vs.length ≤ c.size := by
        rw [lv, g5, Nat.add_zero, ← Nat.add_mul]
        exact Nat.mul_le_mul_right _ (by omega)
      have hput' : (off - st) * ii.size + vs.length ≤ c.size := by omega
      have hcell : ∀ y ∈ (List.replicate len z0.cells).flatten, y.isCell = true := fun y hy => by
        obtain ⟨e, he, hy⟩ := List.mem_flatten.1 hy
        rw [List.mem_replicate] at he
        rw [he.2] at hy
        exact List.all_eq_true.1 hcz y hy
      have hone : ∀ v ∈ vs, v.oneCell' = true := allCell_one rv (List.all_eq_true.2 hcell)
      have hst := run_storeCells_block (P := P) vs ((off - st) * ii.size) 0 c w g2 g3.1 hput hone
      have hxs : ∀ e ∈ xs, e.length = ii.size := fun e he => (g8 e he).1
      have hlen : (xs.take off ++ List.replicate len z0.cells ++ xs.drop (off + len)).length = xs.length := by simp; omega
      have hW := Inv.write inv g1 (.cells (putA c ((off - st) * ii.size + 0) vs) el fr) (.row ep b st cp ii.size) (.refl _) rfl
        (.row ii.size (xs.take off ++ List.replicate len z0.cells ++ xs.drop (off + len)) ep true) (fun o hs => absurd hs (g11 rfl o)) (fun sle kle => by
          refine ⟨b, st, cp, _, el, fr, upd_same _ _ _, withBlock_same _ _ _ hb, by rw [putA_size]; exact g3, g4, by rw [putA_size]; exact g5, by rw [hlen]; exact g6, by rw [hlen]; exact g7, ?_, ?_, by rw [hlen]; exact g10, g11⟩
          · intro e he
            rcases List.mem_append.1 he with he | he
            · rcases List.mem_append.1 he with he | he
              · exact g8 e (List.mem_of_mem_take he)
              · exact all_cells hz hcell e he
            · exact g8 e (List.mem_of_mem_drop he)
          · have := RR_put (S := S) (w := w) (κ := κ) (m := off) k4 (by omega) g9 hxs hz rv hput'
            rw [List.length_replicate] at this
            exact RR_mono sle kle this)
      refine ⟨.tuple #[], _, _, _, ?_, hW.1, hW.2, RV_non⟩
      obtain ⟨len, rfl⟩ : ∃ k, len = k + 1 := ⟨len - 1, by omega⟩
      have hzc : (Builtin.zeroCells zv.cells (len + 1)).toList = vs := zeroCells_eq _ _ _ n3 n1
      simp only [Builtin.clear_, List.getElem?_toArray, List.getElem?_cons_zero, Sem.run_bind, run_underlying ht, Result.andThen_ok, r1, hzc]
      rw [hst]
      rfl
  · cases hh

theorem mx_sound (xs : List V) (us : List Value) {z : V} {h' : Heap} (hr : RL S w κ xs us) (hh : okV h (foldInt (fun x y => if y > x then y else x) xs) = some (z, h')) (ts : Array TypeId) (T : TypeId) :
    h' = h ∧ ∃ v, RV S w κ z v ∧ ∀ w', (Builtin.max_ ts T us.toArray).run P w' = .ok v w' := by
  obtain ⟨h1, h2⟩ := okV_sound hh
  refine ⟨h2, ?_⟩
  have go : ∀ (xs : List V) (us : List Value) (k : IntKind) (a : Int) (z : V), RL S w κ xs us → foldInt.go (fun x y => if y > x then y else x) k a xs = some z →
      ∃ v, RV S w κ z v ∧ ∀ w', (us.foldlM Builtin.max2 (.int k a)).run P w' = .ok v w' := by
    intro xs
    induction xs with
    | nil =>
      intro us k a z hr hz
      cases us with
      | cons _ _ => simp [RL] at hr
      | nil => simp only [foldInt.go, Option.some.injEq] at hz; subst hz; exact ⟨_, rfl, fun w' => by simp⟩
    | cons x xs ih =>
      intro us k a z hr hz
      cases us with
      | nil => simp [RL] at hr
      | cons u us =>
        simp only [RL] at hr
        cases x <;> simp only [foldInt.go, reduceCtorEq] at hz
        rename_i k' b
        obtain ⟨hk, hz⟩ := ite_some' hz
        have hu := hr.1
        simp only [RV] at hu
        subst hu
        obtain ⟨v, hv, hrun⟩ := ih us k _ z hr.2 hz
        exact ⟨v, hv, fun w' => by simp [Builtin.max2, hrun]⟩
  cases xs with
  | nil => simp [foldInt] at h1
  | cons x xs =>
    cases us with
    | nil => simp [RL] at hr
    | cons u us =>
      simp only [RL] at hr
      cases x <;> simp only [foldInt, reduceCtorEq] at h1
      have hu := hr.1
      simp only [RV] at hu
      subst hu
      obtain ⟨v, hv, hrun⟩ := go xs us _ _ z hr.2 h1
      exact ⟨v, hv, fun w' => by simp [Builtin.max_, hrun]⟩

theorem mn_sound (xs : List V) (us : List Value) {z : V} {h' : Heap} (hr : RL S w κ xs us) (hh : okV h (foldInt (fun x y => if y < x then y else x) xs) = some (z, h')) (ts : Array TypeId) (T : TypeId) :
    h' = h ∧ ∃ v, RV S w κ z v ∧ ∀ w', (Builtin.min_ ts T us.toArray).run P w' = .ok v w' := by
  obtain ⟨h1, h2⟩ := okV_sound hh
  refine ⟨h2, ?_⟩
  have go : ∀ (xs : List V) (us : List Value) (k : IntKind) (a : Int) (z : V), RL S w κ xs us → foldInt.go (fun x y => if y < x then y else x) k a xs = some z →
      ∃ v, RV S w κ z v ∧ ∀ w', (us.foldlM Builtin.min2 (.int k a)).run P w' = .ok v w' := by
    intro xs
    induction xs with
    | nil =>
      intro us k a z hr hz
      cases us with
      | cons _ _ => simp [RL] at hr
      | nil => simp only [foldInt.go, Option.some.injEq] at hz; subst hz; exact ⟨_, rfl, fun w' => by simp⟩
    | cons x xs ih =>
      intro us k a z hr hz
      cases us with
      | nil => simp [RL] at hr
      | cons u us =>
        simp only [RL] at hr
        cases x <;> simp only [foldInt.go, reduceCtorEq] at hz
        rename_i k' b
        obtain ⟨hk, hz⟩ := ite_some' hz
        have hu := hr.1
        simp only [RV] at hu
        subst hu
        obtain ⟨v, hv, hrun⟩ := ih us k _ z hr.2 hz
        exact ⟨v, hv, fun w' => by simp [Builtin.min2, hrun]⟩
  cases xs with
  | nil => simp [foldInt] at h1
  | cons x xs =>
    cases us with
    | nil => simp [RL] at hr
    | cons u us =>
      simp only [RL] at hr
      cases x <;> simp only [foldInt, reduceCtorEq] at h1
      have hu := hr.1
      simp only [RV] at hu
      subst hu
      obtain ⟨v, hv, hrun⟩ := go xs us _ _ z hr.2 h1
      exact ⟨v, hv, fun w' => by simp [Builtin.min_, hrun]⟩
end
end Go.Ev

namespace Go.Ev
open Go.RowKit
set_option linter.unusedVariables false
set_option linter.unusedSectionVars false
set_option linter.unusedSimpArgs false

section
variable {P : Program} {B : Nat} {S : Cells} {w : World} {κ : Kap} {h : Heap}

theorem bytesWorld_eq (w : World) (e : TypeId) (s : ByteArray) :
    Lib.bytesWorld w e s = w.drew.alloc (.cells (Lib.bytesCells w e s) e ((Lib.bytesCells w e s).size, (Lib.bytesCells w e s).size + 1)) := by
  have hh : (Lib.bytesWorld w e s).heap = (w.drew.alloc (.cells (Lib.bytesCells w e s) e ((Lib.bytesCells w e s).size, (Lib.bytesCells w e s).size + 1))).heap := by
    apply Array.ext_getElem?
    intro i
    rcases Nat.lt_trichotomy i w.heap.size with hi | rfl | hi
    · rw [Lib.bytesWorld_at_old w e s i hi, Below.heap_alloc w.drew _ i hi]; rfl
    · rw [Lib.bytesWorld_at_new]; exact (alloc_last w.drew _).symm
    · rw [Array.getElem?_eq_none (by rw [Lib.bytesWorld_size]; omega), Array.getElem?_eq_none (by rw [alloc_size]; show w.heap.size + 1 ≤ i; omega)]
  have : ∀ a b : World, a.heap = b.heap → a.tape = b.tape → a.drawn = b.drawn → a.os = b.os → a.output = b.output → a = b := by
    intro a b h1 h2 h3 h4 h5; cases a; cases b; simp_all
  refine this _ _ hh ?_ ?_ ?_ ?_ <;> simp [Lib.bytesWorld, World.freeze, World.alloc, World.drew, -World.alloc_eq, -World.drew_eq]

theorem strBytes_sound (inv : Inv P B S w κ h) {src dst e : TypeId} (hs : P.underlying src = some .string) (hd : P.underlying dst = some (.slice e)) (he : P.underlying e = some (.int .u8))
    {s : ByteArray} :
    ∃ r w' S' κ', (convert src dst (.string s)).run P w = .ok r w' ∧ Inv P B S' w' κ' (h ++ [.row 1 (bytesOf s) 0 true]) ∧ Stp B S w κ S' w' κ' ∧ RV S' w' κ' (.sl h.length 0 0 s.size) r := by
  have hrun := Lib.run_convert_string_bytes (P := P) w src dst e s hs hd he
  rw [bytesWorld_eq] at hrun
  obtain ⟨inv1, st1⟩ := inv.drawn
  let c := Lib.bytesCells w e s
  have hcap : s.size ≤ grownCap w s.size 0 e := by
    simp only [grownCap, Question.cut]; omega
  have hcs : c.size = grownCap w s.size 0 e * 1 := by
    simp only [c, Lib.bytesCells]
    simp
    have : s.data.size = s.size := rfl
    omega
  have hW := Inv.fresh inv1 h.length (Nat.le_refl _) (.cells c e (c.size, c.size + 1)) (.row 0 w.heap.size 0 (grownCap w s.size 0 e) 1)
    (fun k hk => by rw [noK_new inv1] at hk; cases hk) rfl (h ++ [.row 1 (bytesOf s) 0 true])
    (fun i o hi ho => by
      rw [List.getElem?_append] at ho
      split at ho
      · exact ho
      · rename_i hge
        rw [List.getElem?_eq_none (by simp; omega)] at ho
        cases ho)
    (by simp) (by simp) (fun sle kle o ho => by
      simp at ho
      subst ho
      refine ⟨w.heap.size, 0, _, c, e, _, upd_same _ _ _, alloc_last w.drew _, ⟨fun o ho x => by simp at x; omega, fun hne => absurd rfl hne⟩, by omega, hcs, by omega, by simp [bytesOf]; exact hcap, ?_, ?_, fun o _ ho => ?_, fun _ o ho => ?_⟩
      · intro x hx
        simp only [bytesOf, List.mem_map] at hx
        obtain ⟨b, _, rfl⟩ := hx
        exact ⟨rfl, rfl⟩
      · intro i x _ hx
        simp only [bytesOf, List.getElem?_map, Option.map_eq_some_iff] at hx
        obtain ⟨b, hb, rfl⟩ := hx
        have hi : i < s.data.size := by simpa using (List.getElem?_eq_some_iff.1 hb).1
        have : (c.toList.drop ((i - 0) * 1)).take 1 = [Value.int .u8 b.toNat] := by
          have hc : c.toList[i]? = some (.int .u8 b.toNat) := by
            simp only [c, Lib.bytesCells, Array.toList_append, Array.toList_map]
            rw [List.getElem?_append_left (by simpa using hi), List.getElem?_map, hb]
            rfl
          rw [Nat.sub_zero, Nat.mul_one, List.take_one, List.head?_drop, hc]
          rfl
        rw [this]
        simp [RL, RV]
      · exact absurd (inv1.sb _ _ ho) (by show ¬ w.heap.size < w.heap.size; omega)
      · exact absurd (inv1.sb _ _ ho) (by show ¬ w.heap.size < w.heap.size; omega))
  refine ⟨_, _, _, _, hrun, hW.1, st1.trans hW.2, ?_⟩
  simp only [RV]
  exact ⟨0, _, 0, _, 1, _, _, upd_same _ _ _, Nat.le_refl _, rfl, hcap, fun _ => ⟨by omega, by omega, by omega, .inr (by simp)⟩⟩

theorem byteOfCells_sound : ∀ (es : List (List V)) (l : List UInt8) (vs : List Value), byteOfCells es = some l → RL S w κ es.flatten vs →
    ∃ ns : List Int, vs = ns.map (Value.int .u8) ∧ l = ns.map (fun n => UInt8.ofNat n.toNat)
  | [], l, vs, hb, hr => by
    simp [byteOfCells] at hb
    subst hb
    cases vs with
    | nil => exact ⟨[], rfl, rfl⟩
    | cons v vs => simp [RL] at hr
  | e :: es, l, vs, hb, hr => by
    unfold byteOfCells at hb
    split at hb
    · rename_i heq; cases heq
    · rename_i n r heq
      cases heq
      simp only [Option.map_eq_some_iff] at hb
      obtain ⟨l', hl', rfl⟩ := hb
      cases vs with
      | nil => simp [RL] at hr
      | cons v vs =>
        simp only [List.flatten_cons, List.cons_append, List.nil_append, RL, RV] at hr
        obtain ⟨rfl, hr⟩ := hr
        obtain ⟨ns, rfl, rfl⟩ := byteOfCells_sound es l' vs hl' hr
        exact ⟨n :: ns, rfl, rfl⟩
    · cases hb

theorem push_foldl : ∀ (ns : List Int) (s : ByteArray), ns.foldl (fun r n => r.push (UInt8.ofNat n.toNat)) s = ⟨(s.data.toList ++ ns.map fun n => UInt8.ofNat n.toNat).toArray⟩
  | [], s => by cases s; simp
  | n :: ns, s => by
    rw [List.foldl_cons, push_foldl ns]
    simp [ByteArray.push]

theorem bytesStr_sound (inv : Inv P B S w κ h) {src dst e : TypeId} (hs : P.underlying src = some (.slice e)) (he : P.underlying e = some (.int .u8)) (hd : P.underlying dst = some .string)
    {x : V} {u : Value} (hx : RV S w κ x u) {es : List (List V)} {l : List UInt8} (hes : bytesIn h x = some es) (hl : byteOfCells es = some l) :
    (convert src dst u).run P w = .ok (.string ⟨l.toArray⟩) w := by
  have hes' : elemsOf h x = some es ∧ ∀ s, x ≠ .str s := by
    unfold bytesIn at hes
    split at hes
    · cases hes
    · rename_i hne; exact ⟨hes, hne⟩
  have h1 : ∀ e ∈ es, e.length = 1 := by
    have : ∀ (es : List (List V)) (l : List UInt8), byteOfCells es = some l → ∀ e ∈ es, e.length = 1 := by
      intro es
      induction es with
      | nil => simp
      | cons e es ih =>
        intro l hl x hx
        unfold byteOfCells at hl
        split at hl
        · rename_i heq; cases heq
        · rename_i n r heq
          cases heq
          simp only [Option.map_eq_some_iff] at hl
          obtain ⟨l', hl', _⟩ := hl
          rcases List.mem_cons.1 hx with rfl | hx
          · rfl
          · exact ih l' hl' x hx
        · cases hl
    exact this es l hl
  obtain ⟨l1, hc, hf⟩ := elems_sound inv (sz := 1) (by omega) hx hes'.1 h1
  obtain ⟨vs, lv, rv, fv⟩ := hf es.length (Nat.le_refl _)
  rw [List.take_length] at rv
  obtain ⟨ns, rfl, rfl⟩ := byteOfCells_sound es l vs hl rv
  have hu : ∃ a c, u = .slice a es.length c := by
    cases x <;> simp only [elemsOf, Option.some.injEq, reduceCtorEq] at hes'
    case nils => simp only [RV] at hx; have := hes'.1; subst this; exact ⟨_, _, hx⟩
    case arr => simp only [RV] at hx; obtain ⟨a, c, rfl, _⟩ := hx; have := hes'.1; subst this; exact ⟨_, _, rfl⟩
    case str => exact absurd rfl (hes'.2 _)
    case sl =>
      simp only [RV] at hx; obtain ⟨_, _, _, _, _, a, c, _, _, rfl, _⟩ := hx
      have h0 := hes'.1
      split at h0
      · obtain ⟨hc', rfl⟩ := ite_some h0
        refine ⟨some a, c, ?_⟩
        congr 1
        simp; omega
      · cases h0
    all_goals simp at hes'
  obtain ⟨a, c, rfl⟩ := hu
  rw [run_convert_bytes_string w src dst e a _ c hs he hd]
  cases a with
  | none =>
    have this : ns = [] := by
      cases ns with
      | nil => rfl
      | cons n ns => simp [Builtin.firstCells] at fv
    subst this
    simp [Conv.bytesToString]
    rfl
  | some a =>
    have hld : (loadCells a es.length).run P w = .ok (ns.map (Value.int .u8)).toArray w := by
      simpa [Builtin.firstCells] using fv
    rw [run_bytesToString w a _ c ns hld, push_foldl]
    rfl
end
end Go.Ev
