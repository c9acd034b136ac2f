/- The book's iterators: Next and Prev. No conditions. -/
import Derived.Test.YtohcoghaaifmgaaItZt
set_option maxHeartbeats 16000000
set_option maxRecDepth 100000
set_option linter.unusedVariables false
set_option linter.unusedSimpArgs false
set_option linter.unusedSectionVars false
namespace Go.Proofs.It
open Go Go.Ev
def findOn (acc : Int → Bool) (l : List Int) (k : Nat) : Option Int := (l.drop k).find? acc
def findBack (acc : Int → Bool) (l : List Int) (k : Nat) : Option Int := (l.take k).reverse.find? acc
theorem findOn_at {acc : Int → Bool} {l : List Int} {k : Nat} {x : Int} (hx : l[k]? = some x) : findOn acc l k = if acc x then some x else findOn acc l (k + 1) := by
 unfold findOn
 rw [vZe hx, List.find?_cons]
 cases acc x <;> rfl
theorem xZ0 {acc : Int → Bool} {l : List Int} {k : Nat} (h : l.length ≤ k) : findOn acc l k = none := by
 unfold findOn
 rw [List.drop_eq_nil_of_le h]
 rfl
theorem kZ5 {acc : Int → Bool} {l : List Int} {k : Nat} {x : Int} (hx : l[k]? = some x) : findBack acc l (k + 1) = if acc x then some x else findBack acc l k := by
 unfold findBack
 have ht : l.take (k + 1) = l.take k ++ [x] := by rw [List.take_add_one, hx]; rfl
 rw [ht, List.reverse_append, List.reverse_singleton, List.singleton_append, List.find?_cons]
 cases acc x <;> rfl
theorem jZB (acc : Int → Bool) (l : List Int) : findBack acc l 0 = none := rfl
def accF (f : List Nd) (t : Flt) (x : Int) : Bool := verdictV f t x == 1
def cur (f : List Nd) (i : Itr) : Nat := (place (allW f i.root) i.ref 0).toNat + (if i.before then 0 else 1)
def nextO (f : List Nd) (i : Itr) : Option Int := findOn (accF f i.flt) (allW f i.root) (cur f i)
def prevO (f : List Nd) (i : Itr) : Option Int := findBack (accF f i.flt) (allW f i.root) (cur f i)
def toldI (i : Itr) (b : Bool) : Option Int → Itr
 | some x => { i with ref := x, before := b }
 | none => i
def toldN : Option Int → Int
 | some x => x
 | none => 0
noncomputable def nextI (f : List Nd) (i : Itr) : Itr := if checkI f i = 0 then toldI i false (nextO f i) else noIt
noncomputable def nextN (f : List Nd) (i : Itr) : Int := if checkI f i = 0 then toldN (nextO f i) else 0
noncomputable def prevI (f : List Nd) (i : Itr) : Itr := if checkI f i = 0 then toldI i true (prevO f i) else noIt
noncomputable def prevN (f : List Nd) (i : Itr) : Int := if checkI f i = 0 then toldN (prevO f i) else 0
theorem allW_is {f : List Nd} (R : right f = true) {h : Int} (hi : is_ f h = true) : ∀ x ∈ allW f h, is_ f x = true := by
 obtain ⟨d, _, hd⟩ := wZN R hi
 exact fun x hx => (jZe R f.length h d hi hd x hx).1
theorem kZI {f : List Nd} (R : right f = true) {h x : Int} (hi : is_ f h = true) (hx : is_ f x = true) : x ∈ allW f h ↔ holdsF f h x = true := by
 obtain ⟨d, _, hd⟩ := wZN R hi
 obtain ⟨e, _, he⟩ := wZN R hx
 rw [vZI he, decide_eq_true_eq]
 constructor
 ·intro hm
  obtain ⟨_, e', _, h3, h4⟩ := jZe R f.length h d hi hd x hm
  rwa [he.uniq h3]
 ·intro hm
  exact mem_allF R hi hd (by omega) he hm
theorem jZJ {l : List Int} {h : Int} (hm : h ∈ l) : ∃ k : Nat, place l h 0 = k ∧ k < l.length ∧ l[k]? = some h := by
 have go : ∀ (l : List Int) (j : Nat), h ∈ l → ∃ k : Nat, place l h j = ((j + k : Nat) : Int) ∧ k < l.length ∧ l[k]? = some h := by
  intro l
  induction l with
  | nil => intro j hm; cases hm
  | cons x l ih =>
   intro j hm
   simp only [place]
   by_cases e : x = h
   ·exact ⟨0, by simp [e], by simp, by simp [e]⟩
   ·rw [if_neg e]
    obtain ⟨k, h1, h2, h3⟩ := ih (j + 1) ((List.mem_cons.1 hm).resolve_left fun q => e q.symm)
    exact ⟨k + 1, by rw [h1]; congr 1; omega, by simp; omega, by simpa using h3⟩
 obtain ⟨k, h1, h2, h3⟩ := go l 0 hm
 exact ⟨k, by simpa using h1, h2, h3⟩
theorem xZq {P : V → Heap → Prop} {Q : Ex → St → Prop} (hQ : ∀ s, FinX [.cell 4 (some 5), .tmp 5, .tmp 6] P .ret s → Q .ret s) {H : Heap} {j : Itr} {l : List Int} {n : Nat} {x : Int} (hx : l[n]? = some x) (h1 : H[1]? = some (.cells (cIt j))) (h2 : H[2]? = some (.cells zIt)) {env : List V} (he : env.length = 55) (k3 : eget env 3 = .ptr 1 0) (k4 : eget env 4 = .ptr 2 0) (k8 : eget env 8 = .arr (l.map cI)) (k9 : eget env 9 = .int .i64 n)
  (hP : ∀ H, P (.tup [eIt j, .int .i64 x, .int .i64 0]) H) {k : List It} : WK (callW Φ) none Q (.c (.draw zZu.r12 [[], [], [], [1, 2], [3], [0, 0], [4, 5, 0, 1, 2, 3, 4, 5], [6, 0, 1, 2, 3, 4, 5, 6]] [1, 2, 3, 6, 7]) :: .c .ret :: k) { env := env, marks := [], heap := H } := by
 have c1 := qZv h1
 have lt := (List.getElem?_eq_some_iff.1 h2).1
 obtain ⟨H2, hH2⟩ : ∃ H2, H2 = H.set 2 (.cells (cIt j)) := ⟨_, rfl⟩
 have st := storeIt j h2
 rw [← hH2] at st
 have c2 : cellsAt H2 (.ptr 2 0) = some (cIt j) := by rw [hH2]; simp [cellsAt, lt]
 have ha := fun H => qZj (h := H) (k := .i64) qZY hx
 refine kDraw2 zZu.r12.ord ?_
 simp (config := { maxSteps := 5000000 }) [zZu.r12, List.filterMap_cons, k3, k4, k8, k9, he, c1, okIt, ha, cellI, st]
 exact hQ _ (by simp [he, k4, c2, ofIt, hP])
theorem xZp (f : List Nd) (z : Sz f) (i : Itr) (zt : Fz i.flt) (H : Heap) : callW Φ zZu [eF f, eIt i] H = some (.tup [eIt (nextI f i), .int .i64 (nextN f i), .int .i64 (checkI f i)], H) := by
 refine qZ8 zZu.Φ rfl (args := [eF f, eIt i]) rfl ?_
 obtain ⟨P, hP⟩ : ∃ P : V → Heap → Prop, P = fun r h2 => ∃ h3, fz fzDepth h2 r = some (.tup [eIt (nextI f i), .int .i64 (nextN f i), .int .i64 (checkI f i)], h3) := ⟨_, rfl⟩
 suffices hgo : ∃ r h', evBodyW (callW Φ) zZu.c [eF f, eIt i] [] = some (r, h') ∧ P r h' by rw [hP] at hgo; exact hgo
 have hPz : ∀ r h2 h3, fz fzDepth h2 r = some (.tup [eIt (nextI f i), .int .i64 (nextN f i), .int .i64 (checkI f i)], h3) → P r h2 := fun r h2 h3 hz => by rw [hP]; exact ⟨h3, hz⟩
 have hPn : ∀ r h2, flatN2 r = true → nz2 r = .tup [eIt (nextI f i), .int .i64 (nextN f i), .int .i64 (checkI f i)] → P r h2 := fun r h2 h h1 => hPz r h2 h2 (by rw [← h1]; exact qZ0 h)
 clear hP
 obtain ⟨K0, hK0⟩ : ∃ K0 : Heap, K0 = [cF f] := ⟨_, rfl⟩
 obtain ⟨K1, hK1⟩ : ∃ K1 : Heap, K1 = [cF f, .cells (cIt i)] := ⟨_, rfl⟩
 obtain ⟨K2, hK2⟩ : ∃ K2 : Heap, K2 = [cF f, .cells (cIt i), .cells zIt] := ⟨_, rfl⟩
 have hb0 : evBox [] [.arr (f.map cN)] = some (.ptr 0 0, K0) := by rw [hK0]; simp [evBox, V.isCell, qZB]
 have hb1 : evBox K0 (cIt i) = some (.ptr 1 0, K1) := by rw [hK0, hK1]; exact qZd _ rfl
 have l1 : K1.length = 2 := by rw [hK1]; rfl
 have e2 : K1 ++ [.cells zIt] = K2 := by rw [hK1, hK2]; rfl
 have cK : cellsAt K2 (.ptr 0 0) = some [.arr (f.map cN)] := by rw [hK2]; rfl
 have k1 : K2[1]? = some (.cells (cIt i)) := by rw [hK2]; rfl
 have c1 := qZv k1
 have k2 : K2[2]? = some (.cells zIt) := by rw [hK2]; rfl
 have lt2 := (List.getElem?_eq_some_iff.1 k2).1
 have hC := vZs f z i zt K2
 simp only [eF] at hC
 refine vZv (Nat.le_of_ble_eq_true rfl) (fun env he h0 => ?_)
 have g0 := h0 0 (by simp)
 change eget env 0 = .agg [.arr (f.map cN)] at g0
 have g1 := h0 1 (by simp)
 change eget env 1 = eIt i at g1
 clear h0
 simp [zZu.c] at he
 by_cases hf : checkI f i = 0
 case neg =>
  have hb2 : (checkI f i != 0) = true := by simpa using hf
  have hn : nextI f i = noIt := by simp [nextI, hf]
  have hm : nextN f i = 0 := by simp [nextN, hf]
  have c3 : cellsAt (K2.set 2 (.cells zIt)) (.ptr 2 0) = some zIt := by simp [cellsAt, lt2]
  have hfin : ∀ H, P (.tup [.agg zIt, .int .i64 0, .int .i64 (checkI f i)]) H := fun H => hPn _ _ rfl (by rw [hn, hm]; rfl)
  simp [zZu.c, zZu.r0, zZu.r1, zZu.r2, zZu.r3, zZu.r4, zZu.r5, zZu.r6, zZu.r7, zZu.r15, g0, g1, he, ccF, ccIt, hb0, hb1, l1, e2, cK, c1, okIt, hC, hb2, buildNo, storeNo k2, c3, of5, hfin]
 have hb2 : (checkI f i != 0) = false := by simpa using hf
 obtain ⟨R, hr1, hr2, hh, hl64, hwr⟩ := checkI0 hf
 have hA := vZo z R hr1 K2
 obtain ⟨n0, hp1, hp2, hp3⟩ := jZJ ((kZI R hr1 hr2).2 hh)
 have hlen := vZz R f.length hr1
 have hle := vZp R
 have hI := vZd (allW f i.root) i.ref (by unfold allW; omega) K2
 have hcur : cur f i = n0 + if i.before then 0 else 1 := by rw [cur, hp1]; simp
 have hnextI : nextI f i = toldI i false (nextO f i) := by simp [nextI, hf]
 have hnextN : nextN f i = toldN (nextO f i) := by simp [nextN, hf]
 have hnextO : nextO f i = findOn (accF f i.flt) (allW f i.root) (cur f i) := rfl
 have hmem := allW_is R hr1
 obtain ⟨l, hl⟩ : ∃ l, l = allW f i.root := ⟨_, rfl⟩
 rw [← hl] at hA hI hp1 hp2 hnextO hmem
 change (allW f i.root).length ≤ _ at hlen
 rw [← hl] at hlen
 rw [hp1] at hI
 simp only [eF, eI] at hA hI
 have hfin : ∀ H, P (.tup [eIt (toldI i false (nextO f i)), .int .i64 (toldN (nextO f i)), .int .i64 0]) H := fun H => hPn _ _ rfl (by rw [hnextI, hnextN, hf]; rfl)
 have loop : ∀ (env : List V) (n : Nat), env.length = 55 → eget env 2 = .ptr 0 0 → eget env 3 = .ptr 1 0 → eget env 4 = .ptr 2 0 → eget env 8 = .arr (l.map cI) → eget env 9 = .int .i64 (n) → n = cur f i →
   WK (callW Φ) none (FinX [.cell 4 (some 5), .tmp 5, .tmp 6] P) [It.c (.loop zZu.b14), It.b 0, It.c (Cc.seq (.region zZu.r15) .ret)] { env := env, marks := [], heap := K2 } := by
  intro env n0 he k2' k3 k4 k8 k9 hn0
  refine kLoop (fun m s => ∃ n : Nat, m = l.length - n ∧ n ≤ l.length ∧ s.env.length = 55 ∧ eget s.env 2 = .ptr 0 0 ∧ eget s.env 3 = .ptr 1 0 ∧ eget s.env 4 = .ptr 2 0 ∧ eget s.env 8 = .arr (l.map cI) ∧ eget s.env 9 = .int .i64 (n) ∧ s.marks = [] ∧ s.heap = K2 ∧ nextO f i = findOn (accF f i.flt) l n) (l.length - n0) ⟨n0, rfl, by rw [hn0, hcur]; split <;> omega, he, k2', k3, k4, k8, k9, rfl, rfl, by rw [hn0]; exact hnextO⟩ ?_
  rintro m ⟨e, mk, hp⟩ ⟨n, rfl, hnl, he, k2', k3, k4, k8, k9, hm, hh, hat⟩
  simp only at he k2' k3 k4 k8 k9 hm hh
  obtain rfl := hm
  obtain rfl := hh
  by_cases hlt : n < l.length
  ·obtain ⟨x, hx⟩ : ∃ x, l[n]? = some x := ⟨_, List.getElem?_eq_getElem hlt⟩
   have hw : IntKind.i64.wrap ((n : Int) + 1) = ((n + 1 : Nat) : Int) := by rw [Ev.wrap64] <;> omega
   have ha1 := qZj (h := hp) (k := .i64) qZY hx
   have hxi := hmem x (List.mem_of_getElem? hx)
   have hV := vZ3 f z i zt x (wZt R hxi) hp
   simp only [eF] at hV
   have hacc : accF f i.flt x = (verdictV f i.flt x == 1) := rfl
   rw [findOn_at hx] at hat
   simp [zZu.b14, zZu.r8, k2', k3, k4, k8, k9, he, hlt]
   refine kDraw1 zZu.r9.ord ?_
   cases hac : accF f i.flt x with
   | true =>
    rw [hac, if_pos rfl] at hat
    rw [hac] at hacc
    rw [← hacc] at hV
    have h1' : (hp.set 1 (.cells (cIt { i with ref := x })))[1]? = some (.cells (cIt { i with ref := x })) := by rw [List.getElem?_set_self (by omega)]
    obtain ⟨H1, hH1⟩ : ∃ H1, H1 = hp.set 1 (.cells (cIt { i with ref := x })) := ⟨_, rfl⟩
    have st1 := storeRef k1 x
    rw [← hH1] at h1' st1
    have st2 := storeBef h1' false
    obtain ⟨H2, hH2⟩ : ∃ H2, H2 = H1.set 1 (.cells (cIt { { i with ref := x } with before := false })) := ⟨_, rfl⟩
    have lt1 := (List.getElem?_eq_some_iff.1 h1').1
    have h12 : H2[1]? = some (.cells (cIt { i with ref := x, before := false })) := by rw [hH2, List.getElem?_set_self lt1]
    have h22 : H2[2]? = some (.cells zIt) := by rw [hH2, List.getElem?_set_ne (by decide), hH1, List.getElem?_set_ne (by decide)]; exact k2
    rw [← hH2] at st2
    simp [zZu.r9, zZu.r10, zZu.r11, List.filterMap_cons, k2', k3, k4, k8, k9, he, cK, c1, okIt, ha1, cellI, hV, st1, st2]
    rw [hat] at hfin
    refine xZq ?_ hx h12 h22 ?_ ?_ ?_ ?_ ?_ hfin
    ·intro s h; simpa using h
    ·simp [he]
    ·simp [k3]
    ·simp [k4]
    ·simp [k8]
    ·simp [k9]
   | false =>
    rw [hac, if_neg (by decide)] at hat
    rw [hac] at hacc
    rw [← hacc] at hV
    simp [zZu.r9, zZu.r13, List.filterMap_cons, k2', k3, k4, k8, k9, he, cK, c1, okIt, ha1, cellI, hV]
    exact ⟨l.length - (n + 1), by omega, n + 1, rfl, by omega, by simpa using hw, hat⟩
  ·have : n = l.length := by omega
   subst this
   rw [xZ0 (Nat.le_refl _)] at hat
   have c3 : cellsAt (hp.set 2 (.cells (cIt i))) (.ptr 2 0) = some (cIt i) := by simp [cellsAt, lt2]
   rw [hat] at hfin
   simp only [toldI, toldN] at hfin
   simp [zZu.b14, zZu.r8, zZu.r15, k3, k4, k8, k9, he, c1, okIt, storeIt _ k2, c3, ofIt, hfin]
 by_cases hbe : i.before = true
 ·have hcur2 : cur f i = n0 := by rw [hcur, hbe]; rfl
  have hcp : i.before = true := hbe
  simp [zZu.c, zZu.r0, zZu.r1, zZu.r2, zZu.r4, zZu.r5, zZu.r6, zZu.r7, g0, g1, he, ccF, ccIt, hb0, hb1, l1, e2, cK, c1, okIt, okIt0, okIt1, okIt2, hC, hb2, hA, hI, hcp]
  exact (loop _ n0 (by simp [he]) (by simp [he]) (by simp [he]) (by simp [he]) (by simp [he]) (by simp [he]) hcur2.symm)
 ·have hbe : i.before = false := by simpa using hbe
  have hcur2 : cur f i = n0 + 1 := by rw [hcur, hbe]; rfl
  have hcp : i.before = false := hbe
  have hwB : IntKind.i64.wrap ((n0 : Int) + 1) = ((n0 + 1 : Nat) : Int) := by rw [Ev.wrap64] <;> omega
  simp [zZu.c, zZu.r0, zZu.r1, zZu.r2, zZu.r4, zZu.r5, zZu.r6, zZu.r7, g0, g1, he, ccF, ccIt, hb0, hb1, l1, e2, cK, c1, okIt, okIt0, okIt1, okIt2, hC, hb2, hA, hI, hcp, hwB]
  exact (loop _ (n0 + 1) (by simp [he]) (by simp [he]) (by simp [he]) (by simp [he]) (by simp [he]) (by simp [he]) hcur2.symm)
theorem xZs {P : V → Heap → Prop} {Q : Ex → St → Prop} (hQ : ∀ s, FinX [.cell 4 (some 5), .tmp 5, .tmp 6] P .ret s → Q .ret s) {H : Heap} {j : Itr} {l : List Int} {n : Nat} {x : Int} (hx : l[n]? = some x) (h1 : H[1]? = some (.cells (cIt j))) (h2 : H[2]? = some (.cells zIt)) {env : List V} (he : env.length = 52) (k3 : eget env 3 = .ptr 1 0) (k4 : eget env 4 = .ptr 2 0) (k8 : eget env 8 = .arr (l.map cI)) (k9 : eget env 9 = .int .i64 n)
  (hP : ∀ H, P (.tup [eIt j, .int .i64 x, .int .i64 0]) H) {k : List It} : WK (callW Φ) none Q (.c (.draw zZv.r12 [[], [], [], [1, 2], [3], [0, 0], [4, 5, 0, 1, 2, 3, 4, 5], [6, 0, 1, 2, 3, 4, 5, 6]] [1, 2, 3, 6, 7]) :: .c .ret :: k) { env := env, marks := [], heap := H } := by
 have c1 := qZv h1
 have lt := (List.getElem?_eq_some_iff.1 h2).1
 obtain ⟨H2, hH2⟩ : ∃ H2, H2 = H.set 2 (.cells (cIt j)) := ⟨_, rfl⟩
 have st := storeIt j h2
 rw [← hH2] at st
 have c2 : cellsAt H2 (.ptr 2 0) = some (cIt j) := by rw [hH2]; simp [cellsAt, lt]
 have ha := fun H => qZj (h := H) (k := .i64) qZY hx
 refine kDraw2 zZv.r12.ord ?_
 simp (config := { maxSteps := 5000000 }) [zZv.r12, List.filterMap_cons, k3, k4, k8, k9, he, c1, okIt, ha, cellI, st]
 exact hQ _ (by simp [he, k4, c2, ofIt, hP])
theorem xZr (f : List Nd) (z : Sz f) (i : Itr) (zt : Fz i.flt) (H : Heap) : callW Φ zZv [eF f, eIt i] H = some (.tup [eIt (prevI f i), .int .i64 (prevN f i), .int .i64 (checkI f i)], H) := by
 refine qZ8 zZv.Φ rfl (args := [eF f, eIt i]) rfl ?_
 obtain ⟨P, hP⟩ : ∃ P : V → Heap → Prop, P = fun r h2 => ∃ h3, fz fzDepth h2 r = some (.tup [eIt (prevI f i), .int .i64 (prevN f i), .int .i64 (checkI f i)], h3) := ⟨_, rfl⟩
 suffices hgo : ∃ r h', evBodyW (callW Φ) zZv.c [eF f, eIt i] [] = some (r, h') ∧ P r h' by rw [hP] at hgo; exact hgo
 have hPz : ∀ r h2 h3, fz fzDepth h2 r = some (.tup [eIt (prevI f i), .int .i64 (prevN f i), .int .i64 (checkI f i)], h3) → P r h2 := fun r h2 h3 hz => by rw [hP]; exact ⟨h3, hz⟩
 have hPn : ∀ r h2, flatN2 r = true → nz2 r = .tup [eIt (prevI f i), .int .i64 (prevN f i), .int .i64 (checkI f i)] → P r h2 := fun r h2 h h1 => hPz r h2 h2 (by rw [← h1]; exact qZ0 h)
 clear hP
 obtain ⟨K0, hK0⟩ : ∃ K0 : Heap, K0 = [cF f] := ⟨_, rfl⟩
 obtain ⟨K1, hK1⟩ : ∃ K1 : Heap, K1 = [cF f, .cells (cIt i)] := ⟨_, rfl⟩
 obtain ⟨K2, hK2⟩ : ∃ K2 : Heap, K2 = [cF f, .cells (cIt i), .cells zIt] := ⟨_, rfl⟩
 have hb0 : evBox [] [.arr (f.map cN)] = some (.ptr 0 0, K0) := by rw [hK0]; simp [evBox, V.isCell, qZB]
 have hb1 : evBox K0 (cIt i) = some (.ptr 1 0, K1) := by rw [hK0, hK1]; exact qZd _ rfl
 have l1 : K1.length = 2 := by rw [hK1]; rfl
 have e2 : K1 ++ [.cells zIt] = K2 := by rw [hK1, hK2]; rfl
 have cK : cellsAt K2 (.ptr 0 0) = some [.arr (f.map cN)] := by rw [hK2]; rfl
 have k1 : K2[1]? = some (.cells (cIt i)) := by rw [hK2]; rfl
 have c1 := qZv k1
 have k2 : K2[2]? = some (.cells zIt) := by rw [hK2]; rfl
 have lt2 := (List.getElem?_eq_some_iff.1 k2).1
 have hC := vZs f z i zt K2
 simp only [eF] at hC
 refine vZv (Nat.le_of_ble_eq_true rfl) (fun env he h0 => ?_)
 have g0 := h0 0 (by simp)
 change eget env 0 = .agg [.arr (f.map cN)] at g0
 have g1 := h0 1 (by simp)
 change eget env 1 = eIt i at g1
 clear h0
 simp [zZv.c] at he
 by_cases hf : checkI f i = 0
 case neg =>
  have hb2 : (checkI f i != 0) = true := by simpa using hf
  have hn : prevI f i = noIt := by simp [prevI, hf]
  have hm : prevN f i = 0 := by simp [prevN, hf]
  have c3 : cellsAt (K2.set 2 (.cells zIt)) (.ptr 2 0) = some zIt := by simp [cellsAt, lt2]
  have hfin : ∀ H, P (.tup [.agg zIt, .int .i64 0, .int .i64 (checkI f i)]) H := fun H => hPn _ _ rfl (by rw [hn, hm]; rfl)
  simp [zZv.c, zZv.r0, zZv.r1, zZv.r2, zZv.r3, zZv.r4, zZv.r5, zZv.r6, zZv.r7, zZv.r15, g0, g1, he, ccF, ccIt, hb0, hb1, l1, e2, cK, c1, okIt, hC, hb2, buildNo, storeNo k2, c3, of5, hfin]
 have hb2 : (checkI f i != 0) = false := by simpa using hf
 obtain ⟨R, hr1, hr2, hh, hl64, hwr⟩ := checkI0 hf
 have hA := vZo z R hr1 K2
 obtain ⟨n0, hp1, hp2, hp3⟩ := jZJ ((kZI R hr1 hr2).2 hh)
 have hlen := vZz R f.length hr1
 have hle := vZp R
 have hI := vZd (allW f i.root) i.ref (by unfold allW; omega) K2
 have hcur : cur f i = n0 + if i.before then 0 else 1 := by rw [cur, hp1]; simp
 have hprevI : prevI f i = toldI i true (prevO f i) := by simp [prevI, hf]
 have hprevN : prevN f i = toldN (prevO f i) := by simp [prevN, hf]
 have hprevO : prevO f i = findBack (accF f i.flt) (allW f i.root) (cur f i) := rfl
 have hmem := allW_is R hr1
 obtain ⟨l, hl⟩ : ∃ l, l = allW f i.root := ⟨_, rfl⟩
 rw [← hl] at hA hI hp1 hp2 hprevO hmem
 change (allW f i.root).length ≤ _ at hlen
 rw [← hl] at hlen
 rw [hp1] at hI
 simp only [eF, eI] at hA hI
 have hfin : ∀ H, P (.tup [eIt (toldI i true (prevO f i)), .int .i64 (toldN (prevO f i)), .int .i64 0]) H := fun H => hPn _ _ rfl (by rw [hprevI, hprevN, hf]; rfl)
 have loop : ∀ (env : List V) (n : Nat), env.length = 52 → eget env 2 = .ptr 0 0 → eget env 3 = .ptr 1 0 → eget env 4 = .ptr 2 0 → eget env 8 = .arr (l.map cI) → eget env 9 = .int .i64 ((n : Int) - 1) → n = cur f i →
   WK (callW Φ) none (FinX [.cell 4 (some 5), .tmp 5, .tmp 6] P) [It.c (.loop zZv.b14), It.b 0, It.c (Cc.seq (.region zZv.r15) .ret)] { env := env, marks := [], heap := K2 } := by
  intro env n0 he k2' k3 k4 k8 k9 hn0
  refine kLoop (fun m s => ∃ n : Nat, m = n + 1 ∧ n ≤ l.length ∧ s.env.length = 52 ∧ eget s.env 2 = .ptr 0 0 ∧ eget s.env 3 = .ptr 1 0 ∧ eget s.env 4 = .ptr 2 0 ∧ eget s.env 8 = .arr (l.map cI) ∧ eget s.env 9 = .int .i64 ((n : Int) - 1) ∧ s.marks = [] ∧ s.heap = K2 ∧ prevO f i = findBack (accF f i.flt) l n) (n0 + 1) ⟨n0, rfl, by rw [hn0, hcur]; split <;> omega, he, k2', k3, k4, k8, k9, rfl, rfl, by rw [hn0]; exact hprevO⟩ ?_
  rintro m ⟨e, mk, hp⟩ ⟨n, rfl, hnl, he, k2', k3, k4, k8, k9, hm, hh, hat⟩
  simp only at he k2' k3 k4 k8 k9 hm hh
  obtain rfl := hm
  obtain rfl := hh
  cases n with
  | succ n =>
   obtain ⟨x, hx⟩ : ∃ x, l[n]? = some x := ⟨_, List.getElem?_eq_getElem (by omega)⟩
   have e9 : ((n + 1 : Nat) : Int) - 1 = n := by omega
   rw [e9] at k9
   have hge : ¬ (n : Int) < 0 := by omega
   have hw : IntKind.i64.wrap ((n : Int) - 1) = (n : Int) - 1 := by rw [Ev.wrap64] <;> omega
   have ha1 := qZj (h := hp) (k := .i64) qZY hx
   have hxi := hmem x (List.mem_of_getElem? hx)
   have hV := vZ3 f z i zt x (wZt R hxi) hp
   simp only [eF] at hV
   have hacc : accF f i.flt x = (verdictV f i.flt x == 1) := rfl
   rw [kZ5 hx] at hat
   simp [zZv.b14, zZv.r8, k2', k3, k4, k8, k9, he, hge]
   refine kDraw1 zZv.r9.ord ?_
   cases hac : accF f i.flt x with
   | true =>
    rw [hac, if_pos rfl] at hat
    rw [hac] at hacc
    rw [← hacc] at hV
    have h1' : (hp.set 1 (.cells (cIt { i with ref := x })))[1]? = some (.cells (cIt { i with ref := x })) := by rw [List.getElem?_set_self (by omega)]
    obtain ⟨H1, hH1⟩ : ∃ H1, H1 = hp.set 1 (.cells (cIt { i with ref := x })) := ⟨_, rfl⟩
    have st1 := storeRef k1 x
    rw [← hH1] at h1' st1
    have st2 := storeBef h1' true
    obtain ⟨H2, hH2⟩ : ∃ H2, H2 = H1.set 1 (.cells (cIt { { i with ref := x } with before := true })) := ⟨_, rfl⟩
    have lt1 := (List.getElem?_eq_some_iff.1 h1').1
    have h12 : H2[1]? = some (.cells (cIt { i with ref := x, before := true })) := by rw [hH2, List.getElem?_set_self lt1]
    have h22 : H2[2]? = some (.cells zIt) := by rw [hH2, List.getElem?_set_ne (by decide), hH1, List.getElem?_set_ne (by decide)]; exact k2
    rw [← hH2] at st2
    simp [zZv.r9, zZv.r10, zZv.r11, List.filterMap_cons, k2', k3, k4, k8, k9, he, cK, c1, okIt, ha1, cellI, hV, st1, st2]
    rw [hat] at hfin
    refine xZs ?_ hx h12 h22 ?_ ?_ ?_ ?_ ?_ hfin
    ·intro s h; simpa using h
    ·simp [he]
    ·simp [k3]
    ·simp [k4]
    ·simp [k8]
    ·simp [k9]
   | false =>
    rw [hac, if_neg (by decide)] at hat
    rw [hac] at hacc
    rw [← hacc] at hV
    simp [zZv.r9, zZv.r13, List.filterMap_cons, k2', k3, k4, k8, k9, he, cK, c1, okIt, ha1, cellI, hV]
    exact ⟨n + 1, by omega, n, rfl, by omega, hw, hat⟩
  | zero =>
   rw [jZB] at hat
   have c3 : cellsAt (hp.set 2 (.cells (cIt i))) (.ptr 2 0) = some (cIt i) := by simp [cellsAt, lt2]
   rw [hat] at hfin
   simp only [toldI, toldN] at hfin
   simp at k9
   simp [zZv.b14, zZv.r8, zZv.r15, k3, k4, k8, k9, he, c1, okIt, storeIt _ k2, c3, ofIt, hfin]
 by_cases hbe : i.before = true
 ·have hcur2 : cur f i = n0 := by rw [hcur, hbe]; rfl
  have hcp : i.before = true := hbe
  have hwA : IntKind.i64.wrap ((n0 : Int) - 1) = (n0 : Int) - 1 := by rw [Ev.wrap64] <;> omega
  simp [zZv.c, zZv.r0, zZv.r1, zZv.r2, zZv.r4, zZv.r5, zZv.r6, zZv.r7, g0, g1, he, ccF, ccIt, hb0, hb1, l1, e2, cK, c1, okIt, okIt0, okIt1, okIt2, hC, hb2, hA, hI, hcp, hwA]
  exact (loop _ n0 (by simp [he]) (by simp [he]) (by simp [he]) (by simp [he]) (by simp [he]) (by simp [he]) hcur2.symm)
 ·have hbe : i.before = false := by simpa using hbe
  have hcur2 : cur f i = n0 + 1 := by rw [hcur, hbe]; rfl
  have hcp : i.before = false := hbe
  simp [zZv.c, zZv.r0, zZv.r1, zZv.r2, zZv.r4, zZv.r5, zZv.r6, zZv.r7, g0, g1, he, ccF, ccIt, hb0, hb1, l1, e2, cK, c1, okIt, okIt0, okIt1, okIt2, hC, hb2, hA, hI, hcp]
  exact (loop _ (n0 + 1) (by simp [he]) (by simp [he]) (by simp [he]) (by simp [he]) (by simp [he]) (by simp [he]) hcur2.symm)
end Go.Proofs.It
