/- The program's forest: ends, its loops. The program's forest: ends, whole. No conditions. -/
import Derived.Test.YtaeklgflchhmfaaGreatDoorItZa
import Derived.Test.YtaeklgflchhmfaaGreatDoorItPa
set_option maxHeartbeats 16000000
set_option maxRecDepth 100000
set_option linter.unusedVariables false
set_option linter.unusedSimpArgs false
set_option linter.unusedSectionVars false
namespace Go.Proofs.It
open Go Go.Ev
def stv (st : List Int) (y : Int) : Int := st.getD y.toNat 0
def Good (f : List Nd) (st : List Int) (y : Int) : Prop := stv st y = 0 ∨ (stv st y = 2 ∧ E f y) ∨ (stv st y = 3 ∧ ¬ E f y)
abbrev stV (n : Nat) : V := .sl 1 0 0 n
theorem wZt {f : List Nd} {x : Int} : is_ f x = true ↔ 1 ≤ x ∧ x ≤ f.length := by simp [is_]
theorem stv_at {st : List Int} {x : Int} (h1 : 0 ≤ x) (h2 : x < st.length) : (st.map cI)[x.toNat]? = some (cI (stv st x)) := by
 have : x.toNat < st.length := by omega
 rw [List.getElem?_map, List.getElem?_eq_getElem this]
 simp only [Option.map_some, stv, List.getD_eq_getElem?_getD, List.getElem?_eq_getElem this, Option.getD_some]
theorem stv_set {st : List Int} {x v : Int} (h1 : 0 ≤ x) (h2 : x < st.length) (y : Int) (hy : 0 ≤ y) : stv (st.set x.toNat v) y = if y = x then v else stv st y := by
 have : x.toNat < st.length := by omega
 simp only [stv, List.getD_eq_getElem?_getD]
 by_cases e : y = x
 ·subst e
  rw [List.getElem?_set_self this, if_pos rfl]
  rfl
 ·rw [List.getElem?_set_ne (by omega), if_neg e]
structure Es (f : List Nd) (st : List Int) (H : Heap) : Prop where
 c : H[0]? = some (.cells [.arr (f.map cN)])
 s : VL H 1 (stV (f.length + 1)) (some 1) (st.map cI)
 l : st.length = f.length + 1
theorem Es.c0 {f : List Nd} {st : List Int} {H : Heap} (e : Es f st H) : cellsAt H (.ptr 0 0) = some [.arr (f.map cN)] := by simp [cellsAt, e.c]
theorem Es.row {f : List Nd} {st : List Int} {H : Heap} (e : Es f st H) : H[1]? = some (.row 1 (st.map cI) 0 true) := by
 rcases e.s with ⟨h | h, _⟩ | ⟨i, q, ho, hv, hr, _⟩
 ·cases h
 ·cases h
 ·cases ho
  simp only [stV, V.sl.injEq] at hv
  rw [← hv.2.1] at hr
  exact hr
theorem Es.at {f : List Nd} {st : List Int} {H : Heap} (e : Es f st H) {x : Int} (h1 : 0 ≤ x) (h2 : x ≤ f.length) :
  (∀ k, iaddrV H 1 (stV (f.length + 1)) (.int k x) = some (.eptr 1 0 x.toNat 0)) ∧ cellsAt H (.eptr 1 0 x.toNat 0) = some (cI (stv st x)) := by
 have hx := stv_at (st := st) h1 (by rw [e.l]; omega)
 have hr := e.row
 have hl := e.l
 constructor
 ·intro k
  simp only [iaddrV, hr]
  rw [if_pos ⟨h1, by omega⟩, if_pos (by refine ⟨trivial, trivial, ?_⟩; rw [List.length_map]; omega), Nat.zero_add]
 ·simp only [cellsAt, hr, if_true, hx, Option.map_some]
  rfl
theorem ends_r7 {f : List Nd} (hf : f.length < 2 ^ 50) {st : List Int} {H : Heap} (S : Es f st H) {x : Int} {env : List V} (he : env.length = 101) (g1 : eget env 1 = .ptr 0 0) (g3 : eget env 3 = stV (f.length + 1)) (g6 : eget env 6 = .int .i64 x) :
  WK (callW Φ) none (fun e s' => e = .normal ∧ s'.env.length = 101 ∧ eget s'.env 1 = .ptr 0 0 ∧ eget s'.env 3 = stV (f.length + 1) ∧ eget s'.env 5 = eget env 5 ∧ eget s'.env 6 = .int .i64 x ∧ eget s'.env 19 = eget env 19 ∧ eget s'.env 20 = eget env 20 ∧ s'.marks = [] ∧ s'.heap = H ∧ eget s'.env 40 = .bool (is_ f x && stv st x == 0)) [.c (.region zZh.r7)] { env := env, marks := [], heap := H } := by
 have c0 := S.c0
 by_cases h1 : 1 ≤ x
 ·by_cases h2 : x ≤ f.length
  ·have hi : is_ f x = true := wZt.2 ⟨h1, h2⟩
   obtain ⟨ha, hc⟩ := S.at (x := x) (by omega) h2
   simp [zZh.r7, he, g1, g3, g6, c0, evPick, faddrP, h1, h2, hi, ha, hc, cellI]
  ·have hi : is_ f x = false := by rw [← Bool.not_eq_true, wZt]; omega
   simp [zZh.r7, he, g1, g3, g6, c0, evPick, faddrP, h1, h2, hi]
 ·have hi : is_ f x = false := by rw [← Bool.not_eq_true, wZt]; omega
  simp [zZh.r7, he, g1, g3, g6, c0, evPick, faddrP, h1, hi]
theorem ends_r13 {f : List Nd} (hf : f.length < 2 ^ 50) {st : List Int} {H : Heap} (S : Es f st H) {x : Int} {env : List V} (he : env.length = 101) (g1 : eget env 1 = .ptr 0 0) (g3 : eget env 3 = stV (f.length + 1)) (g6 : eget env 6 = .int .i64 x) :
  WK (callW Φ) none (fun e s' => e = .normal ∧ s'.env.length = 101 ∧ eget s'.env 1 = .ptr 0 0 ∧ eget s'.env 3 = stV (f.length + 1) ∧ eget s'.env 5 = eget env 5 ∧ eget s'.env 7 = eget env 7 ∧ eget s'.env 19 = eget env 19 ∧ eget s'.env 20 = eget env 20 ∧ s'.marks = [] ∧ s'.heap = H ∧ eget s'.env 70 = .bool (is_ f x && stv st x != 2)) [.c (.region zZh.r13)] { env := env, marks := [], heap := H } := by
 have c0 := S.c0
 by_cases h1 : 1 ≤ x
 ·by_cases h2 : x ≤ f.length
  ·have hi : is_ f x = true := wZt.2 ⟨h1, h2⟩
   obtain ⟨ha, hc⟩ := S.at (x := x) (by omega) h2
   simp [zZh.r13, he, g1, g3, g6, c0, evPick, faddrP, h1, h2, hi, ha, hc, cellI]
  ·have hi : is_ f x = false := by rw [← Bool.not_eq_true, wZt]; omega
   simp [zZh.r13, he, g1, g3, g6, c0, evPick, faddrP, h1, h2, hi]
 ·have hi : is_ f x = false := by rw [← Bool.not_eq_true, wZt]; omega
  simp [zZh.r13, he, g1, g3, g6, c0, evPick, faddrP, h1, hi]
theorem Es.put {f : List Nd} {st : List Int} {H : Heap} (S : Es f st H) {x : Int} (h1 : 0 ≤ x) (h2 : x ≤ f.length) (w : Int) :
  ∃ p H1, (∀ k, iaddrV H 1 (stV (f.length + 1)) (.int k x) = some p) ∧ evStoreV H 1 p (.int .i64 w) = some (V.non, H1) ∧ Es f (st.set x.toNat w) H1 ∧ H1.length = H.length ∧ ∀ j, j ≠ 1 → H1[j]? = H[j]? := by
 obtain ⟨ha, hc⟩ := S.at h1 h2
 obtain ⟨id, ep, H1, ho, hb, hs, hv, hl, hj⟩ := S.s.put (k := .i64) h1 (by rw [List.length_map, S.l]; omega) (x := .int .i64 w) ⟨rfl, rfl, rfl⟩
 rw [ha .i64, Option.some.injEq] at hb
 rw [← hb] at hs
 refine ⟨_, H1, ha, hs, ⟨by rw [hj 0 (by simp)]; exact S.c, ?_, by rw [List.length_set]; exact S.l⟩, hl, fun j hne => hj j (fun e => hne (Option.some.inj e).symm)⟩
 have : (st.set x.toNat w).map cI = (st.map cI).set x.toNat (V.int .i64 w).cells := by rw [List.map_set]; rfl
 rw [this]
 exact hv
theorem ends_up {f : List Nd} (hf : f.length ≤ 4096) {st0 : List Int} {h0 : Int} {H0 : Heap} (S0 : Es f st0 H0) {env : List V} (he0 : env.length = 101) (g1 : eget env 1 = .ptr 0 0) (g3 : eget env 3 = stV (f.length + 1)) (g5 : eget env 5 = .nils) (g6 : eget env 6 = .int .i64 h0) :
  WK (callW Φ) none (fun e s' => e = .normal ∧ s'.env.length = 101 ∧ eget s'.env 1 = .ptr 0 0 ∧ eget s'.env 3 = stV (f.length + 1) ∧ eget s'.env 19 = eget env 19 ∧ eget s'.env 20 = eget env 20 ∧ s'.marks = [] ∧
   ∃ k st o, Es f st s'.heap ∧ VL s'.heap 1 (eget s'.env 5) o ((way f h0 k).map cI) ∧ o ≠ some 1 ∧ o ≠ some 0 ∧ eget s'.env 6 = .int .i64 (upN f k h0) ∧ (∀ i, i < k → is_ f (upN f i h0) = true) ∧ (way f h0 k).Nodup ∧
    (∀ y, is_ f y = true → stv st y = if y ∈ way f h0 k then 1 else stv st0 y) ∧ (is_ f (upN f k h0) && stv st (upN f k h0) == 0) = false) [.c (.block 2 (.loop zZh.b11))] { env := env, marks := [], heap := H0 } := by
 simp
 refine kLoop (fun m s => ∃ k st o, m = st.count 0 ∧ s.env.length = 101 ∧ eget s.env 1 = .ptr 0 0 ∧ eget s.env 3 = stV (f.length + 1) ∧ eget s.env 19 = eget env 19 ∧ eget s.env 20 = eget env 20 ∧ s.marks = [] ∧
   Es f st s.heap ∧ VL s.heap 1 (eget s.env 5) o ((way f h0 k).map cI) ∧ o ≠ some 1 ∧ o ≠ some 0 ∧ eget s.env 6 = .int .i64 (upN f k h0) ∧ (∀ i, i < k → is_ f (upN f i h0) = true) ∧ (way f h0 k).Nodup ∧
    (∀ y, is_ f y = true → stv st y = if y ∈ way f h0 k then 1 else stv st0 y)) (st0.count 0) ⟨0, st0, none, rfl, he0, g1, g3, rfl, rfl, rfl, S0, by rw [g5]; exact VL.nil _ _, by simp, by simp, g6, fun i hi => by omega, by simp [way], fun y _ => by simp [way]⟩ ?_
 rintro m ⟨e, mk, hp⟩ ⟨k, st, o, rfl, he, k1, k3, k19, k20, hm, S, W, ho1, ho0, k6, hch, hnd, hst⟩
 simp only at he k1 k3 k19 k20 hm S W k6
 obtain rfl := hm
 obtain ⟨x, hx⟩ : ∃ x, x = upN f k h0 := ⟨_, rfl⟩
 rw [← hx] at k6
 simp only [zZh.b11, kSeq, kRegion]
 refine kNormalO (ends_r7 (by omega) S he k1 k3 k6) ?_
 rintro ⟨e', mk, H'⟩ ⟨he', j1, j3, j5, j6, j19, j20, hmk, hheap, j40⟩
 simp only at he' j1 j3 j5 j6 j19 j20 hmk hheap j40
 obtain rfl := hmk
 obtain rfl := hheap
 cases hc : (is_ f x && stv st x == 0) with
 | false =>
  rw [hc] at j40
  simp [j40, he', j1, j3, j19, j20, k19, k20]
  refine ⟨k, st, S, o, by rw [j5]; exact W, ho1, ho0, by rw [j6, hx], hch, hnd, hst, ?_⟩
  rw [← hx]
  simpa using hc
 | true =>
  rw [hc] at j40
  rw [Bool.and_eq_true, beq_iff_eq] at hc
  obtain ⟨hi, hz⟩ := hc
  have hi' := wZt.1 hi
  obtain ⟨p, H1, hpa, hps, S1, hl1, hk1⟩ := S.put (x := x) (by omega) hi'.2 1
  have W1 := W.mono (h' := H1) fun id hid => hk1 id (fun e => ho1 (by rw [hid, e]))
  rw [← j5] at W1
  obtain ⟨v5, hv5⟩ : ∃ v, v = eget e' 5 := ⟨_, rfl⟩
  rw [← hv5] at W1
  have hxw : x ∉ way f h0 k := fun hin => by
   have := hst x hi
   rw [if_pos hin, hz] at this
   cases this
  have hkn : k ≤ f.length := by
   have := php hnd (f := f) fun y hy => by
    obtain ⟨i, hi, rfl⟩ := kZb.1 hy
    exact hch i hi
   rwa [way_len] at this
  have hbs : evBslice H1 [.int .i64 0] 1 1 [(0, .int .i64 x)] = some (.sl H1.length 0 0 1, H1 ++ [Ob.row 1 [cI x] 0 true]) := by
   simp [evBslice, placeParts, V.cells, V.isCell, setRange, chunks, cI]
  have hq : elemsOf (H1 ++ [Ob.row 1 [cI x] 0 true]) (.sl H1.length 0 0 1) = some [cI x] := by simp [elemsOf]
  have W2 := W1.push [Ob.row 1 [cI x] 0 true]
  have S2 : Es f (st.set x.toNat 1) (H1 ++ [Ob.row 1 [cI x] 0 true]) := ⟨by rw [List.getElem?_append_left (List.getElem?_eq_some_iff.1 S1.c).1]; exact S1.c, S1.s.push _, S1.l⟩
  obtain ⟨v', o', H3, ha, W3, hl3, hk3, ho3⟩ := W2.app (by_ := 8) (plainI [x]) hq (by simp [way_len, roomB]; omega)
  have hlt1 : 1 < (H1 ++ [Ob.row 1 [cI x] 0 true]).length := S2.s.lt rfl
  have S3 : Es f (st.set x.toNat 1) H3 := ⟨by rw [hk3 0 (by omega) ho0]; exact S2.c, S2.s.mono fun id hid => by cases hid; exact hk3 1 hlt1 ho1, S2.l⟩
  have c3 := S3.c0
  have hw : IntKind.i64.wrap (x - 1) = x - 1 := by rw [Ev.wrap64] <;> omega
  have hai := vZy (h := H3) (k := .i64) vZ0 (show 0 ≤ x - 1 by omega) (at_in hi'.1 hi'.2)
  have hA := fun H => jZ5 (at_ f x) H
  have hok : ∀ H, okCells H (some 16) (some (cN (at_ f x))) = some (eN (at_ f x), H) := fun H => okN H _
  simp only [eN] at hA hok
  simp [j40, zZh.r8, zZh.r9, zZh.r10, he', j1, j3, j6, ← hv5, hpa, hps, hbs, ha, c3, faddrP, hw, hai, hok, hA]
  refine ⟨_, ?_, k + 1, st.set x.toNat 1, rfl, j19.trans k19, j20.trans k20, S3, o', ?_, ?_, ?_, ?_, ?_, ?_, ?_⟩
  ·have hlx : x.toNat < st.length := by have := S.l; omega
   have hg : st[x.toNat] = 0 := by
    have h := hz
    simp only [stv, List.getD_eq_getElem?_getD, List.getElem?_eq_getElem hlx, Option.getD_some] at h
    exact h
   have hpos : 0 < st.count 0 := List.count_pos_iff.2 (by rw [← hg]; exact List.getElem_mem hlx)
   rw [List.count_set hlx, hg]
   simp
   omega
  ·rw [way_succ, ← hx]
   simpa using W3
  ·intro e
   rcases ho3 1 e with h | h
   ·exact ho1 h
   ·omega
  ·intro e
   rcases ho3 0 e with h | h
   ·exact ho0 h
   ·omega
  ·rw [hx]; rfl
  ·intro i hik
   by_cases e : i = k
   ·rw [e, ← hx]; exact hi
   ·exact hch i (by omega)
  ·rw [way_succ, ← hx, List.nodup_append]
   refine ⟨hnd, by simp, fun a ha b hb => ?_⟩
   rw [List.mem_singleton] at hb
   rintro rfl
   exact hxw (hb ▸ ha)
  ·intro y hy
   have hy' := wZt.1 hy
   rw [stv_set (by omega) (by have := S.l; omega) y (by omega), way_succ, ← hx]
   by_cases e : y = x
   ·simp [e]
   ·rw [if_neg e, hst y hy]
    simp [e]
open Go Go.Ev
theorem ends_tell {f : List Nd} (hf : f.length ≤ 4096) {st0 : List Int} {W : List Int} (hW : ∀ x ∈ W, is_ f x = true) (hWl : W.length ≤ 4096) {o : Option Nat} {H0 : Heap} (S0 : Es f st0 H0) {env : List V} (V0 : VL H0 1 (eget env 5) o (W.map cI)) (ho1 : o ≠ some 1) {w : Int} (he0 : env.length = 101) (g1 : eget env 1 = .ptr 0 0) (g3 : eget env 3 = stV (f.length + 1)) (g7 : eget env 7 = .int .i64 w) :
  WK (callW Φ) none (fun e s' => e = .normal ∧ s'.env.length = 101 ∧ eget s'.env 1 = .ptr 0 0 ∧ eget s'.env 3 = stV (f.length + 1) ∧ eget s'.env 19 = eget env 19 ∧ eget s'.env 20 = eget env 20 ∧ s'.marks = [] ∧
   ∃ st, Es f st s'.heap ∧ (∀ y, is_ f y = true → stv st y = if y ∈ W then w else stv st0 y)) [.c (xS zZh.r15 (.block 4 (.loop zZh.b20)))] { env := env, marks := [], heap := H0 } := by
 have hln := fun H => V0.len H
 obtain ⟨v, hv⟩ : ∃ v, v = eget env 5 := ⟨_, rfl⟩
 rw [← hv] at V0 hln
 simp [zZh.r15, he0, ← hv, hln]
 refine kLoop (fun m s => ∃ (i : Nat) (st : List Int), m = W.length - i ∧ i ≤ W.length ∧ s.env.length = 101 ∧ eget s.env 1 = .ptr 0 0 ∧ eget s.env 3 = stV (f.length + 1) ∧ eget s.env 7 = .int .i64 w ∧ eget s.env 19 = eget env 19 ∧ eget s.env 20 = eget env 20 ∧ eget s.env 71 = v ∧ eget s.env 72 = .int .i64 W.length ∧ eget s.env 73 = .int .i64 i ∧ s.marks = [] ∧
   Es f st s.heap ∧ VL s.heap 1 v o (W.map cI) ∧ (∀ y, is_ f y = true → stv st y = if y ∈ W.take i then w else stv st0 y)) W.length ⟨0, st0, by simp, by simp, by simp [he0], by simp [g1], by simp [g3], by simp [g7], by simp, by simp, by simp [he0], by simp [he0], by simp [he0], rfl, S0, V0, by simp⟩ ?_
 rintro m ⟨e, mk, hp⟩ ⟨i, st, rfl, hi, he, k1, k3, k7, k19, k20, k71, k72, k73, hm, S, VW, hst⟩
 simp only at he k1 k3 k7 k19 k20 k71 k72 k73 hm S VW
 obtain rfl := hm
 by_cases hlt : i < W.length
 ·obtain ⟨x, hx⟩ : ∃ x, W[i]? = some x := ⟨_, List.getElem?_eq_getElem hlt⟩
  have hw : IntKind.i64.wrap ((i : Int) + 1) = ((i + 1 : Nat) : Int) := by rw [Ev.wrap64] <;> omega
  have hxi := hW x (List.mem_of_getElem? hx)
  have hxi' := wZt.1 hxi
  have hxm : (W.map cI)[(i : Int).toNat]? = some (cI x) := by rw [List.getElem?_map, Int.toNat_natCast, hx]; rfl
  obtain ⟨id, ep, hid, hia, hce⟩ := VW.at (k := .i64) (by omega) hxm
  have hc0 := hce 0
  simp only [List.drop_zero] at hc0
  simp only [Int.toNat_natCast] at hia hc0
  obtain ⟨p, H1, hpa, hps, S1, hl1, hk1⟩ := S.put (x := x) (by omega) hxi'.2 w
  simp [zZh.b20, zZh.r16, zZh.r17, zZh.r18, zZh.r19, k1, k3, k7, k71, k72, k73, he, hlt, hia, hc0, cellI, hpa, hps]
  refine ⟨W.length - (i + 1), by omega, i + 1, rfl, by omega, k19, k20, by simpa using hw, st.set x.toNat w, S1, VW.mono fun j hj => hk1 j fun e => ho1 (by rw [hj, e]), ?_⟩
  intro y hy
  have hy' := wZt.1 hy
  have htk : W.take (i + 1) = W.take i ++ [x] := by rw [List.take_add_one, hx]; rfl
  rw [stv_set (by omega) (by have := S.l; omega) y (by omega), htk]
  by_cases e : y = x
  ·simp [e]
  ·rw [if_neg e, hst y hy]
   simp [e]
 ·have : i = W.length := by omega
  subst this
  rw [List.take_length] at hst
  simp [zZh.b20, zZh.r16, k72, k73, he, k1, k3, k19, k20]
  exact ⟨st, S, hst⟩
def Known (f : List Nd) (st : List Int) (i : Nat) : Prop := (∀ y, is_ f y = true → Good f st y) ∧ ∀ y : Int, 1 ≤ y → y ≤ i → stv st y ≠ 0
theorem ends_round {f : List Nd} (hf : f.length ≤ 4096) {st0 : List Int} {i : Nat} (hi : i < f.length) (hG : Known f st0 i) {H0 : Heap} (S0 : Es f st0 H0) {env : List V} (he0 : env.length = 101) (g1 : eget env 1 = .ptr 0 0) (g3 : eget env 3 = stV (f.length + 1)) (g20 : eget env 20 = .int .i64 i) :
  WK (callW Φ) none (fun e s' => e = .normal ∧ s'.env.length = 101 ∧ eget s'.env 1 = .ptr 0 0 ∧ eget s'.env 3 = stV (f.length + 1) ∧ eget s'.env 19 = eget env 19 ∧ eget s'.env 20 = eget env 20 ∧ s'.marks = [] ∧
   ∃ st, Es f st s'.heap ∧ Known f st (i + 1)) [.c (.block 1 (xS zZh.r4 (xS zZh.r5 (xS zZh.r6 (.seq (.block 2 (.loop zZh.b11)) (xS zZh.r12 (.seq (xS zZh.r13 (.cond (.t 70) (.region zZh.r14) .skip)) (xS zZh.r15 (.block 4 (.loop zZh.b20))))))))))] { env := env, marks := [], heap := H0 } := by
 have hw : IntKind.i64.wrap ((i : Int) + 1) = ((i + 1 : Nat) : Int) := by rw [Ev.wrap64] <;> omega
 obtain ⟨h0, hh0⟩ : ∃ h0, h0 = ((i + 1 : Nat) : Int) := ⟨_, rfl⟩
 rw [← hh0] at hw
 have hi0 : is_ f h0 = true := wZt.2 (by omega)
 have U := fun (e : List V) he g1 g3 g5 g6 => ends_up hf (h0 := h0) S0 (env := e) he g1 g3 g5 g6
 simp [zZh.r4, zZh.r5, zZh.r6, he0, g20, hw]
 rw [← kBlock]
 refine kNormal (U _ ?_ ?_ ?_ ?_ ?_) ?_
 ·simp [he0]
 ·simp [g1]
 ·simp [g3]
 ·simp [he0]
 ·simp [he0]
 rintro ⟨e1, mk, H1⟩ ⟨he1, k1, k3, k19, k20, hmk, k, st1, o, S1, W1, ho1, ho0, k6, hch, hnd, hst1, hstop⟩
 simp only at he1 k1 k3 k19 k20 hmk S1 W1 k6
 obtain rfl := hmk
 simp [g20] at k19 k20
 obtain ⟨x, hx⟩ : ∃ x, x = upN f k h0 := ⟨_, rfl⟩
 rw [← hx] at k6 hstop
 have hEx : E f x ↔ E f h0 := by rw [hx]; exact E_up hch
 have hWi : ∀ y ∈ way f h0 k, is_ f y = true := fun y hy => by
  obtain ⟨j, hj, rfl⟩ := kZb.1 hy
  exact hch j hj
 have hWE : ∀ y ∈ way f h0 k, (E f y ↔ E f x) := fun y hy => by
  obtain ⟨j, hj, rfl⟩ := kZb.1 hy
  rw [hEx]
  exact E_up fun i hi => hch i (by omega)
 have hkl : (way f h0 k).length ≤ 4096 := by
  have := php hnd hWi
  omega
 have hend : ∃ w : Int, w = (if is_ f x && stv st1 x != 2 then 3 else 2) ∧ ((w = 2 ∧ E f x) ∨ (w = 3 ∧ ¬ E f x)) := by
  refine ⟨_, rfl, ?_⟩
  cases hix : is_ f x with
  | false => exact .inl ⟨by simp, E_out hix⟩
  | true =>
   rw [hix, Bool.true_and] at hstop
   have hne : stv st1 x ≠ 0 := by simpa using hstop
   by_cases hin : x ∈ way f h0 k
   ·have h1 := hst1 x hix
    rw [if_pos hin] at h1
    rw [h1]
    refine .inr ⟨by simp, ?_⟩
    rw [hx]
    exact back_notE hch (hx ▸ hin)
   ·have h1 := hst1 x hix
    rw [if_neg hin] at h1
    rcases hG.1 x hix with h | ⟨h, hE⟩ | ⟨h, hE⟩
    ·exact absurd (h1.trans h) hne
    ·exact .inl ⟨by rw [h1, h]; simp, hE⟩
    ·exact .inr ⟨by rw [h1, h]; simp, hE⟩
 obtain ⟨w, hw1, hw2⟩ := hend
 have T := fun (e : List V) V0 he g1 g3 g7 => ends_tell hf (W := way f h0 k) hWi hkl (o := o) S1 (w := w) (env := e) V0 ho1 he g1 g3 g7
 have hfin : ∀ st, (∀ y, is_ f y = true → stv st y = if y ∈ way f h0 k then w else stv st1 y) → Known f st (i + 1) := by
  intro st hst
  have hval : ∀ y, is_ f y = true → stv st y = if y ∈ way f h0 k then w else stv st0 y := by
   intro y hy
   rw [hst y hy, hst1 y hy]
   by_cases hin : y ∈ way f h0 k <;> simp [hin]
  refine ⟨fun y hy => ?_, fun y hy1 hy2 => ?_⟩
  ·have h1 := hval y hy
   by_cases hin : y ∈ way f h0 k
   ·rw [if_pos hin] at h1
    rcases hw2 with ⟨h, hE⟩ | ⟨h, hE⟩
    ·exact .inr (.inl ⟨by rw [h1, h], (hWE y hin).2 hE⟩)
    ·exact .inr (.inr ⟨by rw [h1, h], fun hh => hE ((hWE y hin).1 hh)⟩)
   ·rw [if_neg hin] at h1
    rcases hG.1 y hy with h | ⟨h, hE⟩ | ⟨h, hE⟩
    ·exact .inl (h1.trans h)
    ·exact .inr (.inl ⟨h1.trans h, hE⟩)
    ·exact .inr (.inr ⟨h1.trans h, hE⟩)
  ·have hy : is_ f y = true := wZt.2 (by omega)
   rw [hval y hy]
   by_cases hin : y ∈ way f h0 k
   ·rw [if_pos hin]
    rcases hw2 with ⟨h, _⟩ | ⟨h, _⟩ <;> omega
   ·rw [if_neg hin]
    by_cases hyi : y ≤ i
    ·exact hG.2 y hy1 hyi
    ·have hyh : y = h0 := by omega
     subst hyh
     cases k with
     | succ k => exact absurd (kZb.2 ⟨0, by omega, rfl⟩) hin
     | zero =>
      have hx0 : x = y := hx
      rw [hx0, hi0, Bool.true_and] at hstop
      have h1 := hst1 y hi0
      rw [if_neg hin] at h1
      rw [← h1]
      simpa using hstop
 simp [zZh.r12, he1, k1, k3, k19, k20]
 refine kNormalO (ends_r13 (x := x) (by omega) S1 ?_ ?_ ?_ ?_) ?_
 ·simp [he1]
 ·simp [k1]
 ·simp [k3]
 ·simp [k6]
 rintro ⟨e2, mk, H2⟩ ⟨he2, j1, j3, j5, j7, j19, j20, hmk, hheap, j70⟩
 simp only at he2 j1 j3 j5 j7 j19 j20 hmk hheap j70
 obtain rfl := hmk
 obtain rfl := hheap
 simp [he1, k19, k20] at j5 j7 j19 j20
 have last : ∀ (e : List V), e.length = 101 → eget e 1 = .ptr 0 0 → eget e 3 = stV (f.length + 1) → eget e 5 = eget e1 5 → eget e 7 = .int .i64 w → eget e 19 = eget env 19 → eget e 20 = .int .i64 i →
   WK (callW Φ) none (fun e s' => e = .normal ∧ s'.env.length = 101 ∧ eget s'.env 1 = .ptr 0 0 ∧ eget s'.env 3 = stV (f.length + 1) ∧ eget s'.env 19 = eget env 19 ∧ eget s'.env 20 = .int .i64 i ∧ s'.marks = [] ∧
   ∃ st, Es f st s'.heap ∧ Known f st (i + 1)) [.c (xS zZh.r15 (.block 4 (.loop zZh.b20))), .b 1] { env := e, marks := [], heap := H2 } := by
  intro e he g1 g3 g5 g7 g19 g20
  refine kNormal (T e ?_ he g1 g3 g7) ?_
  ·rw [g5]; exact W1
  rintro ⟨e3, mk, H3⟩ ⟨he3, n1, n3, n19, n20, hmk, st, S3, hst⟩
  simp only at he3 n1 n3 n19 n20 hmk S3
  obtain rfl := hmk
  simp [he3, n1, n3, n19, n20, g19, g20]
  exact ⟨st, S3, hfin st hst⟩
 simp only [kSeq, kRegion, kBlock] at last
 cases hc : (is_ f x && stv st1 x != 2) with
 | false =>
  rw [hc] at j70 hw1
  simp only [Bool.false_eq_true, if_false] at hw1
  simp [j70]
  refine last _ ?_ ?_ ?_ ?_ ?_ ?_ ?_ <;> simp [he2, j1, j3, j5, j7, j19, j20, hw1]
 | true =>
  rw [hc] at j70 hw1
  simp only [if_true] at hw1
  simp [j70, zZh.r14, he2]
  refine last _ ?_ ?_ ?_ ?_ ?_ ?_ ?_ <;> simp [he2, j1, j3, j5, j7, j19, j20, hw1]
end Go.Proofs.It
