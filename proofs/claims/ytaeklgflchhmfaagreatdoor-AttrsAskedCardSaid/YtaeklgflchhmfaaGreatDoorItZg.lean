/- Right forests, plain: going up, and all within. Faults, siblings, ends of kids. No conditions. -/
import Derived.Test.YtaeklgflchhmfaaGreatDoorItZa
import Derived.Test.YtaeklgflchhmfaaGreatDoorItW
import Derived.Test.YtaeklgflchhmfaaGreatDoorItZe
import Derived.Test.YtaeklgflchhmfaaGreatDoorItO
set_option maxHeartbeats 16000000
set_option maxRecDepth 100000
set_option linter.unusedVariables false
set_option linter.unusedSimpArgs false
set_option linter.unusedSectionVars false
namespace Go.Proofs.It
open Go Go.Ev
abbrev par (f : List Nd) (h : Int) : Int := (at_ f h).parent
abbrev kds (f : List Nd) (h : Int) : List Int := (at_ f h).kids
theorem vZC {f : List Nd} {x : Int} : is_ f x = true ↔ 1 ≤ x ∧ x ≤ f.length := by simp [is_]
theorem kZn (f : List Nd) : ∀ (l : List Nd) (i j : Nat) (n : Nd), rightFrom f i l = true → l[j]? = some n → nodeOk f (i + j) n = true
 | [], i, j, n, _, h => by simp at h
 | m :: l, i, 0, n, h1, h => by
  simp only [rightFrom, Bool.and_eq_true] at h1
  simp at h
  rw [← h]
  exact h1.1
 | m :: l, i, j + 1, n, h1, h => by
  simp only [rightFrom, Bool.and_eq_true] at h1
  have := kZn f l (i + 1) j n h1.2 (by simpa using h)
  have e : i + 1 + j = i + (j + 1) := by omega
  rwa [e] at this
theorem right_len {f : List Nd} (R : right f = true) : f.length ≤ 4096 := by
 simp only [right, Bool.and_eq_true, decide_eq_true_eq] at R
 exact R.1
theorem wZF {f : List Nd} (R : right f = true) {h : Int} (hi : is_ f h = true) : made (at_ f h) = true ∧ links f h = true ∧ ring f h = false := by
 have hi' := vZC.1 hi
 simp only [right, Bool.and_eq_true] at R
 have := kZn f f 0 (h - 1).toNat _ R.2 (at_in hi'.1 hi'.2)
 simp only [nodeOk, Bool.and_eq_true, Bool.not_eq_true'] at this
 have e : ((0 + (h - 1).toNat + 1 : Nat) : Int) = h := by omega
 rw [e] at this
 exact ⟨this.1.1, this.1.2, this.2⟩
theorem right_par {f : List Nd} (R : right f = true) {h : Int} (hi : is_ f h = true) : par f h = 0 ∨ (is_ f (par f h) = true ∧ h ∈ kds f (par f h)) := by
 have := (wZF R hi).2.1
 simp only [links, Bool.and_eq_true, linkP, Bool.or_eq_true, beq_iff_eq] at this
 rcases this.1.1.1.1.2 with h | ⟨h1, h2⟩
 ·exact .inl h
 ·refine .inr ⟨h1, ?_⟩
  rw [cnt_count] at h2
  exact List.count_pos_iff.1 (by rw [h2]; decide)
theorem wZg {f : List Nd} (R : right f = true) {h : Int} (hi : is_ f h = true) {k : Int} (hk : k ∈ kds f h) : is_ f k = true ∧ par f k = h := by
 have := (wZF R hi).2.1
 simp only [links, Bool.and_eq_true, linkK, List.all_eq_true] at this
 have := this.1.1.1.1.1 k hk
 simp only [kidOk, Bool.and_eq_true, beq_iff_eq] at this
 exact ⟨this.1.1.1, this.1.1.2⟩
theorem right_nodup {f : List Nd} (R : right f = true) {h : Int} (hi : is_ f h = true) : (kds f h).Nodup := by
 have := (wZF R hi).2.1
 simp only [links, Bool.and_eq_true] at this
 have h1 := this.1.1.1.1.1
 rw [← kids_eq, jZj] at h1
 exact h1.2
theorem right_shadow {f : List Nd} (R : right f = true) {h : Int} (hi : is_ f h = true) (hk : (at_ f h).kind = 12) : par f h = 0 := by
 have := (wZF R hi).1
 simp only [made, Bool.and_eq_true, mdE, hk, Bool.or_eq_true, beq_iff_eq] at this
 simpa using this.2
theorem right_known {f : List Nd} (R : right f = true) {h : Int} (hi : is_ f h = true) : known (at_ f h).kind = true := by
 have := (wZF R hi).1
 simp only [made, mdA, Bool.and_eq_true] at this
 exact this.1.1.1.1.1.1.1.1.1
theorem known_bounds {k : Int} (h : known k = true) : 1 ≤ k ∧ k ≤ 12 := by
 simp only [known, hasData, hasKids, Bool.or_eq_true, beq_iff_eq] at h
 omega
inductive Dep (f : List Nd) : Int → Nat → Prop where
 | nil : Dep f 0 0
 | up {h : Int} {k : Nat} : is_ f h = true → Dep f (par f h) k → Dep f h (k + 1)
theorem is0 (f : List Nd) : is_ f 0 = false := by simp [is_]
theorem Dep.uniq {f : List Nd} {h : Int} {a : Nat} (ha : Dep f h a) : ∀ {b : Nat}, Dep f h b → a = b := by
 induction ha with
 | nil =>
  intro b hb
  cases hb with
  | nil => rfl
  | up h _ => rw [is0] at h; cases h
 | up hi _ ih =>
  intro b hb
  cases hb with
  | nil => rw [is0] at hi; cases hi
  | up _ hb => rw [ih hb]
theorem Dep.pos {f : List Nd} {h : Int} {d : Nat} (hd : Dep f h d) (hi : is_ f h = true) : ∃ k, d = k + 1 ∧ Dep f (par f h) k := by
 cases hd with
 | nil => rw [is0] at hi; cases hi
 | up _ hk => exact ⟨_, rfl, hk⟩
theorem dep_go {f : List Nd} (R : right f = true) : ∀ (m : Nat) (h : Int), (h = 0 ∨ is_ f h = true) → ringGo f h m = false → ∃ k, k + 1 ≤ m ∧ Dep f h k
 | 0, h, _, hr => by cases hr
 | m + 1, h, hh, hr => by
  rcases hh with rfl | hi
  ·exact ⟨0, by omega, .nil⟩
  ·rw [wZG, hi, Bool.true_and] at hr
   have hm : m ≠ 0 := by rintro rfl; cases hr
   by_cases hk : (at_ f h).kind = 12
   ·have h0 := right_shadow R hi hk
    exact ⟨1, by omega, .up hi (by rw [h0]; exact .nil)⟩
   ·have ha : above (at_ f h) = par f h := by
     have hb : ((at_ f h).kind == 12) = false := by simpa using hk
     simp only [above, hb, Bool.false_eq_true, if_false]
    rw [ha] at hr
    have hp : par f h = 0 ∨ is_ f (par f h) = true := by
     rcases right_par R hi with h | h
     ·exact .inl h
     ·exact .inr h.1
    obtain ⟨k, hk, hd⟩ := dep_go R m _ hp hr
    exact ⟨k + 1, by omega, .up hi hd⟩
theorem dep_ex {f : List Nd} (R : right f = true) {h : Int} (hi : is_ f h = true) : ∃ k, k ≤ f.length ∧ Dep f h k := by
 obtain ⟨k, h1, h2⟩ := dep_go R (f.length + 1) h (.inr hi) (wZF R hi).2.2
 exact ⟨k, by omega, h2⟩
theorem dep_le {f : List Nd} (R : right f = true) {h : Int} (hi : is_ f h = true) {d : Nat} (hd : Dep f h d) : d ≤ f.length := by
 obtain ⟨k, h1, h2⟩ := dep_ex R hi
 rw [hd.uniq h2]
 exact h1
theorem wZB {f : List Nd} (R : right f = true) {h : Int} (hi : is_ f h = true) {d : Nat} (hd : Dep f h d) {k : Int} (hk : k ∈ kds f h) : Dep f k (d + 1) := by
 obtain ⟨h1, h2⟩ := wZg R hi hk
 exact .up h1 (by rw [h2]; exact hd)
def ups (f : List Nd) : Nat → Int → List Int
 | 0, _ => []
 | k + 1, h => h :: ups f k (par f h)
theorem ups_dep {f : List Nd} {h : Int} {d : Nat} (hd : Dep f h d) : ∀ x ∈ ups f d h, is_ f x = true ∧ ∃ e, 0 < e ∧ e ≤ d ∧ Dep f x e := by
 induction hd with
 | nil => intro x hx; cases hx
 | up hi hk ih =>
  intro x hx
  rcases List.mem_cons.1 hx with rfl | hx
  ·exact ⟨hi, _, by omega, Nat.le_refl _, .up hi hk⟩
  ·obtain ⟨h1, e, h2, h3, h4⟩ := ih x hx
   exact ⟨h1, e, h2, by omega, h4⟩
theorem ups_uniq {f : List Nd} {h : Int} {d : Nat} (hd : Dep f h d) : ∀ x ∈ ups f d h, ∀ y ∈ ups f d h, ∀ e, Dep f x e → Dep f y e → x = y := by
 induction hd with
 | nil => intro x hx; cases hx
 | @up h k hi hk ih =>
  intro x hx y hy e hxe hye
  have key : ∀ z ∈ ups f k (par f h), ¬ Dep f z (k + 1) := fun z hz hzd => by
   obtain ⟨_, e', _, h3, h4⟩ := ups_dep hk z hz
   have := h4.uniq hzd
   omega
  rcases List.mem_cons.1 hx with rfl | hx
  ·rcases List.mem_cons.1 hy with rfl | hy
   ·rfl
   ·have := hxe.uniq (.up hi hk)
    exact absurd (this ▸ hye) (key y hy)
  ·rcases List.mem_cons.1 hy with rfl | hy
   ·have := hye.uniq (.up hi hk)
    exact absurd (this ▸ hxe) (key x hx)
   ·exact ih x hx y hy e hxe hye
def allF (f : List Nd) : Nat → Int → List Int
 | 0, h => [h]
 | r + 1, h => h :: ((kds f h).map (allF f r)).flatten
theorem allF_head (f : List Nd) : ∀ (r : Nat) (h : Int), h ∈ allF f r h
 | 0, h => by simp [allF]
 | r + 1, h => by simp [allF]
theorem kds_nil {f : List Nd} (R : right f = true) {h : Int} (hi : is_ f h = true) {d : Nat} (hd : Dep f h d) (hr : f.length ≤ d) : kds f h = [] := by
 cases hk : kds f h with
 | nil => rfl
 | cons k l =>
  have hm : k ∈ kds f h := by rw [hk]; simp
  have := dep_le R (wZg R hi hm).1 (wZB R hi hd hm)
  omega
theorem kZU {f : List Nd} (R : right f = true) : ∀ (r : Nat) (h : Int) (d : Nat), is_ f h = true → Dep f h d → ∀ y ∈ allF f r h, is_ f y = true ∧ ∃ e, d ≤ e ∧ Dep f y e ∧ h ∈ ups f e y
 | 0, h, d, hi, hd, y, hy => by
  simp only [allF, List.mem_singleton] at hy
  subst hy
  refine ⟨hi, d, Nat.le_refl _, hd, ?_⟩
  obtain ⟨k, rfl, _⟩ := hd.pos hi
  simp [ups]
 | r + 1, h, d, hi, hd, y, hy => by
  simp only [allF, List.mem_cons, List.mem_flatten, List.mem_map] at hy
  rcases hy with rfl | ⟨_, ⟨k, hk, rfl⟩, hy⟩
  ·refine ⟨hi, d, Nat.le_refl _, hd, ?_⟩
   obtain ⟨k, rfl, _⟩ := hd.pos hi
   simp [ups]
  ·obtain ⟨hki, hkp⟩ := wZg R hi hk
   obtain ⟨h1, e, h2, h3, h4⟩ := kZU R r k (d + 1) hki (wZB R hi hd hk) y hy
   refine ⟨h1, e, by omega, h3, ?_⟩
   have key : ∀ (e : Nat) (y : Int), Dep f y e → k ∈ ups f e y → h ∈ ups f e y := by
    intro e y hde
    induction hde with
    | nil => intro hm; cases hm
    | @up y e hy hye ih =>
     intro hm
     rcases List.mem_cons.1 hm with rfl | hm
     ·have hye' := hye
      rw [hkp] at hye'
      obtain ⟨c, rfl, _⟩ := hye'.pos hi
      simp [ups, hkp]
     ·exact List.mem_cons_of_mem _ (ih hm)
   exact key e y h3 h4
theorem allF_kid {f : List Nd} (R : right f = true) : ∀ (r : Nat) (h : Int) (d : Nat), is_ f h = true → Dep f h d → f.length ≤ d + r → ∀ y ∈ allF f r h, ∀ k ∈ kds f y, k ∈ allF f r h
 | 0, h, d, hi, hd, hr, y, hy, k, hk => by
  simp only [allF, List.mem_singleton] at hy
  subst hy
  rw [kds_nil R hi hd (by omega)] at hk
  cases hk
 | r + 1, h, d, hi, hd, hr, y, hy, k, hk => by
  simp only [allF, List.mem_cons, List.mem_flatten, List.mem_map] at hy ⊢
  rcases hy with rfl | ⟨_, ⟨c, hc, rfl⟩, hy⟩
  ·exact .inr ⟨_, ⟨k, hk, rfl⟩, allF_head f r k⟩
  ·have hci := (wZg R hi hc).1
   exact .inr ⟨_, ⟨c, hc, rfl⟩, allF_kid R r c (d + 1) hci (wZB R hi hd hc) (by omega) y hy k hk⟩
theorem mem_allF {f : List Nd} (R : right f = true) {r : Nat} {h : Int} {d : Nat} (hi : is_ f h = true) (hd : Dep f h d) (hr : f.length ≤ d + r) {x : Int} {e : Nat} (hx : Dep f x e) (hm : h ∈ ups f e x) : x ∈ allF f r h := by
 induction hx with
 | nil => cases hm
 | @up x e hxi hxe ih =>
  rcases List.mem_cons.1 hm with rfl | hm
  ·exact allF_head f r _
  ·have := ih hm
   rcases right_par R hxi with h0 | ⟨h1, h2⟩
   ·rw [h0] at hxe hm
    cases hxe with
    | nil => cases hm
    | up h _ => rw [is0] at h; cases h
   ·exact allF_kid R r h d hi hd hr _ this _ h2
theorem xZJ {f : List Nd} (R : right f = true) : ∀ (r : Nat) (h : Int) (d : Nat), is_ f h = true → Dep f h d → (allF f r h).Nodup
 | 0, h, d, hi, hd => by simp [allF]
 | r + 1, h, d, hi, hd => by
  simp only [allF, List.nodup_cons]
  constructor
  ·intro hm
   simp only [List.mem_flatten, List.mem_map] at hm
   obtain ⟨_, ⟨k, hk, rfl⟩, hm⟩ := hm
   obtain ⟨hki, _⟩ := wZg R hi hk
   obtain ⟨_, e, h2, h3, _⟩ := kZU R r k (d + 1) hki (wZB R hi hd hk) h hm
   have := hd.uniq h3
   omega
  ·have hn := right_nodup R hi
   have go : ∀ l : List Int, l.Nodup → (∀ k ∈ l, k ∈ kds f h) → ((l.map (allF f r)).flatten).Nodup := by
    intro l
    induction l with
    | nil => intro _ _; simp
    | cons k l ih =>
     intro hnd hsub
     simp only [List.map_cons, List.flatten_cons, List.nodup_append]
     rw [List.nodup_cons] at hnd
     have hk := hsub k (by simp)
     obtain ⟨hki, _⟩ := wZg R hi hk
     refine ⟨xZJ R r k (d + 1) hki (wZB R hi hd hk), ih hnd.2 fun c hc => hsub c (by simp [hc]), ?_⟩
     rintro a ha b hb rfl
     simp only [List.mem_flatten, List.mem_map] at hb
     obtain ⟨_, ⟨c, hc, rfl⟩, hb⟩ := hb
     have hcm := hsub c (by simp [hc])
     obtain ⟨hci, _⟩ := wZg R hi hcm
     obtain ⟨_, e, h2, h3, h4⟩ := kZU R r k (d + 1) hki (wZB R hi hd hk) a ha
     obtain ⟨_, e', h2', h3', h4'⟩ := kZU R r c (d + 1) hci (wZB R hi hd hcm) a hb
     have := h3.uniq h3'
     subst this
     have := ups_uniq h3 k h4 c h4' (d + 1) (wZB R hi hd hk) (wZB R hi hd hcm)
     exact hnd.1 (this ▸ hc)
   exact go _ hn fun k hk => hk
theorem allF_len {f : List Nd} (R : right f = true) (r : Nat) {h : Int} (hi : is_ f h = true) : (allF f r h).length ≤ f.length := by
 obtain ⟨d, _, hd⟩ := dep_ex R hi
 exact php (xZJ R r h d hi hd) fun x hx => (kZU R r h d hi hd x hx).1
open Go Go.Ev
theorem row_arg {fn : FuncId} {cf : Cf} (hf : Φ fn = some cf) (hp : cf.pure = true) {args : List V} (ha : args.all flat2 = true) {l : List Int} {r : V} (hs : ∀ H, callW Φ (.fn (.func fn) [] []) (args ++ [eI l]) H = some (r, H)) (H : Heap) :
  callW Φ (.fn (.func fn) [] []) (args ++ [.sl H.length 0 0 l.length]) (H ++ [Ob.row 1 (l.map cI) 0 true]) = some (r, H ++ [Ob.row 1 (l.map cI) 0 false]) := by
 have hr : (H ++ [Ob.row 1 (l.map cI) 0 true])[H.length]? = some (.row 1 (l.map cI) 0 true) := by simp
 have hz := fz_sl (d := 62) (off := 0) (len := l.length) hr (by simp) (fun e he => by
  obtain ⟨s, _, rfl⟩ := List.mem_map.1 he
  rfl)
 have e1 : ((l.map cI).drop 0).take l.length = l.map cI := by rw [List.drop_zero]; exact List.take_of_length_le (by simp)
 have e2 : (H ++ [Ob.row 1 (l.map cI) 0 true]).set H.length (Ob.row 1 (l.map cI) 0 false) = H ++ [Ob.row 1 (l.map cI) 0 false] := by simp [List.set_append]
 rw [e1, e2] at hz
 have hz' : fz fzDepth (H ++ [Ob.row 1 (l.map cI) 0 true]) (.sl H.length 0 0 l.length) = some (.arr (l.map cI), H ++ [Ob.row 1 (l.map cI) 0 false]) := hz
 have happ : ∀ (l1 : List V) (h : Heap), l1.all flat2 = true → ∀ (x y : V) (h' : Heap), fz fzDepth h x = some (y, h') → mapH (fz fzDepth) h (l1 ++ [x]) = some (l1 ++ [y], h') := by
  intro l1
  induction l1 with
  | nil => intro h _ x y h' hx; simp only [List.nil_append, mapH, hx]
  | cons a l1 ih =>
   intro h hall x y h' hx
   simp only [List.all_cons, Bool.and_eq_true] at hall
   simp only [List.cons_append, mapH, fz_flat2 hall.1, ih h hall.2 x y h' hx]
 refine jZV (Φ := Φ) hf hp ?_ (happ args _ ha _ _ _ hz') (hs [])
 simp only [List.all_append, ha, Bool.true_and]
 rfl
def inF (f : List Nd) : List Int → Bool
 | [] => true
 | x :: l => is_ f x && inF f l
def faultL (f : List Nd) (l : List Int) : Int := if right f then (if inF f l then 0 else 2) else 5
theorem flatF (f : List Nd) : flat2 (eF f) = true := by simp [flat2, flat, eF, scal]
theorem xZr (f : List Nd) (z : Sz f) (l : List Int) (hlen : l.length < 2 ^ 50) (H : Heap) : callW Φ zZF [eF f, eI l] H = some (.int .i64 (faultL f l), H) := by
 have : ∃ hh, evBodyW (callW Φ) zZF.c [eF f, eI l] [] = some (.int .i64 (faultL f l), hh) := by
  have hlf := z.len
  obtain ⟨K, hK⟩ : ∃ K : Heap, K = [Ob.cells [.arr (f.map cN)]] := ⟨_, rfl⟩
  have hb : evBox [] [.arr (f.map cN)] = some (.ptr 0 0, K) := by rw [hK]; simp [evBox, V.isCell]
  have c0 : cellsAt K (.ptr 0 0) = some [.arr (f.map cN)] := by rw [hK]; rfl
  obtain ⟨n, hC⟩ := jZ4 f z K
  refine qZ3 (Nat.le_of_ble_eq_true rfl) (fun env he h0 => ?_)
  have g0 := h0 0 (by simp)
  have g1 := h0 1 (by simp)
  change eget env 0 = .agg [.arr (f.map cN)] at g0
  change eget env 1 = .arr (l.map cI) at g1
  clear h0
  simp [zZF.c] at he
  have hcc : (V.agg [V.arr (f.map cN)]).cells = [.arr (f.map cN)] := rfl
  simp only [eF] at hC
  cases hr : right f with
  | false =>
   have hw : whyR f = 5 := by simp [whyR, hr]
   have hF : faultL f l = 5 := by simp [faultL, hr]
   rw [hw] at hC
   rw [hF]
   simp [zZF.c, zZF.r0, zZF.r1, zZF.r2, zZF.r3, g0, he, hcc, hb, c0, hC, evExt, ofCells]
  | true =>
   have hw : whyR f = 0 := by simp [whyR, hr]
   have hF : faultL f l = if inF f l then 0 else 2 := by simp [faultL, hr]
   rw [hw] at hC
   rw [hF]
   simp [zZF.c, zZF.r0, zZF.r1, zZF.r2, zZF.r4, g0, g1, he, hcc, hb, c0, hC, evExt, ofCells]
   refine kLoop (fun m s => ∃ i : Nat, m = l.length - i ∧ i ≤ l.length ∧ s.env.length = 33 ∧ eget s.env 2 = .ptr 0 0 ∧ eget s.env 17 = .arr (l.map cI) ∧ eget s.env 18 = .int .i64 l.length ∧ eget s.env 19 = .int .i64 i ∧ s.marks = [] ∧ s.heap = K ∧ inF f l = inF f (l.drop i)) l.length ⟨0, by simp [he, g1]⟩ ?_
   rintro m ⟨e, mk, hp⟩ ⟨i, rfl, hi, he, k2, k17, k18, k19, hm, hh, hat⟩
   simp only at he k2 k17 k18 k19 hm hh
   obtain rfl := hm
   obtain rfl := hh
   by_cases hlt : i < l.length
   ·obtain ⟨x, hx⟩ : ∃ x, l[i]? = some x := ⟨_, List.getElem?_eq_getElem hlt⟩
    have hw : IntKind.i64.wrap ((i : Int) + 1) = ((i + 1 : Nat) : Int) := by rw [Ev.wrap64] <;> omega
    have ha1 := qZU (h := hp) (k := .i64) wZS hx
    rw [vZI hx] at hat
    simp only [inF] at hat
    by_cases h1 : x < 1
    ·have hi : is_ f x = false := by rw [← Bool.not_eq_true, vZC]; omega
     rw [hi, Bool.false_and] at hat
     rw [hat]
     simp [zZF.b10, zZF.r5, zZF.r6, zZF.r7, zZF.r8, k2, k17, k18, k19, he, hlt, ha1, cellI, h1, evPick]
    ·by_cases h2 : (f.length : Int) < x
     ·have hi : is_ f x = false := by rw [← Bool.not_eq_true, vZC]; omega
      rw [hi, Bool.false_and] at hat
      rw [hat]
      simp [zZF.b10, zZF.r5, zZF.r6, zZF.r7, zZF.r8, k2, k17, k18, k19, he, hlt, ha1, cellI, h1, h2, evPick, faddrP, c0]
     ·have hi : is_ f x = true := by rw [vZC]; omega
      rw [hi, Bool.true_and] at hat
      simp [zZF.b10, zZF.r5, zZF.r6, zZF.r7, zZF.r9, k2, k17, k18, k19, he, hlt, ha1, cellI, h1, h2, evPick, faddrP, c0]
      exact ⟨l.length - (i + 1), by omega, i + 1, rfl, by omega, by simpa using hw, by simpa using hat⟩
   ·have : i = l.length := by omega
    subst this
    rw [List.drop_length] at hat
    simp only [inF] at hat
    rw [hat]
    simp [zZF.b10, zZF.r5, zZF.r11, k18, k19, he]
 obtain ⟨h', hb⟩ := this
 exact zZ4 (h := H) zZF.Φ rfl (args := [eF f, eI l]) rfl hb rfl
theorem xZF (f : List Nd) (z : Sz f) (l : List Int) (hlen : l.length < 2 ^ 50) (H : Heap) : callW Φ zZF [eF f, .sl H.length 0 0 l.length] (H ++ [Ob.row 1 (l.map cI) 0 true]) = some (.int .i64 (faultL f l), H ++ [Ob.row 1 (l.map cI) 0 false]) :=
 row_arg zZF.Φ rfl (args := [eF f]) (by simp [flatF]) (xZr f z l hlen) H
theorem kZD (f : List Nd) (z : Sz f) (l : List Int) (hlen : l.length < 2 ^ 50) (H : Heap) : callW Φ zZE [eF f, eI l] H = some (.int .i64 (faultL f l), H) := by
 have : ∃ hh, evBodyW (callW Φ) zZE.c [eF f, eI l] [] = some (.int .i64 (faultL f l), hh) := by
  have hlf := z.len
  obtain ⟨K, hK⟩ : ∃ K : Heap, K = [Ob.cells [.arr (f.map cN)]] := ⟨_, rfl⟩
  have hb : evBox [] [.arr (f.map cN)] = some (.ptr 0 0, K) := by rw [hK]; simp [evBox, V.isCell]
  have c0 : cellsAt K (.ptr 0 0) = some [.arr (f.map cN)] := by rw [hK]; rfl
  have hC := kZz f z K
  refine qZ3 (Nat.le_of_ble_eq_true rfl) (fun env he h0 => ?_)
  have g0 := h0 0 (by simp)
  have g1 := h0 1 (by simp)
  change eget env 0 = .agg [.arr (f.map cN)] at g0
  change eget env 1 = .arr (l.map cI) at g1
  clear h0
  simp [zZE.c] at he
  have hcc : (V.agg [V.arr (f.map cN)]).cells = [.arr (f.map cN)] := rfl
  simp only [eF] at hC
  cases hr : right f with
  | false =>
   have hF : faultL f l = 5 := by simp [faultL, hr]
   rw [hr] at hC
   rw [hF]
   simp [zZE.c, zZE.r0, zZE.r1, zZE.r2, g0, he, hcc, hb, c0, hC, ofCells]
  | true =>
   have hF : faultL f l = if inF f l then 0 else 2 := by simp [faultL, hr]
   rw [hr] at hC
   rw [hF]
   simp [zZE.c, zZE.r0, zZE.r1, zZE.r3, g0, g1, he, hcc, hb, c0, hC, ofCells]
   refine kLoop (fun m s => ∃ i : Nat, m = l.length - i ∧ i ≤ l.length ∧ s.env.length = 30 ∧ eget s.env 1 = .arr (l.map cI) ∧ eget s.env 2 = .ptr 0 0 ∧ eget s.env 5 = .int .i64 i ∧ s.marks = [] ∧ s.heap = K ∧ inF f l = inF f (l.drop i)) l.length ⟨0, by simp [he, g1]⟩ ?_
   rintro m ⟨e, mk, hp⟩ ⟨i, rfl, hi, he, k1, k2, k5, hm, hh, hat⟩
   simp only at he k1 k2 k5 hm hh
   obtain rfl := hm
   obtain rfl := hh
   by_cases hlt : i < l.length
   ·obtain ⟨x, hx⟩ : ∃ x, l[i]? = some x := ⟨_, List.getElem?_eq_getElem hlt⟩
    have hw : IntKind.i64.wrap ((i : Int) + 1) = ((i + 1 : Nat) : Int) := by rw [Ev.wrap64] <;> omega
    have ha1 := qZU (h := hp) (k := .i64) wZS hx
    rw [vZI hx] at hat
    simp only [inF] at hat
    simp [zZE.b8, zZE.r4, k1, k2, k5, he, hlt]
    refine kDraw1 zZE.r5.ord ?_
    by_cases h1 : x < 1
    ·have hi : is_ f x = false := by rw [← Bool.not_eq_true, vZC]; omega
     rw [hi, Bool.false_and] at hat
     rw [hat]
     simp [zZE.r5, zZE.r6, List.filterMap_cons, k1, k2, k5, he, hlt, ha1, cellI, h1, evPick]
    ·by_cases h2 : (f.length : Int) < x
     ·have hi : is_ f x = false := by rw [← Bool.not_eq_true, vZC]; omega
      rw [hi, Bool.false_and] at hat
      rw [hat]
      simp [zZE.r5, zZE.r6, List.filterMap_cons, k1, k2, k5, he, hlt, ha1, cellI, h1, h2, evPick, faddrP, c0]
     ·have hi : is_ f x = true := by rw [vZC]; omega
      rw [hi, Bool.true_and] at hat
      simp [zZE.r5, zZE.r7, List.filterMap_cons, k1, k2, k5, he, hlt, ha1, cellI, h1, h2, evPick, faddrP, c0]
      exact ⟨l.length - (i + 1), by omega, i + 1, rfl, by omega, by simpa using hw, by simpa using hat⟩
   ·have : i = l.length := by omega
    subst this
    rw [List.drop_length] at hat
    simp only [inF] at hat
    rw [hat]
    simp [zZE.b8, zZE.r4, zZE.r9, k1, k5, he]
 obtain ⟨h', hb⟩ := this
 exact zZ4 (h := H) zZE.Φ rfl (args := [eF f, eI l]) rfl hb rfl
theorem xZn (f : List Nd) (z : Sz f) (l : List Int) (hlen : l.length < 2 ^ 50) (H : Heap) : callW Φ zZE [eF f, .sl H.length 0 0 l.length] (H ++ [Ob.row 1 (l.map cI) 0 true]) = some (.int .i64 (faultL f l), H ++ [Ob.row 1 (l.map cI) 0 false]) :=
 row_arg zZE.Φ rfl (args := [eF f]) (by simp [flatF]) (kZD f z l hlen) H
def besideI (f : List Nd) (h by_ : Int) : Int :=
 if par f h = 0 then 0 else
  if place (kds f (par f h)) h 0 + by_ < 0 ∨ (kds f (par f h)).length ≤ place (kds f (par f h)) h 0 + by_ then 0
  else (kds f (par f h)).getD (place (kds f (par f h)) h 0 + by_).toNat 0
theorem place_bounds : ∀ (l : List Int) (h : Int) (i : Nat), -1 ≤ place l h i ∧ place l h i < i + l.length
 | [], h, i => by simp [place]; omega
 | x :: l, h, i => by
  have := place_bounds l h (i + 1)
  simp only [place, List.length_cons]
  split <;> omega
theorem fieldN8 (n : Nd) (H : Heap) : evField H 8 none (.agg (cN n)) = some (.int .i64 n.parent, H) := rfl
theorem fieldN9 (n : Nd) (H : Heap) : evField H 9 none (.agg (cN n)) = some (.arr (n.kids.map cI), H) := rfl
theorem fieldN0 (n : Nd) (H : Heap) : evField H 0 none (.agg (cN n)) = some (.int .u8 n.kind, H) := rfl
def endI (f : List Nd) (h : Int) (last : Bool) : Int := if last then (kds f h).getLastD 0 else (kds f h).headD 0
end Go.Proofs.It
