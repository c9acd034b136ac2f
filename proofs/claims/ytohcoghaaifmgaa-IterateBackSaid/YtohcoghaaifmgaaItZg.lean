/- Right forests, plain: going up, and all within. No conditions. -/
import Derived.Test.YtohcoghaaifmgaaItZa
import Derived.Test.YtohcoghaaifmgaaItX
set_option maxHeartbeats 16000000
set_option maxRecDepth 100000
set_option linter.unusedVariables false
set_option linter.unusedSimpArgs false
set_option linter.unusedSectionVars false
namespace Go.Proofs.It
open Go Go.Ev
abbrev par (f : List Nd) (h : Int) : Int := (at_ f h).parent
abbrev kds (f : List Nd) (h : Int) : List Int := (at_ f h).kids
theorem vZt {f : List Nd} {x : Int} : is_ f x = true ↔ 1 ≤ x ∧ x ≤ f.length := by simp [is_]
theorem kZh (f : List Nd) : ∀ (l : List Nd) (i j : Nat) (n : Nd), rightFrom f i l = true → l[j]? = some n → nodeOk f (i + j) n = true
 | [], i, j, n, _, h => by simp at h
 | m :: l, i, 0, n, h1, h => by
  simp only [rightFrom, Bool.and_eq_true] at h1
  simp at h
  rw [← h]
  exact h1.1
 | m :: l, i, j + 1, n, h1, h => by
  simp only [rightFrom, Bool.and_eq_true] at h1
  have := kZh f l (i + 1) j n h1.2 (by simpa using h)
  have e : i + 1 + j = i + (j + 1) := by omega
  rwa [e] at this
theorem vZp {f : List Nd} (R : right f = true) : f.length ≤ 4096 := by
 simp only [right, Bool.and_eq_true, decide_eq_true_eq] at R
 exact R.1
theorem wZ8 {f : List Nd} (R : right f = true) {h : Int} (hi : is_ f h = true) : made (at_ f h) = true ∧ links f h = true ∧ ring f h = false := by
 have hi' := vZt.1 hi
 simp only [right, Bool.and_eq_true] at R
 have := kZh f f 0 (h - 1).toNat _ R.2 (at_in hi'.1 hi'.2)
 simp only [nodeOk, Bool.and_eq_true, Bool.not_eq_true'] at this
 have e : ((0 + (h - 1).toNat + 1 : Nat) : Int) = h := by omega
 rw [e] at this
 exact ⟨this.1.1, this.1.2, this.2⟩
theorem jZK {f : List Nd} (R : right f = true) {h : Int} (hi : is_ f h = true) : par f h = 0 ∨ (is_ f (par f h) = true ∧ h ∈ kds f (par f h)) := by
 have := (wZ8 R hi).2.1
 simp only [links, Bool.and_eq_true, linkP, Bool.or_eq_true, beq_iff_eq] at this
 rcases this.1.1.1.1.2 with h | ⟨h1, h2⟩
 ·exact .inl h
 ·refine .inr ⟨h1, ?_⟩
  rw [cnt_count] at h2
  exact List.count_pos_iff.1 (by rw [h2]; decide)
theorem vZh {f : List Nd} (R : right f = true) {h : Int} (hi : is_ f h = true) {k : Int} (hk : k ∈ kds f h) : is_ f k = true ∧ par f k = h := by
 have := (wZ8 R hi).2.1
 simp only [links, Bool.and_eq_true, linkK, List.all_eq_true] at this
 have := this.1.1.1.1.1 k hk
 simp only [kidOk, Bool.and_eq_true, beq_iff_eq] at this
 exact ⟨this.1.1.1, this.1.1.2⟩
theorem right_nodup {f : List Nd} (R : right f = true) {h : Int} (hi : is_ f h = true) : (kds f h).Nodup := by
 have := (wZ8 R hi).2.1
 simp only [links, Bool.and_eq_true] at this
 have h1 := this.1.1.1.1.1
 rw [← kids_eq, jZl] at h1
 exact h1.2
theorem right_shadow {f : List Nd} (R : right f = true) {h : Int} (hi : is_ f h = true) (hk : (at_ f h).kind = 12) : par f h = 0 := by
 have := (wZ8 R hi).1
 simp only [made, Bool.and_eq_true, mdE, hk, Bool.or_eq_true, beq_iff_eq] at this
 simpa using this.2
theorem right_known {f : List Nd} (R : right f = true) {h : Int} (hi : is_ f h = true) : known (at_ f h).kind = true := by
 have := (wZ8 R hi).1
 simp only [made, mdA, Bool.and_eq_true] at this
 exact this.1.1.1.1.1.1.1.1.1
theorem known_bounds {k : Int} (h : known k = true) : 1 ≤ k ∧ k ≤ 12 := by
 simp only [known, hasData, hasKids, Bool.or_eq_true, beq_iff_eq] at h
 omega
inductive Dep (f : List Nd) : Int → Nat → Prop where
 | nil : Dep f 0 0
 | up {h : Int} {k : Nat} : is_ f h = true → Dep f (par f h) k → Dep f h (k + 1)
theorem is0 (f : List Nd) : is_ f 0 = false := by simp [is_]
theorem Dep.uniq {f : List Nd} {h : Int} {a : Nat} (ha : Dep f h a) : ∀ {b : Nat}, Dep f h b → a = b := by
 induction ha with
 | nil =>
  intro b hb
  cases hb with
  | nil => rfl
  | up h _ => rw [is0] at h; cases h
 | up hi _ ih =>
  intro b hb
  cases hb with
  | nil => rw [is0] at hi; cases hi
  | up _ hb => rw [ih hb]
theorem Dep.pos {f : List Nd} {h : Int} {d : Nat} (hd : Dep f h d) (hi : is_ f h = true) : ∃ k, d = k + 1 ∧ Dep f (par f h) k := by
 cases hd with
 | nil => rw [is0] at hi; cases hi
 | up _ hk => exact ⟨_, rfl, hk⟩
theorem dep_go {f : List Nd} (R : right f = true) : ∀ (m : Nat) (h : Int), (h = 0 ∨ is_ f h = true) → ringGo f h m = false → ∃ k, k + 1 ≤ m ∧ Dep f h k
 | 0, h, _, hr => by cases hr
 | m + 1, h, hh, hr => by
  rcases hh with rfl | hi
  ·exact ⟨0, by omega, .nil⟩
  ·rw [wZz, hi, Bool.true_and] at hr
   have hm : m ≠ 0 := by rintro rfl; cases hr
   by_cases hk : (at_ f h).kind = 12
   ·have h0 := right_shadow R hi hk
    exact ⟨1, by omega, .up hi (by rw [h0]; exact .nil)⟩
   ·have ha : above (at_ f h) = par f h := by
     have hb : ((at_ f h).kind == 12) = false := by simpa using hk
     simp only [above, hb, Bool.false_eq_true, if_false]
    rw [ha] at hr
    have hp : par f h = 0 ∨ is_ f (par f h) = true := by
     rcases jZK R hi with h | h
     ·exact .inl h
     ·exact .inr h.1
    obtain ⟨k, hk, hd⟩ := dep_go R m _ hp hr
    exact ⟨k + 1, by omega, .up hi hd⟩
theorem wZN {f : List Nd} (R : right f = true) {h : Int} (hi : is_ f h = true) : ∃ k, k ≤ f.length ∧ Dep f h k := by
 obtain ⟨k, h1, h2⟩ := dep_go R (f.length + 1) h (.inr hi) (wZ8 R hi).2.2
 exact ⟨k, by omega, h2⟩
theorem dep_le {f : List Nd} (R : right f = true) {h : Int} (hi : is_ f h = true) {d : Nat} (hd : Dep f h d) : d ≤ f.length := by
 obtain ⟨k, h1, h2⟩ := wZN R hi
 rw [hd.uniq h2]
 exact h1
theorem vZQ {f : List Nd} (R : right f = true) {h : Int} (hi : is_ f h = true) {d : Nat} (hd : Dep f h d) {k : Int} (hk : k ∈ kds f h) : Dep f k (d + 1) := by
 obtain ⟨h1, h2⟩ := vZh R hi hk
 exact .up h1 (by rw [h2]; exact hd)
def ups (f : List Nd) : Nat → Int → List Int
 | 0, _ => []
 | k + 1, h => h :: ups f k (par f h)
theorem ups_dep {f : List Nd} {h : Int} {d : Nat} (hd : Dep f h d) : ∀ x ∈ ups f d h, is_ f x = true ∧ ∃ e, 0 < e ∧ e ≤ d ∧ Dep f x e := by
 induction hd with
 | nil => intro x hx; cases hx
 | up hi hk ih =>
  intro x hx
  rcases List.mem_cons.1 hx with rfl | hx
  ·exact ⟨hi, _, by omega, Nat.le_refl _, .up hi hk⟩
  ·obtain ⟨h1, e, h2, h3, h4⟩ := ih x hx
   exact ⟨h1, e, h2, by omega, h4⟩
theorem ups_uniq {f : List Nd} {h : Int} {d : Nat} (hd : Dep f h d) : ∀ x ∈ ups f d h, ∀ y ∈ ups f d h, ∀ e, Dep f x e → Dep f y e → x = y := by
 induction hd with
 | nil => intro x hx; cases hx
 | @up h k hi hk ih =>
  intro x hx y hy e hxe hye
  have key : ∀ z ∈ ups f k (par f h), ¬ Dep f z (k + 1) := fun z hz hzd => by
   obtain ⟨_, e', _, h3, h4⟩ := ups_dep hk z hz
   have := h4.uniq hzd
   omega
  rcases List.mem_cons.1 hx with rfl | hx
  ·rcases List.mem_cons.1 hy with rfl | hy
   ·rfl
   ·have := hxe.uniq (.up hi hk)
    exact absurd (this ▸ hye) (key y hy)
  ·rcases List.mem_cons.1 hy with rfl | hy
   ·have := hye.uniq (.up hi hk)
    exact absurd (this ▸ hxe) (key x hx)
   ·exact ih x hx y hy e hxe hye
def allF (f : List Nd) : Nat → Int → List Int
 | 0, h => [h]
 | r + 1, h => h :: ((kds f h).map (allF f r)).flatten
theorem allF_head (f : List Nd) : ∀ (r : Nat) (h : Int), h ∈ allF f r h
 | 0, h => by simp [allF]
 | r + 1, h => by simp [allF]
theorem kds_nil {f : List Nd} (R : right f = true) {h : Int} (hi : is_ f h = true) {d : Nat} (hd : Dep f h d) (hr : f.length ≤ d) : kds f h = [] := by
 cases hk : kds f h with
 | nil => rfl
 | cons k l =>
  have hm : k ∈ kds f h := by rw [hk]; simp
  have := dep_le R (vZh R hi hm).1 (vZQ R hi hd hm)
  omega
theorem jZe {f : List Nd} (R : right f = true) : ∀ (r : Nat) (h : Int) (d : Nat), is_ f h = true → Dep f h d → ∀ y ∈ allF f r h, is_ f y = true ∧ ∃ e, d ≤ e ∧ Dep f y e ∧ h ∈ ups f e y
 | 0, h, d, hi, hd, y, hy => by
  simp only [allF, List.mem_singleton] at hy
  subst hy
  refine ⟨hi, d, Nat.le_refl _, hd, ?_⟩
  obtain ⟨k, rfl, _⟩ := hd.pos hi
  simp [ups]
 | r + 1, h, d, hi, hd, y, hy => by
  simp only [allF, List.mem_cons, List.mem_flatten, List.mem_map] at hy
  rcases hy with rfl | ⟨_, ⟨k, hk, rfl⟩, hy⟩
  ·refine ⟨hi, d, Nat.le_refl _, hd, ?_⟩
   obtain ⟨k, rfl, _⟩ := hd.pos hi
   simp [ups]
  ·obtain ⟨hki, hkp⟩ := vZh R hi hk
   obtain ⟨h1, e, h2, h3, h4⟩ := jZe R r k (d + 1) hki (vZQ R hi hd hk) y hy
   refine ⟨h1, e, by omega, h3, ?_⟩
   have key : ∀ (e : Nat) (y : Int), Dep f y e → k ∈ ups f e y → h ∈ ups f e y := by
    intro e y hde
    induction hde with
    | nil => intro hm; cases hm
    | @up y e hy hye ih =>
     intro hm
     rcases List.mem_cons.1 hm with rfl | hm
     ·have hye' := hye
      rw [hkp] at hye'
      obtain ⟨c, rfl, _⟩ := hye'.pos hi
      simp [ups, hkp]
     ·exact List.mem_cons_of_mem _ (ih hm)
   exact key e y h3 h4
theorem allF_kid {f : List Nd} (R : right f = true) : ∀ (r : Nat) (h : Int) (d : Nat), is_ f h = true → Dep f h d → f.length ≤ d + r → ∀ y ∈ allF f r h, ∀ k ∈ kds f y, k ∈ allF f r h
 | 0, h, d, hi, hd, hr, y, hy, k, hk => by
  simp only [allF, List.mem_singleton] at hy
  subst hy
  rw [kds_nil R hi hd (by omega)] at hk
  cases hk
 | r + 1, h, d, hi, hd, hr, y, hy, k, hk => by
  simp only [allF, List.mem_cons, List.mem_flatten, List.mem_map] at hy ⊢
  rcases hy with rfl | ⟨_, ⟨c, hc, rfl⟩, hy⟩
  ·exact .inr ⟨_, ⟨k, hk, rfl⟩, allF_head f r k⟩
  ·have hci := (vZh R hi hc).1
   exact .inr ⟨_, ⟨c, hc, rfl⟩, allF_kid R r c (d + 1) hci (vZQ R hi hd hc) (by omega) y hy k hk⟩
theorem mem_allF {f : List Nd} (R : right f = true) {r : Nat} {h : Int} {d : Nat} (hi : is_ f h = true) (hd : Dep f h d) (hr : f.length ≤ d + r) {x : Int} {e : Nat} (hx : Dep f x e) (hm : h ∈ ups f e x) : x ∈ allF f r h := by
 induction hx with
 | nil => cases hm
 | @up x e hxi hxe ih =>
  rcases List.mem_cons.1 hm with rfl | hm
  ·exact allF_head f r _
  ·have := ih hm
   rcases jZK R hxi with h0 | ⟨h1, h2⟩
   ·rw [h0] at hxe hm
    cases hxe with
    | nil => cases hm
    | up h _ => rw [is0] at h; cases h
   ·exact allF_kid R r h d hi hd hr _ this _ h2
theorem xZN {f : List Nd} (R : right f = true) : ∀ (r : Nat) (h : Int) (d : Nat), is_ f h = true → Dep f h d → (allF f r h).Nodup
 | 0, h, d, hi, hd => by simp [allF]
 | r + 1, h, d, hi, hd => by
  simp only [allF, List.nodup_cons]
  constructor
  ·intro hm
   simp only [List.mem_flatten, List.mem_map] at hm
   obtain ⟨_, ⟨k, hk, rfl⟩, hm⟩ := hm
   obtain ⟨hki, _⟩ := vZh R hi hk
   obtain ⟨_, e, h2, h3, _⟩ := jZe R r k (d + 1) hki (vZQ R hi hd hk) h hm
   have := hd.uniq h3
   omega
  ·have hn := right_nodup R hi
   have go : ∀ l : List Int, l.Nodup → (∀ k ∈ l, k ∈ kds f h) → ((l.map (allF f r)).flatten).Nodup := by
    intro l
    induction l with
    | nil => intro _ _; simp
    | cons k l ih =>
     intro hnd hsub
     simp only [List.map_cons, List.flatten_cons, List.nodup_append]
     rw [List.nodup_cons] at hnd
     have hk := hsub k (by simp)
     obtain ⟨hki, _⟩ := vZh R hi hk
     refine ⟨xZN R r k (d + 1) hki (vZQ R hi hd hk), ih hnd.2 fun c hc => hsub c (by simp [hc]), ?_⟩
     rintro a ha b hb rfl
     simp only [List.mem_flatten, List.mem_map] at hb
     obtain ⟨_, ⟨c, hc, rfl⟩, hb⟩ := hb
     have hcm := hsub c (by simp [hc])
     obtain ⟨hci, _⟩ := vZh R hi hcm
     obtain ⟨_, e, h2, h3, h4⟩ := jZe R r k (d + 1) hki (vZQ R hi hd hk) a ha
     obtain ⟨_, e', h2', h3', h4'⟩ := jZe R r c (d + 1) hci (vZQ R hi hd hcm) a hb
     have := h3.uniq h3'
     subst this
     have := ups_uniq h3 k h4 c h4' (d + 1) (vZQ R hi hd hk) (vZQ R hi hd hcm)
     exact hnd.1 (this ▸ hc)
   exact go _ hn fun k hk => hk
theorem vZz {f : List Nd} (R : right f = true) (r : Nat) {h : Int} (hi : is_ f h = true) : (allF f r h).length ≤ f.length := by
 obtain ⟨d, _, hd⟩ := wZN R hi
 exact php (xZN R r h d hi hd) fun x hx => (jZe R r h d hi hd x hx).1
end Go.Proofs.It
