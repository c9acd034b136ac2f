/- Values frozen: with none of the heap. Functions and calls: the evaluator's meaning is the machine's. No conditions. -/
import Derived.Test.YtaeklgflchhmfaaGreatDoorEvZ
set_option maxHeartbeats 16000000
set_option maxRecDepth 100000
set_option linter.unusedVariables false
set_option linter.unusedSimpArgs false
set_option linter.unusedSectionVars false
namespace Go.Ev
open Go.RowKit
section
variable {P : Program} {G : Glob} {B : Base G} {S : Cells} {w : World} {κ : Kap} {h : Heap}
def F2 {α γ : Type} (R : α → γ → Prop) : List α → List γ → Prop
 | [], [] => True
 | a :: as, c :: cs => R a c ∧ F2 R as cs
 | _, _ => False
def F3 {α β γ : Type} (R : α → β → γ → Prop) : List α → List β → List γ → Prop
 | [], [], [] => True
 | a :: as, b :: bs, c :: cs => R a b c ∧ F3 R as bs cs
 | _, _, _ => False
theorem F2.imp {α γ : Type} {R R' : α → γ → Prop} (hi : ∀ a c, R a c → R' a c) : ∀ {as : List α} {cs : List γ}, F2 R as cs → F2 R' as cs
 | [], [], _ => trivial
 | [], _ :: _, h => h.elim
 | _ :: _, [], h => h.elim
 | _ :: _, _ :: _, h => ⟨hi _ _ h.1, F2.imp hi h.2⟩
theorem F3.imp {α β γ : Type} {R R' : α → β → γ → Prop} (hi : ∀ a b c, R a b c → R' a b c) : ∀ {as : List α} {bs : List β} {cs : List γ}, F3 R as bs cs → F3 R' as bs cs
 | [], [], [], _ => trivial
 | _ :: _, _ :: _, _ :: _, h => ⟨hi _ _ _ h.1, F3.imp hi h.2⟩
 | [], [], _ :: _, h => h.elim
 | [], _ :: _, _, h => h.elim
 | _ :: _, [], _, h => h.elim
 | _ :: _, _ :: _, [], h => h.elim
theorem F3.get {α β γ : Type} {R : α → β → γ → Prop} : ∀ {as : List α} {bs : List β} {cs : List γ}, F3 R as bs cs →
  as.length = bs.length ∧ as.length = cs.length ∧ ∀ (i : Nat) (b : β), bs[i]? = some b → ∃ a c, as[i]? = some a ∧ cs[i]? = some c ∧ R a b c
 | [], [], [], _ => ⟨rfl, rfl, fun i b hb => by simp at hb⟩
 | a :: as, b :: bs, c :: cs, h => by
  obtain ⟨h1, h2, h3⟩ := F3.get h.2
  refine ⟨by simp [h1], by simp [h2], fun i b' hb => ?_⟩
  cases i with
  | zero => simp at hb; subst hb; exact ⟨a, c, rfl, rfl, h.1⟩
  | succ i => simpa using h3 i b' (by simpa using hb)
 | [], [], _ :: _, h => h.elim
 | [], _ :: _, _, h => h.elim
 | _ :: _, [], _, h => h.elim
 | _ :: _, _ :: _, [], h => h.elim
theorem F2_RL : ∀ {xs : List V} {us : List Value}, RL S w κ xs us → F2 (RV S w κ) xs us
 | [], [], _ => trivial
 | [], _ :: _, h => by simp [RL] at h
 | _ :: _, [], h => by simp [RL] at h
 | _ :: _, _ :: _, h => by simp only [RL] at h; exact ⟨h.1, F2_RL h.2⟩
theorem F3_RL {R : V → V → Value → Prop} (hi : ∀ a b c, R a b c → RV S w noK b c) : ∀ {as bs : List V} {cs : List Value}, F3 R as bs cs → RL S w noK bs cs
 | [], [], [], _ => by simp [RL]
 | _ :: _, _ :: _, _ :: _, h => by simp only [RL]; exact ⟨hi _ _ _ h.1, F3_RL hi h.2⟩
 | [], [], _ :: _, h => h.elim
 | [], _ :: _, _, h => h.elim
 | _ :: _, [], _, h => h.elim
 | _ :: _, _ :: _, [], h => h.elim
theorem kZO {α β γ : Type} (f : Heap → α → Option (β × Heap)) (R0 : Cells → α → γ → Prop) (R1 : Cells → α → β → γ → Prop)
  (m0 : ∀ S S' x u, Sle S w S' w → R0 S x u → R0 S' x u) (m1 : ∀ S S' x y u, Sle S w S' w → R1 S x y u → R1 S' x y u)
  (step : ∀ S h x y h' u, f h x = some (y, h') → Inv P B S w κ h → R0 S x u → ∃ S', Inv P B S' w κ h' ∧ Stp B S w κ S' w κ ∧ R1 S' x y u) :
  ∀ (l : List α) (us : List γ) (S : Cells) (h : Heap) (r : List β) (h' : Heap), mapH f h l = some (r, h') → Inv P B S w κ h → F2 (R0 S) l us →
   ∃ S', Inv P B S' w κ h' ∧ Stp B S w κ S' w κ ∧ F3 (R1 S') l r us
 | [], us, S, h, r, h', hh, inv, hr => by
  simp only [mapH, Option.some.injEq, Prod.mk.injEq] at hh
  obtain ⟨rfl, rfl⟩ := hh
  cases us with
  | nil => exact ⟨S, inv, .refl _ _ _ _, trivial⟩
  | cons u us => exact hr.elim
 | x :: l, us, S, h, r, h', hh, inv, hr => by
  cases us with
  | nil => exact hr.elim
  | cons u us =>
   simp only [mapH] at hh
   split at hh
   ·cases hh
   ·rename_i y h1 e1
    split at hh
    ·cases hh
    ·rename_i r' h2 e2
     simp only [Option.some.injEq, Prod.mk.injEq] at hh
     obtain ⟨rfl, rfl⟩ := hh
     obtain ⟨S1, inv1, st1, q1⟩ := step S h x y h1 u e1 inv hr.1
     obtain ⟨S2, inv2, st2, q2⟩ := kZO f R0 R1 m0 m1 step l us S1 h1 r' h2 e2 inv1 (F2.imp (fun a c => m0 _ _ _ _ st1.sle) hr.2)
     exact ⟨S2, inv2, st1.trans st2, m1 _ _ _ _ _ st2.sle q1, q2⟩
def Range (b o n : Nat) : Cells := fun b' o' => b' = b ∧ o ≤ o' ∧ o' < o + n
theorem freeze_row (inv : Inv P B S w κ h) {id sz : Nat} {xs : List (List V)} {ep : Nat} {wr : Bool} (hi : h[id]? = some (.row sz xs ep wr)) {b st cp : Nat} (hk : κ id = some (.row ep b st cp sz))
  {off len : Nat} (h1 : st ≤ off) (h2 : off + len ≤ xs.length) :
  Inv P B (fun b' o' => S b' o' ∨ Range b ((off - st) * sz) (len * sz) b' o') w κ (h.set id (.row sz xs ep false)) ∧ Stp B S w κ (fun b' o' => S b' o' ∨ Range b ((off - st) * sz) (len * sz) b' o') w κ := by
 have sle : Sle S w (fun b' o' => S b' o' ∨ Range b ((off - st) * sz) (len * sz) b' o') w := ⟨fun _ _ x => .inl x, fun _ _ _ => rfl⟩
 obtain ⟨hd1, hd2, hd3⟩ := inv.dom _ _ hk
 refine ⟨⟨fun i o ho => ?_, inv.dis, fun i a ha => by rw [List.length_set]; exact inv.dom i a ha, fun b' o' x => ?_, inv.bw, inv.gl⟩, .refl _ _, sle, .refl _, fun b' o' x => ?_⟩
 ·by_cases e : i = id
  ·subst e
   rw [List.getElem?_set_self (by omega)] at ho
   cases ho
   obtain ⟨b1, st1, cp1, c, el, fr, g1, g2, g3, g4, g5, g6, g7, g8, g9, g10, g11⟩ := inv.obs _ _ hi
   rw [hk] at g1; cases g1
   refine ⟨b, st, cp, c, el, fr, hk, g2, g3, g4, g5, g6, g7, g8, fun i e hi he => RL.mono sle (.refl _) _ _ (g9 i e hi he), fun o ho x => ?_, fun hw => by cases hw⟩
   rcases x with x | ⟨_, x1, x2⟩
   ·exact g10 o ho x
   ·have : (off - st) * sz + len * sz ≤ (xs.length - st) * sz := by
     rw [← Nat.add_mul]; exact Nat.mul_le_mul_right _ (by omega)
    omega
  ·rw [List.getElem?_set_ne (Ne.symm e)] at ho
   have oi := inv.obs i o ho
   have hne : ∀ k, κ i = some k → k.block ≠ b := fun k ha q => e (inv.dis _ _ _ _ ha hk q)
   cases o with
   | dead => trivial
   | cells cs =>
    obtain ⟨b1, c, el, fr, g1, g2, g3, g4, g5, g6⟩ := oi
    exact ⟨b1, c, el, fr, g1, g2, g3, RL.mono sle (.refl _) _ _ g4, g5, fun o x => x.elim (g6 o) (fun r => hne _ g1 r.1)⟩
   | row sz1 xs1 ep1 wr1 =>
    obtain ⟨b1, st1, cp1, c, el, fr, g1, g2, g3, g4, g5, g6, g7, g8, g9, g10, g11⟩ := oi
    exact ⟨b1, st1, cp1, c, el, fr, g1, g2, g3, g4, g5, g6, g7, g8, fun i e hi he => RL.mono sle (.refl _) _ _ (g9 i e hi he),
     fun o ho x => x.elim (g10 o ho) (fun r => hne _ g1 r.1), fun hw o x => x.elim (g11 hw o) (fun r => hne _ g1 r.1)⟩
   | map es clock =>
    obtain ⟨b1, es', g1, g2, g3⟩ := oi
    exact ⟨b1, es', g1, g2, ME.mono sle (.refl _) _ _ g3⟩
   | loop st pend env ps asg body df =>
    obtain ⟨b1, db, l, g1, g2, g3, g4, g5, g6⟩ := oi
    exact ⟨b1, db, l, g1, g2, g3, g4, RL.mono sle (.refl _) _ _ g5, g6⟩
   | defr t => exact oi
   | iter s n => exact oi
   | resv d => exact oi
 ·rcases x with x | ⟨rfl, _⟩
  ·exact inv.sb _ _ x
  ·exact hd3
 ·rcases x with x | ⟨rfl, _⟩
  ·exact .inl x
  ·exact .inr hd2
theorem RC_of : ∀ {xs : List V} {b o : Nat}, (∀ (j : Nat) (x : V), xs[j]? = some x → S b (o + j) ∧ ∃ c, w.cell? ⟨b, o + j, none⟩ = some c ∧ x.isCell = true ∧ RV S w noK x c) → RC S w xs b o
 | [], b, o, _ => trivial
 | x :: xs, b, o, hh => by
  simp only [RC]
  obtain ⟨h1, c, h2⟩ := hh 0 x rfl
  refine ⟨by simpa using h1, ⟨c, by simpa using h2⟩, RC_of (fun j y hy => ?_)⟩
  obtain ⟨h3, c', h4⟩ := hh (j + 1) y (by simpa using hy)
  rw [Nat.add_comm j 1, ← Nat.add_assoc] at h3 h4
  exact ⟨h3, c', h4⟩
theorem RE_of {sz : Nat} : ∀ {xs : List (List V)} {b o : Nat}, (∀ (i : Nat) (e : List V), xs[i]? = some e → e.length = sz ∧ RC S w e b (o + i * sz)) → RE S w xs b o sz
 | [], b, o, _ => trivial
 | x :: xs, b, o, hh => by
  simp only [RE]
  obtain ⟨h1, h2⟩ := hh 0 x rfl
  refine ⟨h1, by simpa using h2, RE_of (fun i e he => ?_)⟩
  obtain ⟨h3, h4⟩ := hh (i + 1) e (by simpa using he)
  refine ⟨h3, ?_⟩
  rwa [Nat.add_mul, Nat.one_mul, Nat.add_comm (i * sz) sz, ← Nat.add_assoc] at h4
def FV (w : World) (S : Cells) (x y : V) (u : Value) : Prop := RV S w noK y u ∧ (x.isCell = true → y.isCell = true)
theorem fz_sound : ∀ (d : Nat) (S : Cells) (h : Heap) (x y : V) (h' : Heap) (u : Value), fz d h x = some (y, h') → Inv P B S w κ h → RV S w κ x u → ∃ S', Inv P B S' w κ h' ∧ Stp B S w κ S' w κ ∧ FV w S' x y u := by
 intro d
 induction d with
 | zero => intro S h x y h' u hh; simp [fz] at hh
 | succ d ih =>
  intro S h x y h' u hh inv hx
  have hlist : ∀ (xs : List V) (us : List Value) (S : Cells) (h : Heap) (ys : List V) (h' : Heap), mapH (fz d) h xs = some (ys, h') → Inv P B S w κ h → RL S w κ xs us →
    ∃ S', Inv P B S' w κ h' ∧ Stp B S w κ S' w κ ∧ F3 (FV w S') xs ys us := fun xs us S h ys h' hm inv hr =>
   kZO (fz d) (fun S => RV S w κ) (FV w) (fun S S' x u sle hr => RV.mono sle (.refl _) _ _ hr) (fun S S' x y u sle hr => ⟨RV.mono sle (.refl _) _ _ hr.1, hr.2⟩)
    (fun S h x y h' u hf inv hr => ih S h x y h' u hf inv hr) xs us S h ys h' hm inv (F2_RL hr)
  have same : y = x → h' = h → RV S w noK x u → ∃ S', Inv P B S' w κ h' ∧ Stp B S w κ S' w κ ∧ FV w S' x y u := fun e1 e2 hv => by
   subst e1 e2
   exact ⟨S, inv, .refl _ _ _ _, hv, id⟩
  cases x with
  | undef => simp [fz] at hh
  | ptr => simp [fz] at hh
  | eptr => simp [fz] at hh
  | map => simp [fz] at hh
  | bool b => simp only [fz, Option.some.injEq, Prod.mk.injEq] at hh; exact same hh.1.symm hh.2.symm hx
  | int k n => simp only [fz, Option.some.injEq, Prod.mk.injEq] at hh; exact same hh.1.symm hh.2.symm hx
  | str s => simp only [fz, Option.some.injEq, Prod.mk.injEq] at hh; exact same hh.1.symm hh.2.symm hx
  | nilp => simp only [fz, Option.some.injEq, Prod.mk.injEq] at hh; exact same hh.1.symm hh.2.symm hx
  | iptr cs => simp only [fz, Option.some.injEq, Prod.mk.injEq] at hh; exact same hh.1.symm hh.2.symm (by simpa only [RV] using hx)
  | arr cs => simp only [fz, Option.some.injEq, Prod.mk.injEq] at hh; exact same hh.1.symm hh.2.symm (by simpa only [RV] using hx)
  | nilm => simp only [fz, Option.some.injEq, Prod.mk.injEq] at hh; exact same hh.1.symm hh.2.symm hx
  | nilf => simp only [fz, Option.some.injEq, Prod.mk.injEq] at hh; exact same hh.1.symm hh.2.symm hx
  | nili => simp only [fz, Option.some.injEq, Prod.mk.injEq] at hh; exact same hh.1.symm hh.2.symm hx
  | nils =>
   simp only [fz, Option.some.injEq, Prod.mk.injEq] at hh
   obtain ⟨rfl, rfl⟩ := hh
   simp only [RV] at hx
   subst hx
   exact ⟨S, inv, .refl _ _ _ _, by simp only [RV]; exact ⟨none, 0, rfl, Nat.le_refl _, .inl trivial⟩, fun _ => rfl⟩
  | nile =>
   simp only [fz, Option.some.injEq, Prod.mk.injEq] at hh
   obtain ⟨rfl, rfl⟩ := hh
   simp only [RV] at hx
   obtain ⟨a, rfl⟩ := hx
   exact ⟨S, inv, .refl _ _ _ _, by simp only [RV]; exact ⟨a, 0, rfl, Nat.le_refl _, .inl trivial⟩, fun _ => rfl⟩
  | agg cs =>
   simp only [fz, Option.map_eq_some_iff, Prod.mk.injEq] at hh
   obtain ⟨⟨ys, h1⟩, hm, rfl, rfl⟩ := hh
   simp only [RV] at hx
   obtain ⟨a, rfl, hr⟩ := hx
   obtain ⟨S', inv', st', q⟩ := hlist _ _ S h ys h1 hm inv hr
   exact ⟨S', inv', st', by simp only [RV]; exact ⟨a, rfl, F3_RL (fun a b c h => h.1) q⟩, fun h => by simp [V.isCell] at h⟩
  | tup cs =>
   simp only [fz, Option.map_eq_some_iff, Prod.mk.injEq] at hh
   obtain ⟨⟨ys, h1⟩, hm, rfl, rfl⟩ := hh
   simp only [RV] at hx
   obtain ⟨a, rfl, hr⟩ := hx
   obtain ⟨S', inv', st', q⟩ := hlist _ _ S h ys h1 hm inv hr
   exact ⟨S', inv', st', by simp only [RV]; exact ⟨a, rfl, F3_RL (fun a b c h => h.1) q⟩, fun h => by simp [V.isCell] at h⟩
  | ifc t v =>
   simp only [fz, Option.map_eq_some_iff, Prod.mk.injEq] at hh
   obtain ⟨⟨y1, h1⟩, hm, rfl, rfl⟩ := hh
   simp only [RV] at hx
   obtain ⟨a, rfl, hr⟩ := hx
   obtain ⟨S', inv', st', q⟩ := ih S h v y1 h1 a hm inv hr
   exact ⟨S', inv', st', by simp only [RV]; exact ⟨a, rfl, q.1⟩, fun _ => rfl⟩
  | fn f fi ca =>
   simp only [fz] at hh
   obtain ⟨hy, hh⟩ := vZn hh
   split at hh
   ·cases hh
   ·rename_i fi' h1 e1
    simp only [Option.map_eq_some_iff, Prod.mk.injEq] at hh
    obtain ⟨⟨ca', h2⟩, e2, rfl, rfl⟩ := hh
    have : ∃ a' c', u = .func f a' c' ∧ RL S w κ fi a'.toList ∧ RL S w κ ca c'.toList := by
     cases f
     case yield => simp [isYield] at hy
     all_goals (simp only [RV] at hx; exact hx)
    obtain ⟨a', c', rfl, hr1, hr2⟩ := this
    obtain ⟨S1, inv1, st1, q1⟩ := hlist _ _ S h fi' h1 e1 inv hr1
    obtain ⟨S2, inv2, st2, q2⟩ := hlist _ _ S1 h1 ca' h2 e2 inv1 (RL.mono st1.sle (.refl _) _ _ hr2)
    have k1 := RL.mono st2.sle (.refl _) _ _ (F3_RL (fun a b c h => h.1) q1)
    have k2 := F3_RL (fun a b c h => h.1) q2
    refine ⟨S2, inv2, st1.trans st2, ⟨?_, fun _ => rfl⟩⟩
    cases f
    case yield => simp [isYield] at hy
    all_goals (simp only [RV]; exact ⟨a', c', rfl, k1, k2⟩)
  | sl id ep off len =>
   simp only [fz] at hh
   split at hh
   ·rename_i z xs cur wr hob
    obtain ⟨⟨he, hle⟩, hh⟩ := zZN hh
    simp only [Option.map_eq_some_iff, Prod.mk.injEq] at hh
    obtain ⟨⟨ys, h1⟩, hm, rfl, rfl⟩ := hh
    subst he
    simp only [RV] at hx
    obtain ⟨e, b, st, cp, sz, a, c, k1, k2, rfl, k3, k4⟩ := hx
    obtain ⟨b1, st1, cp1, cc, el, fr, g1, g2, g3, g4, g5, g6, g7, g8, g9, g10, g11⟩ := inv.obs _ _ hob
    rw [k1] at g1; cases g1
    obtain ⟨j1, j2, j3, j4⟩ := k4 rfl
    obtain ⟨inv1, stp1⟩ := freeze_row inv hob k1 (off := off) (len := len) j1 hle
    have hF2 : F2 (fun (e : List V) (us : List Value) => RL (fun b' o' => S b' o' ∨ Range b ((off - st) * z) (len * z) b' o') w κ e us) ((xs.drop off).take len) ((List.range len).map fun i => (cc.toList.drop ((off + i - st) * z)).take z) := by
     have gen : ∀ (n o : Nat), st ≤ o → o + n ≤ xs.length → F2 (fun (e : List V) (us : List Value) => RL (fun b' o' => S b' o' ∨ Range b ((off - st) * z) (len * z) b' o') w κ e us) ((xs.drop o).take n) ((List.range n).map fun i => (cc.toList.drop ((o + i - st) * z)).take z) := by
      intro n
      induction n with
      | zero => intro o _ _; simp [F2]
      | succ n ihn =>
       intro o ho hn
       have hlt : o < xs.length := by omega
       rw [List.drop_eq_getElem_cons hlt, List.take_succ_cons, List.range_succ_eq_map, List.map_cons, List.map_map]
       refine ⟨?_, ?_⟩
       ·have := RL.mono stp1.sle (.refl _) _ _ (g9 o xs[o] ho (by simp [hlt]))
        simpa using this
       ·have := ihn (o + 1) (by omega) (by omega)
        have e1 : (fun i => List.take z (List.drop ((o + 1 + i - st) * z) cc.toList)) = (fun i => List.take z (List.drop ((o + i - st) * z) cc.toList)) ∘ Nat.succ := by
         funext i; simp [Nat.add_assoc, Nat.add_comm 1 i]
        rw [e1] at this
        exact this
     exact gen len off j1 hle
    obtain ⟨S2, inv2, stp2, q⟩ := kZO (mapH (fz d)) (fun S e us => RL S w κ e us) (fun S e e' us => F3 (FV w S) e e' us)
     (fun S S' x u sle hr => RL.mono sle (.refl _) _ _ hr) (fun S S' x y u sle hr => F3.imp (fun a b c hr => ⟨RV.mono sle (.refl _) _ _ hr.1, hr.2⟩) hr)
     (fun S h x y h' u hf inv hr => hlist x u S h y h' hf inv hr) _ _ _ _ ys h1 hm inv1 hF2
    obtain ⟨q1, q2, q3⟩ := F3.get q
    have hlen : ys.length = len := by rw [← q1]; simp; omega
    refine ⟨S2, inv2, stp1.trans stp2, ⟨?_, fun _ => rfl⟩⟩
    simp only [RV]
    refine ⟨some a, c, by rw [hlen], by omega, ?_⟩
    by_cases h0 : len = 0
    ·left; exact List.eq_nil_of_length_eq_zero (by omega)
    ·right
     have ha : a = ⟨b, (off - st) * z, none⟩ := j4.resolve_left (by omega)
     refine ⟨b, (off - st) * z, z, by rw [ha], RE_of (fun i e' he' => ?_)⟩
     obtain ⟨e, us, r1, r2, r3⟩ := q3 i e' he'
     have hi : i < len := by
      have := (List.getElem?_eq_some_iff.1 he').1
      omega
     have hex : xs[off + i]? = some e := by
      rw [List.getElem?_take_of_lt hi, List.getElem?_drop] at r1
      exact r1
     obtain ⟨t1, t2⟩ := g8 e (List.mem_of_getElem? hex)
     have hus : us = (cc.toList.drop ((off + i - st) * z)).take z := by
      rw [List.getElem?_map, List.getElem?_range hi] at r2
      simpa using r2.symm
     obtain ⟨s1, s2, s3⟩ := F3.get r3
     refine ⟨by rw [← s1]; exact t1, RC_of (fun j y hy => ?_)⟩
     obtain ⟨x0, u0, p1, p2, p3⟩ := s3 j y hy
     have hj : j < z := by
      have := (List.getElem?_eq_some_iff.1 hy).1
      omega
     have hoff : (off - st) * z + i * z + j = (off + i - st) * z + j := by
      rw [← Nat.add_mul]; congr 2; omega
     refine ⟨stp2.sle.1 _ _ (.inr ⟨rfl, by omega, ?_⟩), u0, ?_, p3.2 ?_, p3.1⟩
     ·have : i * z + z ≤ len * z := by
       rw [← Nat.succ_mul]; exact Nat.mul_le_mul_right _ hi
      omega
     ·rw [wZi w b _ g2, hoff]
      rw [hus, List.getElem?_take_of_lt hj, List.getElem?_drop] at p2
      rw [← Array.getElem?_toList]; exact p2
     ·exact List.all_eq_true.1 t2 x0 (List.mem_of_getElem? p1)
   ·cases hh
theorem fzs_sound {d : Nat} {xs : List V} {us : List Value} {h : Heap} {ys : List V} {h' : Heap} (hm : mapH (fz d) h xs = some (ys, h')) (inv : Inv P B S w κ h) (hr : RL S w κ xs us) :
  ∃ S', Inv P B S' w κ h' ∧ Stp B S w κ S' w κ ∧ RL S' w noK ys us := by
 obtain ⟨S', a, b, c⟩ := kZO (fz d) (fun S => RV S w κ) (FV w) (fun S S' x u sle hr => RV.mono sle (.refl _) _ _ hr) (fun S S' x y u sle hr => ⟨RV.mono sle (.refl _) _ _ hr.1, hr.2⟩)
  (fun S h x y h' u hf inv hr => fz_sound d S h x y h' u hf inv hr) xs us S h ys h' hm inv (F2_RL hr)
 exact ⟨S', a, b, F3_RL (fun a b c h => h.1) c⟩
end
open Go.RowKit
section
variable {P : Program} {G : Glob} {B : Base G} {S : Cells} {w : World} {κ : Kap} {h : Heap}
def resF (tmps : Array Value) : ResultVar → Sem Value
 | .tmp t => pure (tmps.getD t undef)
 | .cell a t => do loadVar t (← asAddr (tmps.getD a undef))
def pack : List V → V
 | [v] => v
 | vs => .tup vs
theorem jZi (inv : Inv P B S w κ h) {env : List V} {tmps : Array Value} (hr : RL S w κ env tmps.toList) : ∀ (rs : List ResultVar) (cr : List Rv) (vs : List V),
  rs.mapM (cRes P) = some cr → evRes env h cr = some vs → ∃ us, (rs.mapM (resF tmps)).run P w = .ok us w ∧ RL S w κ vs us
 | [], cr, vs, hc, he => by
  simp at hc
  subst hc
  simp only [evRes, Option.some.injEq] at he
  subst he
  exact ⟨[], by simp, trivial⟩
 | r :: rs, cr, vs, hc, he => by
  simp only [List.mapM_cons, Option.bind_eq_bind, Option.bind_eq_some_iff, Option.pure_def, Option.some.injEq] at hc
  obtain ⟨r', h1, cr', h2, rfl⟩ := hc
  have hget : ∀ t, RV S w κ (eget env t) (tmps.getD t undef) := fun t => xZU (a := { tmps, defers := [] }) hr t
  cases r with
  | tmp t =>
   simp only [cRes, Option.some.injEq] at h1
   subst h1
   simp only [evRes, Option.map_eq_some_iff] at he
   obtain ⟨vs', he, rfl⟩ := he
   obtain ⟨us, hrun, hl⟩ := jZi inv hr rs cr' vs' h2 he
   have h0 : (resF tmps (.tmp t)).run P w = .ok (tmps.getD t undef) w := rfl
   exact ⟨_ :: us, by simp only [List.mapM_cons, Sem.run_bind, h0, Result.andThen_ok, hrun]; rfl, by simp only [RL]; exact ⟨hget t, hl⟩⟩
  | cell a t =>
   simp only [cRes, Option.map_eq_some_iff] at h1
   obtain ⟨ag, ha, rfl⟩ := h1
   simp only [evRes] at he
   split at he
   ·rename_i v vs' hv hvs
    cases he
    obtain ⟨us, hrun, hl⟩ := jZi inv hr rs cr' vs' h2 hvs
    simp only [Option.bind_eq_some_iff] at hv
    obtain ⟨cs, hcs, hv⟩ := hv
    obtain ⟨b, o, hp, hcel⟩ := vZF inv (hget a) hcs
    obtain ⟨u, hu, hload⟩ := Cel_load ha hcel hv
    have h0 : (resF tmps (.cell a t)).run P w = .ok u w := by
     show (do loadVar t (← asAddr (tmps.getD a undef)) : Sem Value).run P w = _
     rw [hp]
     have : asAddr (.pointer (some ⟨b, o, none⟩)) = pure ⟨b, o, none⟩ := rfl
     simp [this, hload]
    exact ⟨u :: us, by simp only [List.mapM_cons, Sem.run_bind, h0, Result.andThen_ok, hrun]; rfl, by simp only [RL]; exact ⟨hu, hl⟩⟩
   ·cases he
theorem xZp (inv : Inv P B S w κ h) {env : List V} {tmps : Array Value} (hr : RL S w κ env tmps.toList) {fn : Func} {cr : List Rv} (hc : fn.results.toList.mapM (cRes P) = some cr)
  {vs : List V} (he : evRes env h cr = some vs) {r : V} (hv : r = pack vs) : ∃ v, (results fn tmps).run P w = .ok v w ∧ RV S w κ r v := by
 obtain ⟨us, hrun, hl⟩ := jZi inv hr _ _ _ hc he
 have hlen := qZS hl
 have hrun2 : (results fn tmps).run P w = .ok (if h : us.toArray.size = 1 then us.toArray[0] else .tuple us.toArray) w := by
  show (do let vs ← fn.results.mapM (resF tmps); pure (if h : vs.size = 1 then vs[0] else .tuple vs) : Sem Value).run P w = _
  rw [Sem.run_bind, Array.mapM_eq_mapM_toList, Sem.run_map, hrun]
  rfl
 refine ⟨_, hrun2, ?_⟩
 subst hv
 match vs, us, hl, hlen with
 | [v], [u], hl, _ => simpa [RL, pack] using hl
 | [], [], hl, _ => simp [RV, RL, pack]
 | x :: y :: vs, u :: u' :: us, hl, _ =>
  simp only [RV, pack]
  exact ⟨(u :: u' :: us).toArray, by simp, by simpa using hl⟩
theorem kZH {b : Nat} (hb : w.heap[b]? = some (.deferred (some []))) : (Instr.takeDeferred b).run P w = .ok [] (World.withBlock w b (.deferred none)) := by
 simp [Instr.takeDeferred, getObj, Sem.run, hb, setObj, World.withBlock]
theorem kZk {F : Fence} {n : Nat} {fn : Func} {tmps : Array Value} {env : List V} {cr : List Rv} (hc : fn.results.toList.mapM (cRes P) = some cr) {vs : List V} {r : V} (hv : r = pack vs) {R : Ending → World → Prop} {h1 : Heap} : ∀ (ms : List Nat) (ds : List Deferred) {S : Cells} {w : World} {κ : Kap} {h : Heap}, Inv P B S w κ h → RL S w κ env tmps.toList → MK κ ms ds →
  takeMarks h ms = some h1 → evRes env h1 cr = some vs → (∀ v w' S' κ', Inv P B S' w' κ' h1 → Stp B S w κ S' w' κ' → RV S' w' κ' r v → R (.returned v) w') → LeavesInM F n P fn tmps R ds .returning w
 | [], [], S, w, κ, h, inv, hr, _, ht, he, hR => by
  simp only [takeMarks, Option.some.injEq] at ht
  subst ht
  obtain ⟨v, h1, h2⟩ := xZp inv hr hc he hv
  exact ⟨v, h1, hR _ _ _ _ inv (.refl _ _ _ _) h2⟩
 | [], _ :: _, S, w, κ, h, inv, hr, hm, _, _, _ => hm.elim
 | _ :: _, [], S, w, κ, h, inv, hr, hm, _, _, _ => hm.elim
 | m :: ms, d :: ds, S, w, κ, h, inv, hr, hm, ht, he, hR => by
  obtain ⟨⟨b, hb, rfl⟩, hm⟩ := hm
  simp only [takeMarks] at ht
  split at ht
  ·rename_i hob
   obtain ⟨b', o1, o2⟩ := inv.obs _ _ hob
   rw [hb] at o1; cases o1
   simp only [Bool.false_eq_true, if_false] at o2
   obtain ⟨inv1, st1⟩ := Inv.over inv (o1 := .deferred none) hb o2 (fun w hw o => xZN w hw o) (fun w hw o => xZN w hw o) (.defr true) (fun _ _ hw => ⟨b, qZo _ _ _, by simpa using hw⟩)
   refine ⟨by simp, .inl ⟨b, _, rfl, kZH o2, ?_⟩⟩
   exact kZk hc hv ms ds inv1 (RL.mono st1.sle st1.kle _ _ hr) (MK.mono st1.kle _ _ hm) ht he (fun v w' S' κ' i s q => hR v w' S' κ' i (st1.trans s) q)
  ·cases ht
def BodyS (G : Glob) (P : Program) (f : FuncId) (cf : Cf) : Prop :=
 ∀ {call : CallF}, CallS G P call → ∀ {lf : Nat} {args : List V} {as : Array Value} {x : V} {h h' : Heap}, evBody call lf cf args h = some (x, h') →
  ∀ {B : Base G} {S : Cells} {w : World} {κ : Kap}, Inv P B S w κ h → RL S w κ args as.toList → ∀ n, CallsIn Fence.wide n P f as w (Ends P B S w κ x h')
def Told (G : Glob) (P : Program) (f : FuncId) (cf : Cf) : Prop := ∃ fn c, P.funcs[f]? = some fn ∧ fn.name ≠ "runtime.NumGoroutine" ∧ fn.body = some c ∧ BodyS G P f cf
def Tells (G : Glob) (P : Program) (Φ : Nat → Option Cf) : Prop := ∀ f cf, Φ f = some cf → Told G P f cf
theorem RL_reps {n : Nat} : RL S w κ (List.replicate n V.non) (List.replicate n undef) := kZh jZr n
theorem jZR (hP : P.follows .mixedOrders = true) {call : CallF} (hcall : CallS G P call) {lf : Nat} {f : FuncId} {fn : Func} {cf : Cf} (hf : P.funcs[f]? = some fn) (hc : cFunc P cf.pure fn = some cf)
  {args : List V} {as : Array Value} {x : V} {h' : Heap} (he : evBody call lf cf args h = some (x, h')) (inv : Inv P B S w κ h) (hr : RL S w κ args as.toList) (n : Nat) :
  CallsIn Fence.wide n P f as w (Ends P B S w κ x h') := by
 unfold cFunc at hc
 split at hc
 case h_2 => cases hc
 rename_i c hb
 split at hc
 case h_2 => cases hc
 rename_i cb cr hcb hcr
 simp only [Option.some.injEq] at hc
 unfold evBody at he
 obtain ⟨_, he⟩ := vZn he
 have hbody : cf.body = cb := by rw [← hc]
 have hnt : cf.ntmps = fn.ntmps := by rw [← hc]
 have hres : cf.results = cr := by rw [← hc]
 rw [hbody, hnt, hres] at he
 have hlen := qZS hr
 refine callsIn_of_wp_marks hf hb trivial ?_
 have hs : SR P B S w κ { env := args ++ List.replicate (fn.ntmps - args.length) V.non, marks := [], heap := h } { tmps := as ++ Array.replicate (fn.ntmps - as.size) undef, defers := [] } :=
  ⟨inv, by simp only [Array.toList_append, Array.toList_replicate]; rw [show as.size = args.length from by simpa using hlen.symm]; exact vZd hr RL_reps, trivial⟩
 split at he
 ·cases he
 ·rename_i e s hne hev
  split at he
  ·cases he
  ·rename_i h1 ht
   have fin : ∀ (vs : List V), evRes s.env h1 cr = some vs → x = pack vs → h' = h1 → c.wpIn Fence.wide n P (bodyPostM Fence.wide n P fn (Ends P B S w κ x h')) { tmps := as ++ Array.replicate (fn.ntmps - as.size) undef, defers := [] } w := by
    rintro vs hvs hx rfl
    refine wZ3 hP hcall lf c cb hcb none none _ e s hev n hs trivial _ (fun a' w' S' κ' hs' st => ?_)
    have := kZk (F := Fence.wide) (n := n) (fn := fn) (R := Ends P B S w κ x h') hcr hx s.marks a'.defers hs'.inv hs'.env hs'.mks ht hvs (fun v w2 S2 κ2 i2 s2 q2 => ⟨v, S2, κ2, rfl, i2, st.trans s2, q2⟩)
    cases e with
    | normal => exact this
    | ret => exact this
    | exit i => exact (hne i rfl).elim
   split at he
   ·rename_i v hv
    simp only [Option.some.injEq, Prod.mk.injEq] at he
    exact fin [v] hv he.1.symm he.2.symm
   ·rename_i vs hn hv
    simp only [Option.some.injEq, Prod.mk.injEq] at he
    refine fin vs hv ?_ he.2.symm
    unfold pack
    split
    ·exact absurd rfl (hn _)
    ·exact he.1.symm
   ·cases he
 ·cases he
theorem zZK (hP : P.follows .mixedOrders = true) {f : FuncId} {fn : Func} {cf : Cf} (hf : P.funcs[f]? = some fn) (hn : fn.name ≠ "runtime.NumGoroutine") (hc : cFunc P cf.pure fn = some cf) : Told G P f cf := by
 have hb : ∃ c, fn.body = some c := by
  unfold cFunc at hc
  split at hc
  ·exact ⟨_, by assumption⟩
  ·cases hc
 obtain ⟨c, hb⟩ := hb
 exact ⟨fn, c, hf, hn, hb, fun hcall _ _ _ _ _ _ he _ _ _ _ inv hr n => jZR hP hcall hf hc he inv hr n⟩
theorem kZi {f : FuncId} {fn : Func} {c : Code} (hf : P.funcs[f]? = some fn) (hn : fn.name ≠ "runtime.NumGoroutine") (hb : fn.body = some c) (args : Array Value) (w' : World) :
  (callFunc f args).run P w' = .ok (.enter f args) w' := by
 simp [callFunc, hf, hn, hb]
theorem jZK : ∀ (ps : List Nat) (args : List V) (us : List Value) (env : List V) (tmps : Array Value), args.length = ps.length → RL S w κ args us → RL S w κ env tmps.toList →
  RL S w κ (setMany env ps args) ((ps.zip us).foldl (fun (tmps : Array Value) (p : Nat × Value) => tmps.setIfInBounds p.1 p.2) tmps).toList
 | [], [], us, env, tmps, _, _, hr => by simpa [setMany] using hr
 | [], _ :: _, us, env, tmps, hl, _, _ => by simp at hl
 | _ :: _, [], us, env, tmps, hl, _, _ => by simp at hl
 | p :: ps, x :: xs, [], env, tmps, _, h, _ => by simp [RL] at h
 | p :: ps, x :: xs, u :: us, env, tmps, hl, h, hr => by
  simp only [RL] at h
  simp only [setMany, List.zip_cons_cons, List.foldl_cons]
  exact jZK ps xs us _ _ (by simpa using hl) h.2 (by simpa using RL_set p hr h.1)
theorem call_sound (hP : P.follows .mixedOrders = true) {Φ : Nat → Option Cf} (hΦ : Tells G P Φ) : ∀ n, CallS G P (evCall Φ n) := by
 intro n
 induction n with
 | zero => intro f args h x h' hh; simp [evCall] at hh
 | succ n ih =>
  intro f args h x h' hh B S w κ fv vs inv hf hr
  cases f
  case fn f first caps =>
   cases f
   case func f =>
    simp only [evCall] at hh
    split at hh
    ·cases hh
    ·rename_i cf hcf
     obtain ⟨fn, c, hfn, hname, hb, hbs⟩ := hΦ f cf hcf
     obtain ⟨a', c', rfl, hra, hrc⟩ : ∃ a' c', fv = .func (.func f) a' c' ∧ RL S w κ first a'.toList ∧ RL S w κ caps c'.toList := by simpa only [RV] using hf
     have hargs : RL S w κ (first ++ args ++ caps) (a' ++ vs ++ c').toList := by
      simp only [Array.toList_append]
      exact vZd (vZd hra hr) hrc
     refine ⟨{ target := .fn (.func f) c', args := a' ++ vs }, .enter f (a' ++ vs ++ c'), rfl, ?_, fun k => ?_, fun _ => ⟨_, _, rfl⟩⟩
     ·simp only [invoke]
      exact kZi hfn hname hb _ _
     split at hh
     ·-- a pure function: in a heap of its own
      split at hh
      ·cases hh
      ·rename_i as h1 hm
       split at hh
       ·cases hh
       ·rename_i r h2 hbody
        simp only [Option.map_eq_some_iff, Prod.mk.injEq] at hh
        obtain ⟨⟨r', h3⟩, hfz, rfl, rfl⟩ := hh
        obtain ⟨S1, inv1, st1, hr1⟩ := fzs_sound hm inv hargs
        have inv0 : Inv P (⟨w.heap.size, Nat.le_trans B.le inv.bw⟩ : Base G) S1 w noK [] := ⟨fun i o ho => (by simp at ho), fun i j k k' h => (by cases h), fun i k h => (by cases h), inv1.sb, Nat.le_refl _, inv1.gl⟩
        refine CallsIn.mono (hbs ih hbody inv0 hr1 k) (fun e w' he => ?_)
        obtain ⟨v, S2, κ2, rfl, inv2, st2, hv⟩ := he
        obtain ⟨S3, inv3, st3, hv3, _⟩ := fz_sound (B := (⟨w.heap.size, Nat.le_trans B.le inv.bw⟩ : Base G)) fzDepth S2 h2 r r' h3 v hfz inv2 hv
        have st23 := st2.trans st3
        have hsz : B ≤ w.heap.size := inv.bw
        have hgrow : w.heap.size ≤ w'.heap.size := st23.below.size
        have hsame : ∀ b, b < w.heap.size → w'.heap[b]? = w.heap[b]? := fun b hb => st23.below.block b hb
        refine ⟨v, S3, κ, rfl, ⟨fun i o ho => ?_, inv1.dis, fun i k hk => ?_, inv3.sb, by omega, inv3.gl⟩, ⟨?_, st1.sle.trans st23.sle, .refl _, fun b o h => ?_⟩, RV.mono (.refl _ _) (fun _ _ h => by cases h) _ _ hv3⟩
        ·refine OI.mono st23.sle (.refl _) st23.new (fun k hk => ?_) id (inv1.obs i o ho)
         have := (inv1.dom _ _ hk).2.2
         exact ⟨hk, hsame _ this, this⟩
        ·have := inv1.dom _ _ hk
         exact ⟨this.1, this.2.1, by omega⟩
        ·exact st23.below.mono hsz
        ·rcases st23.new b o h with h | h
         ·exact st1.new b o h
         ·exact .inr (Nat.le_trans hsz h)
     ·exact hbs ih hh inv hargs k
   case yield l =>
    simp only [evCall] at hh
    split at hh
    case h_2 => cases hh
    rename_i pend env ps asg body df hob
    obtain ⟨hlen, hh⟩ := zZN hh
    obtain ⟨b, hb, rfl, rfl, rfl⟩ : ∃ b, κ l = some (.blk b) ∧ fv = .func (.yield b) #[] #[] ∧ first = [] ∧ caps = [] := by simpa only [RV] using hf
    obtain ⟨b', db, L, o1, o2, o3, o4, o5, o6, o7, o8, o9, o10⟩ := inv.obs _ _ hob
    rw [hb] at o1; cases o1
    have hsz : vs.size = L.params.size := by
     have := qZS hr
     rw [← o6] at hlen
     simp at hlen this
     omega
    refine ⟨{ target := .fn (.yield b) #[], args := #[] ++ vs }, .round b L.fn ((L.params.zip vs).foldl (fun tmps (t, a) => tmps.setIfInBounds t a) L.tmps) L.assign L.body, rfl, ?_, fun k => ?_, fun hne => absurd rfl (hne _ _ _)⟩
    ·simp [invoke, Instr.yield, wZd o2, hsz]
    split at hh
    case h_2 => cases hh
    rename_i s1 hs1
    split at hh
    case h_2 => cases hh
    rename_i pend1 env1 ps1 asg1 body1 df1 hob1
    split at hh
    case h_2 => cases hh
    rename_i e s2 hs2
    split at hh
    case h_2 => cases hh
    rename_i st2' pend2 env2 ps2 asg2 body2 df2 hob2
    refine roundIn_of_wpIn trivial ?_
    have hs0 : SR P B S w κ { env := setMany env ps args, marks := [], heap := h } { tmps := (L.params.zip vs).foldl (fun tmps (t, a) => tmps.setIfInBounds t a) L.tmps, defers := [] } := by
     refine ⟨inv, ?_, trivial⟩
     have := jZK ps args vs.toList env L.tmps hlen hr o5
     rw [← o6] at this
     rw [← Array.foldl_toList, Array.toList_zip, ← o6]
     exact this
    refine wZ3 hP ih n L.assign asg o7 (some l) (some b) _ .normal s1 hs1 k hs0 hb _ (fun a1 w1 S1 κ1 hr1 st1 => ?_)
    obtain ⟨b', db1, L1, p1, p2, p3, p4, p5, p6, p7, p8, p9, p10⟩ := hr1.inv.obs _ _ hob1
    obtain ⟨k', hk', le⟩ := st1.kle _ _ hb
    cases le
    rw [hk'] at p1; cases p1
    refine ⟨World.withBlock w1 b (.loop { L1 with state := .busy }), by simp [Instr.beginRound, wZd p2, jZm p2, p3], ?_⟩
    obtain ⟨inv2, st2⟩ := Inv.over hr1.inv (o1 := .loop { L1 with state := .busy }) hk' p2 (fun w hw o => vZ8 w hw o) (fun w hw o => vZ8 w hw o) (.loop .busy pend1 env1 ps1 asg1 body1 df1)
     (fun sle kle hw => by
      obtain ⟨k', hk'', le⟩ := kle _ _ p9
      cases le
      exact ⟨b, db1, _, qZo _ _ _, hw, rfl, p4, RL.mono sle kle _ _ p5, p6, p7, p8, hk'', p10⟩)
    have hsr2 : SR P B S1 (World.withBlock w1 b (.loop { L1 with state := .busy })) (upd κ1 l (.blk b)) { s1 with heap := s1.heap.set l (.loop .busy pend1 env1 ps1 asg1 body1 df1) } a1 :=
     ⟨inv2, RL.mono st2.sle st2.kle _ _ hr1.env, MK.mono st2.kle _ _ hr1.mks⟩
    refine wZ3 hP ih n L.body body o8 (some l) (some b) _ e s2 hs2 k hsr2 (qZo _ _ _) _ (fun a2 w3 S3 κ3 hr3 st3 => ?_)
    obtain ⟨b', db2, L2, q1, q2, q3, q4, q5, q6, q7, q8, q9, q10⟩ := hr3.inv.obs _ _ hob2
    obtain ⟨k', hk3, le⟩ := st3.kle _ _ (qZo κ1 l (.blk b))
    cases le
    rw [hk3] at q1; cases q1
    have stA := st1.trans (st2.trans st3)
    have fin : ∀ (jump : Option Code) (pd : Option Ex), PJ pd jump → x = .bool jump.isNone → h' = s2.heap.set l (.loop (if jump.isNone then .ready else .done) pd env2 ps2 asg2 body2 df2) →
      ∃ v w', (Instr.endRound b jump).run P w3 = .ok v w' ∧ Ends P B S w κ x h' (.returned v) w' := by
     rintro jump pd hpj rfl rfl
     obtain ⟨inv4, st4⟩ := Inv.over hr3.inv (o1 := .loop { L2 with state := if jump.isNone then .ready else .done, pending := jump }) hk3 q2 (fun w hw o => vZ8 w hw o) (fun w hw o => vZ8 w hw o) (.loop (if jump.isNone then .ready else .done) pd env2 ps2 asg2 body2 df2)
      (fun sle kle hw => by
       obtain ⟨k', hk'', le⟩ := kle _ _ q9
       cases le
       exact ⟨b, db2, _, qZo _ _ _, hw, rfl, hpj, RL.mono sle kle _ _ q5, q6, q7, q8, hk'', q10⟩)
     exact ⟨.bool jump.isNone, _, by simp [Instr.endRound, wZd q2, jZm q2], ⟨.bool jump.isNone, S3, _, rfl, inv4, stA.trans st4, by simp only [RV]⟩⟩
    cases e with
    | normal =>
     simp only [Option.some.injEq, Prod.mk.injEq] at hh
     exact fin none none trivial hh.1.symm hh.2.symm
    | exit i =>
     simp only [Option.some.injEq, Prod.mk.injEq] at hh
     exact fin (some (.exit i)) (some (.exit i)) rfl hh.1.symm hh.2.symm
    | ret =>
     simp only [Option.some.injEq, Prod.mk.injEq] at hh
     exact fin (some .ret) (some .ret) trivial hh.1.symm hh.2.symm
   all_goals simp [evCall] at hh
  all_goals simp [evCall] at hh
end
end Go.Ev
