/- copy, slices, len, conversions, against nil, max and min. copy, conversions, max and min. Texts and bytes. Maps. No conditions. -/
import Derived.Test.YtaeklgflchhmfaaGreatDoorEvK
import Derived.Lib.ConvBytes
import Derived.Laws.BytesString
set_option maxHeartbeats 16000000
set_option maxRecDepth 100000
set_option linter.unusedVariables false
set_option linter.unusedSimpArgs false
set_option linter.unusedSectionVars false
namespace Go.Ev
open Go.RowKit
section
variable {P : Program} {G : Glob} {B : Base G} {S : Cells} {w : World} {κ : Kap} {h : Heap}
theorem ME_length : ∀ (xs : List (V × V × Nat)) (ys : List MapEntry), ME S w κ xs ys → xs.length = ys.length
 | [], [], _ => rfl
 | [], _ :: _, h => h.elim
 | _ :: _, [], h => h.elim
 | x :: xs, y :: ys, h => by simp [ME_length xs ys h.2.2.2]
theorem kZa (inv : Inv P B S w κ h) {id : Nat} {es : List (V × V × Nat)} {clock : Nat} (hi : h[id]? = some (.map es clock)) {u : Value} (hx : RV S w κ (.map id) u) :
  ∃ b es', u = .map (some b) ∧ κ id = some (.blk b) ∧ w.heap[b]? = some (.map es' clock) ∧ ME S w κ es es'.toList := by
 obtain ⟨b, es', h1, h2, h3⟩ := inv.obs _ _ hi
 simp only [RV] at hx
 obtain ⟨b', k1, rfl⟩ := hx
 rw [h1] at k1; cases k1
 exact ⟨b, es', rfl, h1, h2, h3⟩
theorem vZx {b : Nat} {es : Array MapEntry} {clock : Nat} (hb : w.heap[b]? = some (.map es clock)) : (getObj b).run P w = .ok (.map es clock) w := by
 simp [getObj, Sem.run, hb]
theorem len_s {t T : TypeId} (ht : P.underlying t = some .string) {x : V} {u : Value} {n : Nat} (hx : RV S w κ x u) (hh : lenV .s h x = some n) :
  (Builtin.len_ #[t] T #[u]).run P w = .ok (.int .i64 n) w := by
 cases x <;> simp only [lenV, Option.some.injEq, reduceCtorEq] at hh
 simp only [RV] at hx
 subst hx; subst hh
 simp [Builtin.len_, run_underlying ht, goInt]
theorem xZ3 {x : V} {u : Value} {n : Nat} (hx : RV S w κ x u) (hh : lenV .l h x = some n) : ∃ a c, u = .slice a n c := by
 cases x <;> simp only [lenV, Option.some.injEq, reduceCtorEq] at hh
 case nils => simp only [RV] at hx; subst hh; exact ⟨_, _, hx⟩
 case nile => simp only [RV] at hx; subst hh; obtain ⟨a, rfl⟩ := hx; exact ⟨_, _, rfl⟩
 case arr => simp only [RV] at hx; obtain ⟨a, c, rfl, _⟩ := hx; subst hh; exact ⟨_, _, rfl⟩
 case sl => simp only [RV] at hx; obtain ⟨_, _, _, _, _, a, c, _, _, rfl, _⟩ := hx; subst hh; exact ⟨_, _, rfl⟩
theorem len_l {t T e : TypeId} (ht : P.underlying t = some (.slice e)) {x : V} {u : Value} {n : Nat} (hx : RV S w κ x u) (hh : lenV .l h x = some n) :
  (Builtin.len_ #[t] T #[u]).run P w = .ok (.int .i64 n) w := by
 obtain ⟨a, c, rfl⟩ := xZ3 hx hh
 simp [Builtin.len_, run_underlying ht, goInt]
theorem len_m (inv : Inv P B S w κ h) {t T k e : TypeId} (ht : P.underlying t = some (.map k e)) {x : V} {u : Value} {n : Nat} (hx : RV S w κ x u) (hh : lenV .m h x = some n) :
  (Builtin.len_ #[t] T #[u]).run P w = .ok (.int .i64 n) w := by
 cases x <;> simp only [lenV, Option.some.injEq, reduceCtorEq] at hh
 case nilm => simp only [RV] at hx; subst hx; subst hh; simp [Builtin.len_, run_underlying ht, goInt]
 case map id =>
  split at hh
  ·rename_i es clock hi
   cases hh
   obtain ⟨b, es', rfl, h1, h2, h3⟩ := kZa inv hi hx
   have hl := ME_length _ _ h3
   simp at hl
   simp [Builtin.len_, run_underlying ht, goInt, vZx h2, hl]
  ·cases hh
theorem jZ3 {k : Lk} {x z : V} {h' : Heap} (hh : evLen h k x = some (z, h')) : ∃ n, lenV k h x = some n ∧ z = .int .i64 n ∧ h' = h := by
 unfold evLen at hh
 split at hh
 ·rename_i n hn
  simp only [qZ5, Option.some.injEq, Prod.mk.injEq] at hh
  exact ⟨n, hn, hh.1.symm, hh.2.symm⟩
 ·cases hh
/-! ### Against nil -/
def nkT (P : Program) (t : TypeId) : Lk → Prop
 | .p => ∃ e, P.underlying t = some (.pointer e)
 | .l => ∃ e, P.underlying t = some (.slice e)
 | .m => ∃ k e, P.underlying t = some (.map k e)
 | .f => ∃ a b c, P.underlying t = some (.func a b c)
 | .s => False
theorem jZk {k : Lk} {x : V} {u : Value} {b : Bool} (hx : RV S w κ x u) (hh : nilOf k x = some b) :
  match k with
  | .p => (b = true ∧ u = .pointer none) ∨ (b = false ∧ ∃ a, u = .pointer (some a))
  | .l => (b = true ∧ u = .slice none 0 0) ∨ (b = false ∧ ∃ a n c, u = .slice (some a) n c)
  | .m => (b = true ∧ u = .map none) ∨ (b = false ∧ ∃ a, u = .map (some a))
  | .f => (b = true ∧ u = .nilFunc) ∨ (b = false ∧ ∃ f a c, u = .func f a c)
  | .s => False := by
 cases k
 case p =>
  cases x <;> simp only [nilOf, Option.some.injEq, reduceCtorEq] at hh
  case nilp => simp only [RV] at hx; exact .inl ⟨hh.symm, hx⟩
  case ptr => simp only [RV] at hx; obtain ⟨_, _, rfl⟩ := hx; exact .inr ⟨hh.symm, _, rfl⟩
  case eptr => simp only [RV] at hx; obtain ⟨_, _, _, _, _, _, _, _, rfl, _⟩ := hx; exact .inr ⟨hh.symm, _, rfl⟩
  case iptr => simp only [RV] at hx; obtain ⟨_, _, rfl, _⟩ := hx; exact .inr ⟨hh.symm, _, rfl⟩
 case l =>
  cases x <;> simp only [nilOf, Option.some.injEq, reduceCtorEq] at hh
  case nils => simp only [RV] at hx; exact .inl ⟨hh.symm, hx⟩
  case arr xs =>
   cases xs with
   | nil => cases hh
   | cons e r =>
    simp only [RV] at hx
    obtain ⟨a, c, rfl, _, hx⟩ := hx
    rcases hx with hx | ⟨_, _, _, rfl, _⟩
    ·cases hx
    ·exact .inr ⟨by simpa using hh.symm, _, _, _, rfl⟩
  case sl => simp only [RV] at hx; obtain ⟨_, _, _, _, _, _, _, _, _, rfl, _⟩ := hx; exact .inr ⟨hh.symm, _, _, _, rfl⟩
 case m =>
  cases x <;> simp only [nilOf, Option.some.injEq, reduceCtorEq] at hh
  case nilm => simp only [RV] at hx; exact .inl ⟨hh.symm, hx⟩
  case map => simp only [RV] at hx; obtain ⟨_, _, rfl⟩ := hx; exact .inr ⟨hh.symm, _, rfl⟩
 case f =>
  cases x with
  | nilf => simp only [nilOf, Option.some.injEq] at hh; simp only [RV] at hx; exact .inl ⟨hh.symm, hx⟩
  | fn f a c =>
   have hb : b = false := by simpa [nilOf] using hh.symm
   cases f <;> (simp only [RV] at hx; obtain ⟨_, _, rfl, _⟩ := hx; exact .inr ⟨hb, _, _, _, rfl⟩)
  | _ => simp [nilOf] at hh
 case s => simp [nilOf] at hh
theorem eqn_sound {k : Lk} {t : TypeId} (ht : nkT P t k) {x y : V} {u v : Value} {r : Bool} (hx : RV S w κ x u) (hy : RV S w κ y v) (hh : eqnV k x y = some r) (D : Nat) (w' : World) :
  (Op.equalIn (D + 1) t u v).run P w' = .ok r w' := by
 unfold eqnV at hh
 cases hn : nilOf k x with
 | none => rw [hn] at hh; cases hh
 | some b =>
  rw [hn] at hh
  have h1 := jZk hx hn
  cases hm : nilOf k y with
  | none => rw [hm] at hh; cases b <;> cases hh
  | some b' =>
   rw [hm] at hh
   have h2 := jZk hy hm
   cases k
   case p =>
    obtain ⟨e, he⟩ := ht
    rcases h1 with ⟨rfl, rfl⟩ | ⟨rfl, a, rfl⟩ <;> rcases h2 with ⟨rfl, rfl⟩ | ⟨rfl, a', rfl⟩ <;> cases hh <;>
     simp only [Op.equalIn, Sem.run_bind, run_underlying he, Result.andThen_ok, Option.isNone, Sem.run_pure]
   case l =>
    obtain ⟨e, he⟩ := ht
    rcases h1 with ⟨rfl, rfl⟩ | ⟨rfl, a, n, c, rfl⟩ <;> rcases h2 with ⟨rfl, rfl⟩ | ⟨rfl, a', n', c', rfl⟩ <;> cases hh <;>
     simp only [Op.equalIn, Sem.run_bind, run_underlying he, Result.andThen_ok, Option.isNone, Sem.run_pure]
   case m =>
    obtain ⟨e, e', he⟩ := ht
    rcases h1 with ⟨rfl, rfl⟩ | ⟨rfl, a, rfl⟩ <;> rcases h2 with ⟨rfl, rfl⟩ | ⟨rfl, a', rfl⟩ <;> cases hh <;>
     simp only [Op.equalIn, Sem.run_bind, run_underlying he, Result.andThen_ok, Option.isNone, Sem.run_pure]
   case f =>
    obtain ⟨e, e', e'', he⟩ := ht
    rcases h1 with ⟨rfl, rfl⟩ | ⟨rfl, a, n, c, rfl⟩ <;> rcases h2 with ⟨rfl, rfl⟩ | ⟨rfl, a', n', c', rfl⟩ <;> cases hh <;>
     simp only [Op.equalIn, Sem.run_bind, run_underlying he, Result.andThen_ok, Option.isNone, Sem.run_pure]
   case s => exact ht.elim
/-! ### Slices -/
theorem bound_sound {x : V} {u : Value} {n m : Nat} (c : BoundsCode) (hx : RV S w κ x u) (hh : bound x n = some m) (w' : World) :
  m ≤ n ∧ (Instr.sliceBound u n c).run P w' = .ok m w' := by
 unfold bound at hh
 split at hh
 ·obtain ⟨hc, rfl⟩ := qZR hh
  simp only [RV] at hx
  subst hx
  exact ⟨by omega, by simp [Instr.sliceBound, asIntOf, hc]⟩
 ·cases hh
def RO (S : Cells) (w : World) (κ : Kap) : Option V → Option Value → Prop
 | some x, some u => RV S w κ x u
 | none, none => True
 | _, _ => False
theorem vZQ {len most cap : Nat} {lo hi : Option V} {lo' hi' : Option Value} {l m : Nat} (isS : Bool) (hmost : most ≤ cap) (hlen : len ≤ most)
  (hlo : RO S w κ lo lo') (hhi : RO S w κ hi hi') (hh : lohi len most lo hi = some (l, m)) (w' : World) :
  l ≤ m ∧ m ≤ most ∧ (Instr.sliceBounds isS len cap lo' hi' none).run P w' = .ok (l, m, cap) w' := by
 have bnd : ∀ {x : V} {u : Value} {n c m : Nat} (code : BoundsCode), n ≤ c → RV S w κ x u → bound x n = some m → m ≤ n ∧ (Instr.sliceBound u c code).run P w' = .ok m w' := by
  intro x u n c m code hnc hx hb
  unfold bound at hb
  split at hb
  ·obtain ⟨hc, rfl⟩ := qZR hb
   simp only [RV] at hx
   subst hx
   refine ⟨by omega, ?_⟩
   simp only [Instr.sliceBound, asIntOf, Sem.run_bind, Sem.run_pure, Result.andThen_ok]
   rw [if_pos (by omega)]
   rfl
  ·cases hb
 unfold lohi at hh
 cases hi with
 | none =>
  cases hi' with
  | some _ => exact hhi.elim
  | none =>
   simp only at hh
   cases lo with
   | none =>
    cases lo' with
    | some _ => exact hlo.elim
    | none =>
     simp only [Option.some.injEq, Prod.mk.injEq] at hh
     obtain ⟨rfl, rfl⟩ := hh
     exact ⟨by omega, hlen, by simp [Instr.sliceBounds]⟩
   | some x =>
    cases lo' with
    | none => exact hlo.elim
    | some u =>
     simp only at hh
     split at hh
     ·cases hh
     ·rename_i l' hl
      simp only [Option.some.injEq, Prod.mk.injEq] at hh
      obtain ⟨rfl, rfl⟩ := hh
      obtain ⟨b1, b2⟩ := bnd .sliceB (Nat.le_refl _) hlo hl
      exact ⟨b1, hlen, by simp [Instr.sliceBounds, b2]⟩
 | some y =>
  cases hi' with
  | none => exact hhi.elim
  | some v =>
   simp only at hh
   split at hh
   ·cases hh
   ·rename_i h' hm
    obtain ⟨c1, c2⟩ := bnd (if isS = true then .sliceAcap else .sliceAlen) hmost hhi hm
    cases lo with
    | none =>
     cases lo' with
     | some _ => exact hlo.elim
     | none =>
      simp only [Option.some.injEq, Prod.mk.injEq] at hh
      obtain ⟨rfl, rfl⟩ := hh
      exact ⟨by omega, c1, by simp [Instr.sliceBounds, c2]⟩
    | some x =>
     cases lo' with
     | none => exact hlo.elim
     | some u =>
      simp only at hh
      split at hh
      ·cases hh
      ·rename_i l' hl
       simp only [Option.some.injEq, Prod.mk.injEq] at hh
       obtain ⟨rfl, rfl⟩ := hh
       obtain ⟨b1, b2⟩ := bnd .sliceB (Nat.le_refl _) hlo hl
       exact ⟨b1, c1, by simp [Instr.sliceBounds, c2, b2]⟩
theorem sliceS_sound {t : TypeId} (ht : P.underlying t = some .string) {x z : V} {u : Value} {lo hi : Option V} {lo' hi' : Option Value} (hx : RV S w κ x u)
  (hlo : RO S w κ lo lo') (hhi : RO S w κ hi hi') (hh : sliceS x lo hi = some z) : ∃ v, RV S w κ z v ∧ ∀ w', (Instr.sliceAt t u lo' hi' none).run P w' = .ok v w' := by
 unfold sliceS at hh
 split at hh
 ·split at hh
  ·rename_i s p hp
   cases hh
   simp only [RV] at hx
   subst hx
   refine ⟨_, rfl, fun w' => ?_⟩
   obtain ⟨_, _, r⟩ := vZQ (P := P) false (Nat.le_refl _) (Nat.le_refl _) hlo hhi hp w'
   simp [Instr.sliceAt, Instr.slice, run_underlying ht, r]
  ·cases hh
 ·cases hh
theorem RE_drop : ∀ (n : Nat) {xs : List (List V)} {b o sz : Nat}, RE S w xs b o sz → RE S w (xs.drop n) b (o + n * sz) sz
 | 0, xs, b, o, sz, h => by simpa using h
 | n + 1, [], b, o, sz, h => by simp [RE]
 | n + 1, x :: xs, b, o, sz, h => by
  simp only [RE] at h
  have := RE_drop n h.2.2
  rw [Nat.succ_mul, show o + (n * sz + sz) = o + sz + n * sz by omega]
  simpa using this
theorem RE_take : ∀ (n : Nat) {xs : List (List V)} {b o sz : Nat}, RE S w xs b o sz → RE S w (xs.take n) b o sz
 | 0, xs, b, o, sz, h => by simp [RE]
 | n + 1, [], b, o, sz, h => by simp [RE]
 | n + 1, x :: xs, b, o, sz, h => by
  simp only [RE] at h
  simp only [List.take_succ_cons, RE]
  exact ⟨h.1, h.2.1, RE_take n h.2.2⟩
theorem jZL {t e : TypeId} {n : Nat} (ht : P.underlying t = some (.slice e)) (hn : sizeT P e = some n) {a : Option Addr} {len cap l m : Nat} {lo' hi' : Option Value} (w' : World)
  (r : (Instr.sliceBounds true len cap lo' hi' none).run P w' = .ok (l, m, cap) w') :
  (Instr.sliceAt t (.slice a len cap) lo' hi' none).run P w' = .ok (.slice (if cap = l then a else a.map (·.add (l * n))) (m - l) (cap - l)) w' := by
 simp [Instr.sliceAt, Instr.slice, run_underlying ht, r, vZf hn]
theorem sliceL_sound (inv : Inv P B S w κ h) {t e : TypeId} {n : Nat} (ht : P.underlying t = some (.slice e)) (hn : sizeT P e = some n) {x z : V} {u : Value} {lo hi : Option V} {lo' hi' : Option Value}
  (hx : RV S w κ x u) (hlo : RO S w κ lo lo') (hhi : RO S w κ hi hi') (hh : sliceL h n x lo hi = some z) :
  ∃ v, RV S w κ z v ∧ ∀ w', (Instr.sliceAt t u lo' hi' none).run P w' = .ok v w' := by
 unfold sliceL at hh
 split at hh
 ·split at hh
  ·rename_i p hp
   cases hh
   simp only [RV] at hx
   subst hx
   refine ⟨.slice none 0 0, by simp [RV], fun w' => ?_⟩
   obtain ⟨h1, h2, r⟩ := vZQ (P := P) (l := p.1) (m := p.2) true (Nat.le_refl _) (Nat.le_refl _) hlo hhi hp w'
   rw [jZL ht hn w' r]
   have : p.2 = 0 := by omega
   have : p.1 = 0 := by omega
   simp [*]
  ·cases hh
 ·split at hh
  ·rename_i p hp
   cases hh
   simp only [RV] at hx
   obtain ⟨a, rfl⟩ := hx
   obtain ⟨h1, h2, r⟩ := vZQ (P := P) (l := p.1) (m := p.2) true (Nat.le_refl _) (Nat.le_refl _) hlo hhi hp w
   refine ⟨.slice a 0 0, by simp [RV], fun w' => ?_⟩
   obtain ⟨h1, h2, r⟩ := vZQ (P := P) (l := p.1) (m := p.2) true (Nat.le_refl _) (Nat.le_refl _) hlo hhi hp w'
   rw [jZL ht hn w' r]
   have : p.2 = 0 := by omega
   have : p.1 = 0 := by omega
   simp [*]
  ·cases hh
 ·rename_i xs
  obtain ⟨hsz, h1⟩ := zZN hh
  split at h1
  ·rename_i p hp
   cases h1
   simp only [RV] at hx
   obtain ⟨a, cap, rfl, hcap, hx⟩ := hx
   obtain ⟨q1, q2, _⟩ := vZQ (P := P) (l := p.1) (m := p.2) true hcap (Nat.le_refl _) hlo hhi hp w
   refine ⟨_, ?_, fun w' => jZL ht hn w' (vZQ (P := P) (l := p.1) (m := p.2) true hcap (Nat.le_refl _) hlo hhi hp w').2.2⟩
   simp only [RV]
   have hl : ((xs.take p.2).drop p.1).length = p.2 - p.1 := by simp; omega
   refine ⟨_, cap - p.1, by rw [hl], by rw [hl]; omega, ?_⟩
   by_cases h0 : p.2 - p.1 = 0
   ·left
    apply List.eq_nil_of_length_eq_zero
    omega
   ·right
    rcases hx with rfl | ⟨b, o, sz, rfl, hre⟩
    ·simp at q2; omega
    ·have hsn : sz = n := by
      cases xs with
      | nil => simp at q2; omega
      | cons e r =>
       have k1 := (kZS hre (i := 0) (e := e) rfl).1
       have k2 := jZN.1 hsz e (by simp)
       omega
     subst hsn
     rw [if_neg (by omega)]
     exact ⟨b, o + p.1 * sz, sz, by simp [vZE], RE_drop _ (RE_take _ hre)⟩
  ·cases h1
 ·rename_i id ep off len
  split at hh
  ·rename_i zz xs cur wr hi
   obtain ⟨⟨hep, hzz⟩, h1⟩ := zZN hh
   subst hep
   subst hzz
   split at h1
   ·rename_i p hp
    cases h1
    obtain ⟨b, st, cp, c, el, fr, g1, g2, g3, g4, g5, g6, g7, g8, g9, g10, g11⟩ := vZk inv hi
    simp only [RV] at hx
    obtain ⟨e', b', st', cp', sz'', a, cc, k1, k2, rfl, kl, k3⟩ := hx
    rw [g1] at k1; cases k1
    obtain ⟨k4, k5, k6, k7⟩ := k3 rfl
    have hb := vZQ (P := P) (l := p.1) (m := p.2) (len := len) (cap := cc) true (by omega) (by omega) hlo hhi hp
    obtain ⟨q1, q2, _⟩ := hb w
    refine ⟨_, ?_, fun w' => jZL ht hn w' (hb w').2.2⟩
    by_cases hcl : cc = p.1
    ·rw [if_pos hcl]
     simp only [RV]
     exact ⟨_, b, st, cp, _, a, cc - p.1, g1, Nat.le_refl _, rfl, by omega, fun _ => ⟨by omega, by omega, by omega, .inl (by omega)⟩⟩
    ·rw [if_neg hcl]
     simp only [RV, Option.map_some]
     refine ⟨_, b, st, cp, _, _, cc - p.1, g1, Nat.le_refl _, rfl, by omega, fun _ => ⟨by omega, by omega, by omega, .inr ?_⟩⟩
     rcases k7 with k7 | rfl
     ·omega
     ·rw [vZE]
      congr 1
      rw [← Nat.add_mul]
      congr 1; omega
   ·cases h1
  ·cases hh
 ·cases hh
end
open Go.RowKit
section
variable {P : Program} {G : Glob} {B : Base G} {S : Cells} {w : World} {κ : Kap} {h : Heap}
theorem kZY {m : Nat} {x : V} {es : List (List V)} (hh : elemsTo h m x = some es) : es.length = m := by
 have gen : ∀ x, (match elemsOf h x with | some es => if m ≤ es.length then some (es.take m) else none | none => none) = some es → es.length = m := by
  intro x hh
  split at hh
  ·obtain ⟨h1, rfl⟩ := qZR hh
   simp; omega
  ·cases hh
 unfold elemsTo at hh
 split at hh
 ·obtain ⟨_, hh⟩ := zZN hh
  simp only [elemsOf] at hh
  split at hh
  ·obtain ⟨h1, rfl⟩ := qZR hh
   simp; omega
  ·cases hh
 ·exact gen _ hh
theorem evCopy_some {sz : Nat} {d x z : V} {h' : Heap} (hh : evCopy h sz d x = some (z, h')) :
  ∃ l m, lenAny h x = some l ∧ lenV .l h d = some m ∧ z = .int .i64 (min l m : Nat) ∧
   ((min l m = 0 ∧ h' = h) ∨ (min l m ≠ 0 ∧ ∃ es id ep off xs, elemsTo h (min l m) x = some es ∧ d = .sl id ep off m ∧ h[id]? = some (.row sz xs ep true) ∧ off ≤ xs.length ∧ (∀ e ∈ es, e.length = sz) ∧
    h' = h.set id (.row sz (xs.take off ++ es ++ xs.drop (off + min l m)) ep true))) := by
 unfold evCopy at hh
 split at hh
 ·cases hh
 ·rename_i l hl
  split at hh
  ·cases hh
  ·rename_i m hm
   simp only [qZ5] at hh
   refine ⟨l, m, hl, hm, ?_⟩
   split at hh
   ·rename_i h0
    simp only [Option.some.injEq, Prod.mk.injEq] at hh
    exact ⟨by rw [h0]; exact hh.1.symm, .inl ⟨h0, hh.2.symm⟩⟩
   ·rename_i h0
    split at hh
    ·cases hh
    ·rename_i es hes
     split at hh
     ·rename_i id ep off len
      split at hh
      ·rename_i zz xs cur hi
       obtain ⟨⟨h1, h2, h3, h4⟩, h5⟩ := zZN hh
       subst h1; subst h2
       simp only [qZW, Option.some.injEq, Prod.mk.injEq] at h5
       simp only [lenV, Option.some.injEq] at hm
       subst hm
       exact ⟨h5.1.symm, .inr ⟨h0, es, id, ep, off, xs, hes, rfl, hi, h3, jZN.1 h4, h5.2.symm⟩⟩
      ·cases hh
     ·cases hh
theorem lenAny_sound {x : V} {u : Value} {n : Nat} (hx : RV S w κ x u) (hh : lenAny h x = some n) : (Builtin.lenOf u).run P w = .ok n w := by
 unfold lenAny at hh
 split at hh
 ·simp only [Option.some.injEq] at hh
  subst hh
  simp only [RV] at hx
  subst hx
  simp [Builtin.lenOf]
 ·obtain ⟨a, c, rfl⟩ := xZ3 hx hh
  simp [Builtin.lenOf]
theorem first_sound (inv : Inv P B S w κ h) {sz m : Nat} (h0 : sz ≠ 0) {x : V} {u : Value} {es : List (List V)} (hx : RV S w κ x u) (hh : elemsTo h m x = some es) (hsz : ∀ e ∈ es, e.length = sz) (hm : m ≠ 0) :
  (∀ y ∈ es.flatten, y.isCell = true) ∧ ∃ vs : List Value, vs.length = m * sz ∧ RL S w κ es.flatten vs ∧ (Builtin.firstCells sz m u).run P w = .ok vs.toArray w := by
 have hlen := kZY hh
 by_cases hsl : ∃ id ep off len, x = .sl id ep off len
 ·obtain ⟨id, ep, off, len, rfl⟩ := hsl
  simp only [elemsTo] at hh
  obtain ⟨hml, hh⟩ := zZN hh
  simp only [RV] at hx
  obtain ⟨e', b', st', cp', sz', a, cc, k1, k2, rfl, kl, k3⟩ := hx
  have hx' : RV S w κ (.sl id ep off m) (.slice (some a) m cc) := by
   simp only [RV]
   exact ⟨e', b', st', cp', sz', a, cc, k1, k2, rfl, by omega, fun he => by obtain ⟨q1, q2, q3, q4⟩ := k3 he; exact ⟨q1, by omega, q3, q4⟩⟩
  obtain ⟨_, hc, hf⟩ := vZa inv h0 hx' hh hsz
  obtain ⟨vs, l, r, f⟩ := hf m (by omega)
  rw [List.take_of_length_le (by omega)] at r
  exact ⟨hc, vs, l, r, f⟩
 ·have hx2 : (match elemsOf h x with | some es => if m ≤ es.length then some (es.take m) else none | none => none) = some es := by
   cases x <;> first | exact absurd ⟨_, _, _, _, rfl⟩ hsl | exact hh
  split at hx2
  case h_2 => cases hx2
  rename_i fs hfs
  obtain ⟨hml, rfl⟩ := qZR hx2
  have hszf : ∀ e ∈ fs, e.length = sz := by
   have key : ∃ z, ∀ e ∈ fs, e.length = z := by
    cases x <;> simp only [elemsOf, Option.some.injEq, reduceCtorEq] at hfs
    case nils => subst hfs; exact ⟨0, by simp⟩
    case nile => subst hfs; exact ⟨0, by simp⟩
    case arr xs =>
     subst hfs
     simp only [RV] at hx
     obtain ⟨a, cap, rfl, _, hx⟩ := hx
     rcases hx with rfl | ⟨b, o, sz', _, hre⟩
     ·exact ⟨0, by simp⟩
     ·refine ⟨sz', fun e he => ?_⟩
      obtain ⟨i, hi⟩ := List.getElem?_of_mem he
      exact (kZS hre hi).1
    case str s => subst hfs; exact ⟨1, fun e he => by simp only [bytesOf, List.mem_map] at he; obtain ⟨b, _, rfl⟩ := he; rfl⟩
    case sl => exact absurd ⟨_, _, _, _, rfl⟩ hsl
   obtain ⟨z, hz⟩ := key
   have hne : fs ≠ [] := by intro e; subst e; simp at hml; exact hm hml
   obtain ⟨e0, r0, rfl⟩ := List.exists_cons_of_ne_nil hne
   have h1 : e0.length = sz := hsz e0 (by
    obtain ⟨k, rfl⟩ : ∃ k, m = k + 1 := ⟨m - 1, by omega⟩
    simp)
   have h2 := hz e0 (by simp)
   intro e he
   rw [hz e he, ← h2, h1]
  obtain ⟨_, hc, hf⟩ := vZa inv h0 hx hfs hszf
  obtain ⟨vs, l, r, f⟩ := hf m hml
  refine ⟨fun y hy => ?_, vs, l, r, f⟩
  obtain ⟨e, he, hy⟩ := List.mem_flatten.1 hy
  exact hc y (List.mem_flatten.2 ⟨e, List.mem_of_mem_take he, hy⟩)
theorem first_zero {x : V} {u : Value} {n : Nat} {sz : Nat} (hx : RV S w κ x u) (hh : lenAny h x = some n) : (Builtin.firstCells sz 0 u).run P w = .ok ([] : List Value).toArray w := by
 unfold lenAny at hh
 split at hh
 ·simp only [RV] at hx
  subst hx
  simp [Builtin.firstCells]
 ·obtain ⟨a, c, rfl⟩ := xZ3 hx hh
  cases a <;> simp [Builtin.firstCells, loadCells, loadCellsFrom]
theorem copy_run {t u T e : TypeId} {q : Nat × Nat × List V} (ht : P.underlying t = some (.slice e)) (hq : elemT P e = some q) {y : Value} {base : Option Addr} {m cap n : Nat} {vs : List Value} {w1 : World}
  (hl : (Builtin.lenOf y).run P w = .ok n w) (hf : (Builtin.firstCells q.1 (Nat.min n m) y).run P w = .ok vs.toArray w)
  (hst : match base with | some a => (storeCells a vs).run P w = .ok () w1 | none => w1 = w) :
  (Builtin.copy_ #[t, u] T #[.slice base m cap, y]).run P w = .ok (.int .i64 (Nat.min n m : Nat)) w1 := by
 obtain ⟨i, zv, z0, hi, hv, hz, rfl, n1, n2, n3, r1, r2, r3⟩ := vZl hq
 have hf' : (Builtin.firstCells i.size (Nat.min n m) y).run P w = .ok vs.toArray w := hf
 simp only [Builtin.copy_, List.getElem?_toArray, List.getElem?_cons_zero, List.getElem?_cons_succ, Sem.run_bind, run_underlying ht, Result.andThen_ok, r2, hl, hf']
 cases base with
 | none => simp only at hst; subst hst; rfl
 | some a => simp only at hst; simp only [Sem.run_bind, hst, Result.andThen_ok]; rfl
theorem copy_sound (inv : Inv P B S w κ h) {t u T e : TypeId} {q : Nat × Nat × List V} (ht : P.underlying t = some (.slice e)) (hq : elemT P e = some q) {d x z : V} {v y : Value} {h' : Heap}
  (hd : RV S w κ d v) (hx : RV S w κ x y) (hh : evCopy h q.1 d x = some (z, h')) :
  ∃ r w' S' κ', (Builtin.copy_ #[t, u] T #[v, y]).run P w = .ok r w' ∧ Inv P B S' w' κ' h' ∧ Stp B S w κ S' w' κ' ∧ RV S' w' κ' z r := by
 have n1 : q.1 ≠ 0 := by
  obtain ⟨ii, zv, z0, hi0, hv0, hz0, rfl, n1, _⟩ := vZl hq
  exact n1
 obtain ⟨l, m, hl, hm, rfl, hc⟩ := evCopy_some hh
 have hlen := lenAny_sound (P := P) hx hl
 obtain ⟨base, cap, rfl⟩ := xZ3 hd hm
 rcases hc with ⟨h0, rfl⟩ | ⟨h0, es, id, ep, off, xs, hes, rfl, hi, hol, hsz, rfl⟩
 ·refine ⟨_, w, S, κ, copy_run (T := T) ht hq (vs := []) (w1 := w) hlen (by rw [show Nat.min l m = 0 from h0]; exact first_zero hx hl) (by cases base <;> rfl), inv, .refl _ _ _ _, ?_⟩
  simp only [RV] <;> rfl
 ·obtain ⟨hcell, vs, lv, rv, fv⟩ := first_sound inv n1 hx hes hsz h0
  have hel := kZY hes
  obtain ⟨b, st, cp, c, el, fr, g1, g2, g3, g4, g5, g6, g7, g8, g9, g10, g11⟩ := vZk inv hi
  simp only [RV] at hd
  obtain ⟨e', b', st', cp', sz', a, cc, k1, k2, heq, kl, k3⟩ := hd
  cases heq
  rw [g1] at k1; cases k1
  obtain ⟨k4, k5, k6, k7⟩ := k3 rfl
  have hmin : min l m ≤ m := Nat.min_le_right _ _
  have hane : a = ⟨b, (off - st) * q.1, none⟩ := by
   rcases k7 with k7 | k7
   ·omega
   ·exact k7
  subst hane
  have hb := (Array.getElem?_eq_some_iff.1 g2).1
  have hput : (off - st) * q.1 + 0 + vs.length ≤ c.size := by
   rw [lv, g5, Nat.add_zero, ← Nat.add_mul]
   exact Nat.mul_le_mul_right _ (by omega)
  have hput' : (off - st) * q.1 + vs.length ≤ c.size := by omega
  have hone : ∀ v ∈ vs, v.oneCell' = true := vZL rv (List.all_eq_true.2 hcell)
  have hst := qZ2 (P := P) vs ((off - st) * q.1) 0 c w g2 g3.1 hput hone
  have hxs : ∀ e ∈ xs, e.length = q.1 := fun e he => (g8 e he).1
  have hlen' : (xs.take off ++ es ++ xs.drop (off + min l m)).length = max xs.length (off + min l m) := by simp; omega
  have hW := Inv.write inv g1 (.cells (putA c ((off - st) * q.1 + 0) vs) el fr) (.row ep b st cp q.1) (.refl _) rfl
   (.row q.1 (xs.take off ++ es ++ xs.drop (off + min l m)) ep true) (fun o hs => absurd hs (g11 rfl o)) (fun sle kle => by
    refine ⟨b, st, cp, _, el, fr, qZo _ _ _, qZH _ _ _ hb, by rw [vZs]; exact g3, g4, by rw [vZs]; exact g5, by rw [hlen']; omega, by rw [hlen']; omega, ?_, ?_, fun o _ => g11 rfl o, g11⟩
    ·intro e he
     rcases List.mem_append.1 he with he | he
     ·rcases List.mem_append.1 he with he | he
      ·exact g8 e (List.mem_of_mem_take he)
      ·exact wZQ hsz hcell e he
     ·exact g8 e (List.mem_of_mem_drop he)
    ·have := RR_put (S := S) (w := w) (κ := κ) (m := off) k4 hol g9 hxs hsz rv hput'
     rw [hel] at this
     exact kZT sle kle this)
  exact ⟨_, _, _, _, copy_run (T := T) ht hq hlen fv hst, hW.1, hW.2, by simp only [RV] <;> rfl⟩
theorem jZS {x : V} {u : Value} {n k m : Nat} (c : BoundsCode) (hk : n ≤ k) (hx : RV S w κ x u) (hh : bound x n = some m) (w' : World) :
  m ≤ n ∧ (Instr.sliceBound u k c).run P w' = .ok m w' := by
 unfold bound at hh
 split at hh
 ·obtain ⟨hc, rfl⟩ := qZR hh
  simp only [RV] at hx
  subst hx
  refine ⟨by omega, ?_⟩
  simp only [Instr.sliceBound, asIntOf, Sem.run_bind, Sem.run_pure, Result.andThen_ok]
  rw [if_pos (by omega)]
  rfl
 ·cases hh
theorem lenV_cap {x : V} {u : Value} {n : Nat} (hx : RV S w κ x u) (hh : lenV .l h x = some n) : ∃ a c, u = .slice a n c ∧ n ≤ c := by
 cases x <;> simp only [lenV, Option.some.injEq, reduceCtorEq] at hh
 case nils => subst hh; simp only [RV] at hx; exact ⟨_, _, hx, Nat.le_refl _⟩
 case nile => subst hh; simp only [RV] at hx; obtain ⟨a, rfl⟩ := hx; exact ⟨_, _, rfl, Nat.le_refl _⟩
 case arr => subst hh; simp only [RV] at hx; obtain ⟨a, c, rfl, h1, _⟩ := hx; exact ⟨_, _, rfl, h1⟩
 case sl => subst hh; simp only [RV] at hx; obtain ⟨_, _, _, _, _, a, c, _, _, rfl, h1, _⟩ := hx; exact ⟨_, _, rfl, h1⟩
theorem sl3_sound {t e : TypeId} {n : Nat} (ht : P.underlying t = some (.slice e)) (hn : sizeT P e = some n) {x hi mx z : V} {u v m' : Value} {lo : Option V} {lo' : Option Value} {h' : Heap}
  (hx : RV S w κ x u) (hlo : RO S w κ lo lo') (hhi : RV S w κ hi v) (hmx : RV S w κ mx m') (hh : evSl3 h x lo hi mx = some (z, h')) :
  h' = h ∧ ∃ r, RV S w κ z r ∧ ∀ w', (Instr.sliceAt t u lo' (some v) (some m')).run P w' = .ok r w' := by
 unfold evSl3 at hh
 split at hh
 case h_2 => cases hh
 rename_i l hl
 split at hh
 case h_2 => cases hh
 rename_i m hm
 split at hh
 case h_2 => cases hh
 rename_i p hp
 simp only [Option.some.injEq, Prod.mk.injEq] at hh
 obtain ⟨rfl, rfl⟩ := hh
 obtain ⟨a, c, rfl, hc⟩ := lenV_cap hx hl
 refine ⟨rfl, ?_⟩
 unfold lohi at hp
 simp only at hp
 split at hp
 ·cases hp
 ·rename_i hb hhb
  split at hp
  ·cases hp
  ·rename_i lb hlb
   refine ⟨.slice (if m = lb then a else a.map (·.add (lb * n))) (hb - lb) (m - lb), by simp [RV], fun w' => ?_⟩
   obtain ⟨_, r1⟩ := jZS (P := P) .slice3Acap hc hmx hm w'
   obtain ⟨_, r2⟩ := jZS (P := P) .slice3B (Nat.le_refl _) hhi hhb w'
   cases lo with
   | none =>
    cases lo' with
    | some _ => exact hlo.elim
    | none =>
     simp only [Option.some.injEq] at hlb
     subst hlb
     simp [Instr.sliceAt, Instr.slice, run_underlying ht, Instr.sliceBounds, r1, r2, vZf hn]
   | some y =>
    cases lo' with
    | none => exact hlo.elim
    | some y' =>
     obtain ⟨_, r3⟩ := jZS (P := P) .slice3C (Nat.le_refl _) hlo hlb w'
     simp [Instr.sliceAt, Instr.slice, run_underlying ht, Instr.sliceBounds, r1, r2, r3, vZf hn]
theorem kZp (z : Array Value) (n s : Nat) (hs : z.size = s) (h0 : s ≠ 0) : (Builtin.zeroCells z n).toList = (List.replicate n z.toList).flatten := by
 have := xZv z n s hs h0
 rw [← hs] at this
 exact this
theorem clr_sound (inv : Inv P B S w κ h) {t e T : TypeId} {q : Nat × Nat × List V} (ht : P.underlying t = some (.slice e)) (hq : elemT P e = some q) {x z : V} {u : Value} {h' : Heap}
  (hx : RV S w κ x u) (hh : evClr h q.1 q.2.2 x = some (z, h')) :
  ∃ r w' S' κ', (Builtin.clear_ #[t] T #[u]).run P w = .ok r w' ∧ Inv P B S' w' κ' h' ∧ Stp B S w κ S' w' κ' ∧ RV S' w' κ' z r := by
 obtain ⟨ii, zv, z0, hi0, hv0, hz0, rfl, n1, n2, n3, r1, r2, r3⟩ := vZl hq
 obtain ⟨hrz, hcz⟩ := vZi (S := S) (w := w) (κ := κ) hz0
 unfold evClr at hh
 split at hh
 ·simp only [Option.some.injEq, Prod.mk.injEq] at hh
  obtain ⟨rfl, rfl⟩ := hh
  simp only [RV] at hx
  subst hx
  exact ⟨.tuple #[], w, S, κ, by simp [Builtin.clear_, run_underlying ht], inv, .refl _ _ _ _, jZr⟩
 ·rename_i id ep off len
  split at hh
  ·rename_i h0
   simp only [Option.some.injEq, Prod.mk.injEq] at hh
   obtain ⟨rfl, rfl⟩ := hh
   subst h0
   simp only [RV] at hx
   obtain ⟨_, _, _, _, _, a, c, _, _, rfl, _⟩ := hx
   exact ⟨.tuple #[], w, S, κ, by simp [Builtin.clear_, run_underlying ht], inv, .refl _ _ _ _, jZr⟩
  ·rename_i h0
   split at hh
   case h_2 => cases hh
   rename_i zz xs cur hi
   obtain ⟨⟨hep, hzz, hol, hzl⟩, h1⟩ := zZN hh
   subst hep; subst hzz
   simp only [qZW, Option.some.injEq, Prod.mk.injEq] at h1
   obtain ⟨rfl, rfl⟩ := h1
   obtain ⟨b, st, cp, c, el, fr, g1, g2, g3, g4, g5, g6, g7, g8, g9, g10, g11⟩ := vZk inv hi
   simp only [RV] at hx
   obtain ⟨e', b', st', cp', sz', a, cc, k1, k2, rfl, kl, k3⟩ := hx
   rw [g1] at k1; cases k1
   obtain ⟨k4, k5, k6, k7⟩ := k3 rfl
   have hane : a = ⟨b, (off - st) * ii.size, none⟩ := by
    rcases k7 with k7 | k7
    ·omega
    ·exact k7
   subst hane
   have hb := (Array.getElem?_eq_some_iff.1 g2).1
   have hz : ∀ e ∈ List.replicate len z0.cells, e.length = ii.size := fun e he => by rw [List.mem_replicate] at he; rw [he.2]; exact hzl
   let vs := (List.replicate len zv.cells.toList).flatten
   have rv : RL S w κ (List.replicate len z0.cells).flatten vs := jZe hrz len
   have lv : vs.length = len * ii.size := by
    rw [← qZS rv, vZO _ hz, List.length_replicate]
   have hput : (off - st) * ii.size + 0 + vs.length ≤ c.size := by
    rw [lv, g5, Nat.add_zero, ← Nat.add_mul]
    exact Nat.mul_le_mul_right _ (by omega)
   have hput' : (off - st) * ii.size + vs.length ≤ c.size := by omega
   have hcell : ∀ y ∈ (List.replicate len z0.cells).flatten, y.isCell = true := fun y hy => by
    obtain ⟨e, he, hy⟩ := List.mem_flatten.1 hy
    rw [List.mem_replicate] at he
    rw [he.2] at hy
    exact List.all_eq_true.1 hcz y hy
   have hone : ∀ v ∈ vs, v.oneCell' = true := vZL rv (List.all_eq_true.2 hcell)
   have hst := qZ2 (P := P) vs ((off - st) * ii.size) 0 c w g2 g3.1 hput hone
   have hxs : ∀ e ∈ xs, e.length = ii.size := fun e he => (g8 e he).1
   have hlen : (xs.take off ++ List.replicate len z0.cells ++ xs.drop (off + len)).length = xs.length := by simp; omega
   have hW := Inv.write inv g1 (.cells (putA c ((off - st) * ii.size + 0) vs) el fr) (.row ep b st cp ii.size) (.refl _) rfl
    (.row ii.size (xs.take off ++ List.replicate len z0.cells ++ xs.drop (off + len)) ep true) (fun o hs => absurd hs (g11 rfl o)) (fun sle kle => by
     refine ⟨b, st, cp, _, el, fr, qZo _ _ _, qZH _ _ _ hb, by rw [vZs]; exact g3, g4, by rw [vZs]; exact g5, by rw [hlen]; exact g6, by rw [hlen]; exact g7, ?_, ?_, by rw [hlen]; exact g10, g11⟩
     ·intro e he
      rcases List.mem_append.1 he with he | he
      ·rcases List.mem_append.1 he with he | he
       ·exact g8 e (List.mem_of_mem_take he)
       ·exact wZQ hz hcell e he
      ·exact g8 e (List.mem_of_mem_drop he)
     ·have := RR_put (S := S) (w := w) (κ := κ) (m := off) k4 (by omega) g9 hxs hz rv hput'
      rw [List.length_replicate] at this
      exact kZT sle kle this)
   refine ⟨.tuple #[], _, _, _, ?_, hW.1, hW.2, jZr⟩
   obtain ⟨len, rfl⟩ : ∃ k, len = k + 1 := ⟨len - 1, by omega⟩
   have hzc : (Builtin.zeroCells zv.cells (len + 1)).toList = vs := kZp _ _ _ n3 n1
   simp only [Builtin.clear_, List.getElem?_toArray, List.getElem?_cons_zero, Sem.run_bind, run_underlying ht, Result.andThen_ok, r1, hzc]
   rw [hst]
   rfl
 ·cases hh
theorem mx_sound (xs : List V) (us : List Value) {z : V} {h' : Heap} (hr : RL S w κ xs us) (hh : okV h (foldInt (fun x y => if y > x then y else x) xs) = some (z, h')) (ts : Array TypeId) (T : TypeId) :
  h' = h ∧ ∃ v, RV S w κ z v ∧ ∀ w', (Builtin.max_ ts T us.toArray).run P w' = .ok v w' := by
 obtain ⟨h1, h2⟩ := qZQ hh
 refine ⟨h2, ?_⟩
 have go : ∀ (xs : List V) (us : List Value) (k : IntKind) (a : Int) (z : V), RL S w κ xs us → foldInt.go (fun x y => if y > x then y else x) k a xs = some z →
   ∃ v, RV S w κ z v ∧ ∀ w', (us.foldlM Builtin.max2 (.int k a)).run P w' = .ok v w' := by
  intro xs
  induction xs with
  | nil =>
   intro us k a z hr hz
   cases us with
   | cons _ _ => simp [RL] at hr
   | nil => simp only [foldInt.go, Option.some.injEq] at hz; subst hz; exact ⟨_, rfl, fun w' => by simp⟩
  | cons x xs ih =>
   intro us k a z hr hz
   cases us with
   | nil => simp [RL] at hr
   | cons u us =>
    simp only [RL] at hr
    cases x <;> simp only [foldInt.go, reduceCtorEq] at hz
    rename_i k' b
    obtain ⟨hk, hz⟩ := zZN hz
    have hu := hr.1
    simp only [RV] at hu
    subst hu
    obtain ⟨v, hv, hrun⟩ := ih us k _ z hr.2 hz
    exact ⟨v, hv, fun w' => by simp [Builtin.max2, hrun]⟩
 cases xs with
 | nil => simp [foldInt] at h1
 | cons x xs =>
  cases us with
  | nil => simp [RL] at hr
  | cons u us =>
   simp only [RL] at hr
   cases x <;> simp only [foldInt, reduceCtorEq] at h1
   have hu := hr.1
   simp only [RV] at hu
   subst hu
   obtain ⟨v, hv, hrun⟩ := go xs us _ _ z hr.2 h1
   exact ⟨v, hv, fun w' => by simp [Builtin.max_, hrun]⟩
theorem mn_sound (xs : List V) (us : List Value) {z : V} {h' : Heap} (hr : RL S w κ xs us) (hh : okV h (foldInt (fun x y => if y < x then y else x) xs) = some (z, h')) (ts : Array TypeId) (T : TypeId) :
  h' = h ∧ ∃ v, RV S w κ z v ∧ ∀ w', (Builtin.min_ ts T us.toArray).run P w' = .ok v w' := by
 obtain ⟨h1, h2⟩ := qZQ hh
 refine ⟨h2, ?_⟩
 have go : ∀ (xs : List V) (us : List Value) (k : IntKind) (a : Int) (z : V), RL S w κ xs us → foldInt.go (fun x y => if y < x then y else x) k a xs = some z →
   ∃ v, RV S w κ z v ∧ ∀ w', (us.foldlM Builtin.min2 (.int k a)).run P w' = .ok v w' := by
  intro xs
  induction xs with
  | nil =>
   intro us k a z hr hz
   cases us with
   | cons _ _ => simp [RL] at hr
   | nil => simp only [foldInt.go, Option.some.injEq] at hz; subst hz; exact ⟨_, rfl, fun w' => by simp⟩
  | cons x xs ih =>
   intro us k a z hr hz
   cases us with
   | nil => simp [RL] at hr
   | cons u us =>
    simp only [RL] at hr
    cases x <;> simp only [foldInt.go, reduceCtorEq] at hz
    rename_i k' b
    obtain ⟨hk, hz⟩ := zZN hz
    have hu := hr.1
    simp only [RV] at hu
    subst hu
    obtain ⟨v, hv, hrun⟩ := ih us k _ z hr.2 hz
    exact ⟨v, hv, fun w' => by simp [Builtin.min2, hrun]⟩
 cases xs with
 | nil => simp [foldInt] at h1
 | cons x xs =>
  cases us with
  | nil => simp [RL] at hr
  | cons u us =>
   simp only [RL] at hr
   cases x <;> simp only [foldInt, reduceCtorEq] at h1
   have hu := hr.1
   simp only [RV] at hu
   subst hu
   obtain ⟨v, hv, hrun⟩ := go xs us _ _ z hr.2 h1
   exact ⟨v, hv, fun w' => by simp [Builtin.min_, hrun]⟩
end
open Go.RowKit
section
variable {P : Program} {G : Glob} {B : Base G} {S : Cells} {w : World} {κ : Kap} {h : Heap}
theorem bytesWorld_eq (w : World) (e : TypeId) (s : ByteArray) :
  Lib.bytesWorld w e s = w.drew.alloc (.cells (Lib.bytesCells w e s) e ((Lib.bytesCells w e s).size, (Lib.bytesCells w e s).size + 1)) := by
 have hh : (Lib.bytesWorld w e s).heap = (w.drew.alloc (.cells (Lib.bytesCells w e s) e ((Lib.bytesCells w e s).size, (Lib.bytesCells w e s).size + 1))).heap := by
  apply Array.ext_getElem?
  intro i
  rcases Nat.lt_trichotomy i w.heap.size with hi | rfl | hi
  ·rw [Lib.bytesWorld_at_old w e s i hi, Below.heap_alloc w.drew _ i hi]; rfl
  ·rw [Lib.bytesWorld_at_new]; exact (vZt w.drew _).symm
  ·rw [Array.getElem?_eq_none (by rw [Lib.bytesWorld_size]; omega), Array.getElem?_eq_none (by rw [vZM]; show w.heap.size + 1 ≤ i; omega)]
 have : ∀ a b : World, a.heap = b.heap → a.tape = b.tape → a.drawn = b.drawn → a.os = b.os → a.output = b.output → a = b := by
  intro a b h1 h2 h3 h4 h5; cases a; cases b; simp_all
 refine this _ _ hh ?_ ?_ ?_ ?_ <;> simp [Lib.bytesWorld, World.freeze, World.alloc, World.drew, -World.alloc_eq, -World.drew_eq]
theorem xZE (inv : Inv P B S w κ h) {src dst e : TypeId} (hs : P.underlying src = some .string) (hd : P.underlying dst = some (.slice e)) (he : P.underlying e = some (.int .u8))
  {s : ByteArray} :
  ∃ r w' S' κ', (convert src dst (.string s)).run P w = .ok r w' ∧ Inv P B S' w' κ' (h ++ [.row 1 (bytesOf s) 0 true]) ∧ Stp B S w κ S' w' κ' ∧ RV S' w' κ' (.sl h.length 0 0 s.size) r := by
 have hrun := Lib.run_convert_string_bytes (P := P) w src dst e s hs hd he
 rw [bytesWorld_eq] at hrun
 obtain ⟨inv1, st1⟩ := inv.drawn
 let c := Lib.bytesCells w e s
 have hcap : s.size ≤ grownCap w s.size 0 e := by
  simp only [grownCap, Question.cut]; omega
 have hcs : c.size = grownCap w s.size 0 e * 1 := by
  simp only [c, Lib.bytesCells]
  simp
  have : s.data.size = s.size := rfl
  omega
 have hW := Inv.fresh inv1 h.length (Nat.le_refl _) (.cells c e (c.size, c.size + 1)) (.row 0 w.heap.size 0 (grownCap w s.size 0 e) 1)
  (fun k hk => by rw [kZc inv1] at hk; cases hk) rfl (h ++ [.row 1 (bytesOf s) 0 true])
  (fun i o hi ho => by
   rw [List.getElem?_append] at ho
   split at ho
   ·exact ho
   ·rename_i hge
    rw [List.getElem?_eq_none (by simp; omega)] at ho
    cases ho)
  (by simp) (by simp) (fun sle kle o ho => by
   simp at ho
   subst ho
   refine ⟨w.heap.size, 0, _, c, e, _, qZo _ _ _, vZt w.drew _, ⟨fun o ho x => by simp at x; omega, fun hne => absurd rfl hne⟩, by omega, hcs, by omega, by simp [bytesOf]; exact hcap, ?_, ?_, fun o _ ho => ?_, fun _ o ho => ?_⟩
   ·intro x hx
    simp only [bytesOf, List.mem_map] at hx
    obtain ⟨b, _, rfl⟩ := hx
    exact ⟨rfl, rfl⟩
   ·intro i x _ hx
    simp only [bytesOf, List.getElem?_map, Option.map_eq_some_iff] at hx
    obtain ⟨b, hb, rfl⟩ := hx
    have hi : i < s.data.size := by simpa using (List.getElem?_eq_some_iff.1 hb).1
    have : (c.toList.drop ((i - 0) * 1)).take 1 = [Value.int .u8 b.toNat] := by
     have hc : c.toList[i]? = some (.int .u8 b.toNat) := by
      simp only [c, Lib.bytesCells, Array.toList_append, Array.toList_map]
      rw [List.getElem?_append_left (by simpa using hi), List.getElem?_map, hb]
      rfl
     rw [Nat.sub_zero, Nat.mul_one, List.take_one, List.head?_drop, hc]
     rfl
    rw [this]
    simp [RL, RV]
   ·exact absurd (inv1.sb _ _ ho) (by show ¬ w.heap.size < w.heap.size; omega)
   ·exact absurd (inv1.sb _ _ ho) (by show ¬ w.heap.size < w.heap.size; omega))
 refine ⟨_, _, _, _, hrun, hW.1, st1.trans hW.2, ?_⟩
 simp only [RV]
 exact ⟨0, _, 0, _, 1, _, _, qZo _ _ _, Nat.le_refl _, rfl, hcap, fun _ => ⟨by omega, by omega, by omega, .inr (by simp)⟩⟩
theorem wZq : ∀ (es : List (List V)) (l : List UInt8) (vs : List Value), byteOfCells es = some l → RL S w κ es.flatten vs →
  ∃ ns : List Int, vs = ns.map (Value.int .u8) ∧ l = ns.map (fun n => UInt8.ofNat n.toNat)
 | [], l, vs, hb, hr => by
  simp [byteOfCells] at hb
  subst hb
  cases vs with
  | nil => exact ⟨[], rfl, rfl⟩
  | cons v vs => simp [RL] at hr
 | e :: es, l, vs, hb, hr => by
  unfold byteOfCells at hb
  split at hb
  ·rename_i heq; cases heq
  ·rename_i n r heq
   cases heq
   simp only [Option.map_eq_some_iff] at hb
   obtain ⟨l', hl', rfl⟩ := hb
   cases vs with
   | nil => simp [RL] at hr
   | cons v vs =>
    simp only [List.flatten_cons, List.cons_append, List.nil_append, RL, RV] at hr
    obtain ⟨rfl, hr⟩ := hr
    obtain ⟨ns, rfl, rfl⟩ := wZq es l' vs hl' hr
    exact ⟨n :: ns, rfl, rfl⟩
  ·cases hb
theorem xZ6 : ∀ (ns : List Int) (s : ByteArray), ns.foldl (fun r n => r.push (UInt8.ofNat n.toNat)) s = ⟨(s.data.toList ++ ns.map fun n => UInt8.ofNat n.toNat).toArray⟩
 | [], s => by cases s; simp
 | n :: ns, s => by
  rw [List.foldl_cons, xZ6 ns]
  simp [ByteArray.push]
theorem xZx (inv : Inv P B S w κ h) {src dst e : TypeId} (hs : P.underlying src = some (.slice e)) (he : P.underlying e = some (.int .u8)) (hd : P.underlying dst = some .string)
  {x : V} {u : Value} (hx : RV S w κ x u) {es : List (List V)} {l : List UInt8} (hes : bytesIn h x = some es) (hl : byteOfCells es = some l) :
  (convert src dst u).run P w = .ok (.string ⟨l.toArray⟩) w := by
 have hes' : elemsOf h x = some es ∧ ∀ s, x ≠ .str s := by
  unfold bytesIn at hes
  split at hes
  ·cases hes
  ·rename_i hne; exact ⟨hes, hne⟩
 have h1 : ∀ e ∈ es, e.length = 1 := by
  have : ∀ (es : List (List V)) (l : List UInt8), byteOfCells es = some l → ∀ e ∈ es, e.length = 1 := by
   intro es
   induction es with
   | nil => simp
   | cons e es ih =>
    intro l hl x hx
    unfold byteOfCells at hl
    split at hl
    ·rename_i heq; cases heq
    ·rename_i n r heq
     cases heq
     simp only [Option.map_eq_some_iff] at hl
     obtain ⟨l', hl', _⟩ := hl
     rcases List.mem_cons.1 hx with rfl | hx
     ·rfl
     ·exact ih l' hl' x hx
    ·cases hl
  exact this es l hl
 obtain ⟨l1, hc, hf⟩ := vZa inv (sz := 1) (by omega) hx hes'.1 h1
 obtain ⟨vs, lv, rv, fv⟩ := hf es.length (Nat.le_refl _)
 rw [List.take_length] at rv
 obtain ⟨ns, rfl, rfl⟩ := wZq es l vs hl rv
 have hu : ∃ a c, u = .slice a es.length c := by
  cases x <;> simp only [elemsOf, Option.some.injEq, reduceCtorEq] at hes'
  case nils => simp only [RV] at hx; have := hes'.1; subst this; exact ⟨_, _, hx⟩
  case nile => simp only [RV] at hx; have := hes'.1; subst this; obtain ⟨a, rfl⟩ := hx; exact ⟨_, _, rfl⟩
  case arr => simp only [RV] at hx; obtain ⟨a, c, rfl, _⟩ := hx; have := hes'.1; subst this; exact ⟨_, _, rfl⟩
  case str => exact absurd rfl (hes'.2 _)
  case sl =>
   simp only [RV] at hx; obtain ⟨_, _, _, _, _, a, c, _, _, rfl, _⟩ := hx
   have h0 := hes'.1
   split at h0
   ·obtain ⟨hc', rfl⟩ := qZR h0
    refine ⟨some a, c, ?_⟩
    congr 1
    simp; omega
   ·cases h0
  all_goals simp at hes'
 obtain ⟨a, c, rfl⟩ := hu
 rw [run_convert_bytes_string w src dst e a _ c hs he hd]
 cases a with
 | none =>
  have this : ns = [] := by
   cases ns with
   | nil => rfl
   | cons n ns => simp [Builtin.firstCells] at fv
  subst this
  simp [Conv.bytesToString]
  rfl
 | some a =>
  have hld : (loadCells a es.length).run P w = .ok (ns.map (Value.int .u8)).toArray w := by
   simpa [Builtin.firstCells] using fv
  rw [run_bytesToString w a _ c ns hld, xZ6]
  rfl
end
open Go.RowKit
section
variable {P : Program} {G : Glob} {B : Base G} {S : Cells} {w : World} {κ : Kap} {h : Heap}
theorem leaf_ck {d : Nat} {t : TypeId} {k : Ck} (h : eqD P d t = some (.leaf k)) : ckT P t k := by
 cases d with
 | zero => simp [eqD] at h
 | succ d =>
  simp only [eqD] at h
  split at h
  ·rename_i ht; cases h; exact ht
  ·rename_i q ht; cases h; exact ⟨q, ht⟩
  ·rename_i ht; cases h; exact ht
  ·obtain ⟨_, h⟩ := vZn h
   simp only [Option.bind_eq_some_iff] at h
   obtain ⟨q, _, h⟩ := h
   obtain ⟨_, a, b, c, e, he⟩ := wZX h
   cases he
  ·simp only [Option.bind_eq_some_iff] at h
   obtain ⟨_, _, _, _, q, _, h⟩ := h
   obtain ⟨_, a, b, c, e, he⟩ := wZX h
   cases he
  ·cases h
def checkFs (d : Nat) (cs : Array Value) (empty : Bool) : List Field → Sem Unit
 | [] => pure ()
 | f :: fs => if f.name ≠ "_" then do Instr.checkKey empty d f.type (← part f.type cs f.offset); checkFs d cs empty fs else checkFs d cs empty fs
def checkEs (d : Nat) (e : TypeId) (n : Nat) (cs : Array Value) (empty : Bool) : List Nat → Sem Unit
 | [] => pure ()
 | i :: is => do Instr.checkKey empty d e (← part e cs (i * n)); checkEs d e n cs empty is
theorem checkFs_run (empty : Bool) (d : Nat) (cs : Array Value) (w' : World) : ∀ (fs : List Field),
  (forIn fs PUnit.unit (fun f _ => do
   if f.name ≠ "_" then do
    Instr.checkKey empty d f.type (← part f.type cs f.offset)
    pure (ForInStep.yield PUnit.unit)
   else pure (ForInStep.yield PUnit.unit)) : Sem PUnit).run P w' = ((checkFs d cs empty fs).run P w').andThen fun _ w => .ok PUnit.unit w := by
 intro fs
 induction fs generalizing w' with
 | nil => simp [checkFs]
 | cons f fs ih =>
  simp only [List.forIn_cons, checkFs, Sem.run_bind, Sem.run_ite]
  split
  ·generalize (part f.type cs f.offset).run P w' = r1
   cases r1 with
   | ok a w1 =>
    simp only [Sem.run_bind, Result.andThen_ok]
    generalize (Instr.checkKey empty d f.type a).run P w1 = r2
    cases r2 with
    | ok b w2 => simp only [Result.andThen_ok, Sem.run_pure]; exact ih w2
    | halt x w2 => simp [Result.andThen]
   | halt x w1 => simp [Result.andThen]
  ·simp only [Sem.run_pure, Result.andThen_ok]
   exact ih w'
theorem checkFs_sound (D : Nat) (empty : Bool) (go : TypeId → Option Eqd)
  (hgo : ∀ t q, go t = some q → ∀ x u r, RV S w κ x u → eqdV q x x = some r → ∀ w', (Instr.checkKey empty D t u).run P w' = .ok () w')
  {xs : List V} {cs : Array Value} (hx : RL S w κ xs cs.toList) :
  ∀ (fs : List Field) (q : Eqd) (r : Bool), eqD.eqFs P go fs = some q → eqdV q (.agg xs) (.agg xs) = some r →
   ∀ w', (checkFs D cs empty fs).run P w' = .ok () w' := by
 intro fs
 induction fs with
 | nil => intro q r hq he w'; simp [checkFs]
 | cons f fs ih =>
  intro q r hq he w'
  simp only [eqD.eqFs] at hq
  split at hq
  ·rename_i hn
   simp only [checkFs, hn, ne_eq, not_true, if_false]
   exact ih q r hq he w'
  ·rename_i hn
   split at hq
   ·rename_i q1 ag r1 h1 h2 h3
    cases hq
    simp only [eqdV] at he
    split at he
    ·rename_i a ha
     split at he
     ·rename_i b hb
      cases hb
      split at he
      ·rename_i p hp
       split at he
       ·rename_i qq hqq
        obtain ⟨u, hu, pu⟩ := vZD (P := P) h2 hx ha
        have e1 := hgo _ _ h1 a u p hu hp
        have e2 := ih r1 qq h3 hqq
        simp only [checkFs, ne_eq, hn, not_false_eq_true, if_true, Sem.run_bind, pu, e1, Result.andThen_ok, e2]
       ·cases he
      ·cases he
     ·cases he
    ·cases he
   ·cases hq
theorem checkEs_run (empty : Bool) (d : Nat) (e : TypeId) (n : Nat) (hn : sizeT P e = some n) (cs : Array Value) (w' : World) : ∀ (is : List Nat),
  (forIn is PUnit.unit (fun i _ => do
   Instr.checkKey empty d e (← part e cs (i * (← sizeOf e)))
   pure (ForInStep.yield PUnit.unit)) : Sem PUnit).run P w' = ((checkEs d e n cs empty is).run P w').andThen fun _ w => .ok PUnit.unit w := by
 intro is
 induction is generalizing w' with
 | nil => simp [checkEs]
 | cons i is ih =>
  simp only [List.forIn_cons, checkEs, Sem.run_bind, vZf hn, Result.andThen_ok]
  generalize (part e cs (i * n)).run P w' = r1
  cases r1 with
  | ok a w1 =>
   simp only [Sem.run_bind, Result.andThen_ok]
   generalize (Instr.checkKey empty d e a).run P w1 = r2
   cases r2 with
   | ok b w2 => simp only [Result.andThen_ok, Sem.run_pure]; exact ih w2
   | halt x w2 => simp [Result.andThen]
  | halt x w1 => simp [Result.andThen]
theorem checkEs_sound (D : Nat) (empty : Bool) {e : TypeId} {n : Nat} {ag : Option Nat} {q : Eqd} (ha : aggT P e = some ag)
  (hgo : ∀ x u r, RV S w κ x u → eqdV q x x = some r → ∀ w', (Instr.checkKey empty D e u).run P w' = .ok () w')
  {xs : List V} {cs : Array Value} (hx : RL S w κ xs cs.toList) :
  ∀ (m i : Nat) (r : Bool), eqdV (eqD.eqAs n ag q m i) (.agg xs) (.agg xs) = some r → ∀ w', (checkEs D e n cs empty (List.range' i m)).run P w' = .ok () w' := by
 intro m
 induction m with
 | zero => intro i r he w'; simp [checkEs]
 | succ m ih =>
  intro i r he w'
  simp only [eqD.eqAs, eqdV] at he
  split at he
  ·rename_i a hxa
   split at he
   ·rename_i b hb
    cases hb
    split at he
    ·rename_i p hp
     split at he
     ·rename_i qq hqq
      obtain ⟨u, hu, pu⟩ := vZD (P := P) ha hx hxa
      have e1 := hgo a u p hu hp
      have e2 := ih (i + 1) qq hqq
      simp only [List.range'_succ, checkEs, Sem.run_bind, pu, e1, Result.andThen_ok, e2]
     ·cases he
    ·cases he
   ·cases he
  ·cases he
theorem xZz : ∀ (d : Nat) (t : TypeId) (q : Eqd), eqD P d t = some q → ∀ x u r, RV S w κ x u → eqdV q x x = some r → ∀ empty D w', d ≤ D → (Instr.checkKey empty D t u).run P w' = .ok () w' := by
 intro d
 induction d with
 | zero => intro t q h; simp [eqD] at h
 | succ d ih =>
  intro t q h x u r hx he empty D w' hD
  obtain ⟨D, rfl⟩ : ∃ m, D = m + 1 := ⟨D - 1, by omega⟩
  simp only [eqD] at h
  split at h
  ·rename_i ht; cases h
   simp [Instr.checkKey, run_underlying ht]
  ·rename_i k ht; cases h
   simp [Instr.checkKey, run_underlying ht]
  ·rename_i ht; cases h
   simp [Instr.checkKey, run_underlying ht]
  ·rename_i fs ht
   obtain ⟨hst, h⟩ := vZn h
   simp only [Option.bind_eq_some_iff] at h
   obtain ⟨q', hq', h⟩ := h
   obtain ⟨rfl, a, b, c, e, rfl⟩ := wZX h
   obtain ⟨xs, ys, rfl, hy⟩ := wZV he
   clear hy
   simp only [RV] at hx
   obtain ⟨cs, rfl, hx⟩ := hx
   have h1 := checkFs_sound (P := P) D empty (eqD P d) (fun t' q' h' x' u' r' hx' he' w'' => ih t' q' h' x' u' r' hx' he' empty D w'' (by omega)) hx fs.toList _ _ hq' he w'
   have h2 := checkFs_run (P := P) empty D cs w' fs.toList
   rw [h1] at h2
   simp only [Instr.checkKey, Sem.run_bind, run_underlying ht, Result.andThen_ok]
   rw [← Array.forIn_toList, h2]
   rfl
  ·rename_i n e ht
   simp only [Option.bind_eq_some_iff] at h
   obtain ⟨s, hs, ag, hag, q', hq', h⟩ := h
   obtain ⟨h1, a, b, c, e', rfl⟩ := wZX h
   obtain ⟨xs, ys, rfl, hy⟩ := wZV he
   clear hy
   simp only [RV] at hx
   obtain ⟨cs, rfl, hx⟩ := hx
   have k1 := checkEs_sound (P := P) (n := s) D empty hag (fun x' u' r' hx' he' w'' => ih e q' hq' x' u' r' hx' he' empty D w'' (by omega)) hx n 0 r (by rw [h1]; exact he) w'
   have k2 := checkEs_run (P := P) empty D e s hs cs w' (List.range' 0 n)
   rw [k1] at k2
   simp only [Instr.checkKey, Sem.run_bind, run_underlying ht, Result.andThen_ok]
   rw [Std.Legacy.Range.forIn_eq_forIn_range']
   simp only [Std.Legacy.Range.size, Nat.sub_zero, Nat.add_sub_cancel, Nat.div_one]
   rw [k2]
   rfl
  ·cases h
/-! ### A key among entries -/
theorem jZJ {d : Nat} {t : TypeId} {q : Eqd} (h : eqD P d t = some q) {desc : TypeDesc} (hd : P.underlying t = some desc) {x y : V} {u v : Value} {r b : Bool}
  (hx : RV S w κ x u) (hy : RV S w κ y v) (he : eqdV q x y = some r) (hs : Instr.sameNow desc u v = some b) : b = r := by
 cases d with
 | zero => simp [eqD] at h
 | succ d =>
  simp only [eqD, hd] at h
  cases desc <;> simp only [reduceCtorEq] at h
  case bool =>
   cases h
   obtain ⟨a, c, rfl, rfl, rfl⟩ := cellEq_b he
   simp only [RV] at hx hy; subst hx; subst hy
   simpa [Instr.sameNow] using hs.symm
  case int =>
   cases h
   obtain ⟨k, a, c, rfl, rfl, rfl⟩ := cellEq_i he
   simp only [RV] at hx hy; subst hx; subst hy
   simpa [Instr.sameNow] using hs.symm
  case string =>
   cases h
   obtain ⟨a, c, rfl, rfl, rfl⟩ := cellEq_s he
   simp only [RV] at hx hy; subst hx; subst hy
   simp only [Instr.sameNow, Option.some.injEq] at hs
   rw [← hs, beq_toListBytes, bytes_eq]
  all_goals (simp [Instr.sameNow] at hs)
def FR (S : Cells) (w : World) (κ : Kap) : Option (Nat × V) → Option (Nat × Value) → Prop
 | none, none => True
 | some (i, x), some (j, u) => i = j ∧ RV S w κ x u
 | _, _ => False
theorem jZB {kt : TypeId} {ks : Eqd} (hk : eqD P 20 kt = some ks) {k : V} {kv : Value} (hkv : RV S w κ k kv) : ∀ (es : List (V × V × Nat)) (es' : List MapEntry) (i : Nat) (r : Option (Nat × V)),
  ME S w κ es es' → findKey ks k es i = some r → ∃ r', FR S w κ r r' ∧ (∀ w', (Instr.findAsking kt kv es' i).run P w' = .ok r' w') ∧
   (∀ desc s, P.underlying kt = some desc → Instr.findNow desc kv es' i = some s → s = r')
 | [], [], i, r, _, hf => by
  simp only [findKey, Option.some.injEq] at hf
  subst hf
  exact ⟨none, trivial, fun w' => by simp [Instr.findAsking], fun desc s _ hs => by simpa [Instr.findNow] using hs.symm⟩
 | [], _ :: _, _, _, h, _ => h.elim
 | _ :: _, [], _, _, h, _ => h.elim
 | e :: es, e' :: es', i, r, hm, hf => by
  obtain ⟨m1, m2, m3, m4⟩ := hm
  unfold findKey at hf
  split at hf
  ·rename_i he
   cases hf
   refine ⟨some (i, e'.val), ⟨rfl, m2⟩, fun w' => ?_, fun desc s hd hs => ?_⟩
   ·simp [Instr.findAsking, Op.equal, jZ2 20 kt ks hk _ _ _ _ _ hkv m1 he Op.maxDepth w' (by decide)]
   ·unfold Instr.findNow at hs
    split at hs
    ·cases hs; rfl
    ·rename_i hs'; exact absurd (jZJ hk hd hkv m1 he hs') (by simp)
    ·cases hs
  ·rename_i he
   obtain ⟨r', k1, k2, k3⟩ := jZB hk hkv es es' (i + 1) r m4 hf
   refine ⟨r', k1, fun w' => ?_, fun desc s hd hs => ?_⟩
   ·simp [Instr.findAsking, Op.equal, jZ2 20 kt ks hk _ _ _ _ _ hkv m1 he Op.maxDepth w' (by decide), k2]
   ·unfold Instr.findNow at hs
    split at hs
    ·rename_i hs'; exact absurd (jZJ hk hd hkv m1 he hs') (by simp)
    ·exact k3 desc s hd hs
    ·cases hs
  ·cases hf
theorem vZq {kt : TypeId} {ks : Eqd} (hk : eqD P 20 kt = some ks) {k : V} {kv : Value} (hkv : RV S w κ k kv) {es : List (V × V × Nat)} {es' : List MapEntry} {r : Option (Nat × V)}
  (hm : ME S w κ es es') (hf : findKey ks k es 0 = some r) : ∃ r', FR S w κ r r' ∧ ∀ w', (Instr.findKey kt kv es').run P w' = .ok r' w' := by
 obtain ⟨r', k1, k2, k3⟩ := jZB hk hkv es es' 0 r hm hf
 refine ⟨r', k1, fun w' => ?_⟩
 have hd : ∃ desc, P.underlying kt = some desc := by
  cases h : P.underlying kt with
  | none => simp [eqD, h] at hk
  | some d => exact ⟨d, rfl⟩
 obtain ⟨desc, hd⟩ := hd
 simp only [Instr.findKey, Sem.run_bind, run_underlying hd, Result.andThen_ok]
 cases hn : Instr.findNow desc kv es' 0 with
 | none => exact k2 w'
 | some s => simp only [Sem.run_pure]; rw [k3 desc s hd hn]
/-! ### The operations on maps -/
theorem ME_get : ∀ {es : List (V × V × Nat)} {es' : List MapEntry}, ME S w κ es es' → ∀ {i : Nat} {e : V × V × Nat}, es[i]? = some e →
  ∃ e', es'[i]? = some e' ∧ RV S w κ e.1 e'.key ∧ RV S w κ e.2.1 e'.val ∧ e.2.2 = e'.born
 | [], [], _, i, e, h => by simp at h
 | [], _ :: _, h, _, _, _ => h.elim
 | _ :: _, [], h, _, _, _ => h.elim
 | x :: es, y :: es', h, i, e, hi => by
  cases i with
  | zero => simp at hi; subst hi; exact ⟨y, rfl, h.1, h.2.1, h.2.2.1⟩
  | succ i => simp at hi; simpa using ME_get h.2.2.2 hi
theorem kZR : ∀ {es : List (V × V × Nat)} {es' : List MapEntry} {fs : List (V × V × Nat)} {fs' : List MapEntry}, ME S w κ es es' → ME S w κ fs fs' → ME S w κ (es ++ fs) (es' ++ fs')
 | [], [], _, _, _, h => h
 | [], _ :: _, _, _, h, _ => h.elim
 | _ :: _, [], _, _, h, _ => h.elim
 | x :: es, y :: es', fs, fs', h, k => ⟨h.1, h.2.1, h.2.2.1, kZR h.2.2.2 k⟩
theorem jZq (f : V × V × Nat → V × V × Nat) (g : MapEntry → MapEntry) : ∀ {es : List (V × V × Nat)} {es' : List MapEntry} (i : Nat), ME S w κ es es' →
  (∀ e e', es[i]? = some e → es'[i]? = some e' → RV S w κ (f e).1 (g e').key ∧ RV S w κ (f e).2.1 (g e').val ∧ (f e).2.2 = (g e').born) → ME S w κ (es.modify i f) (es'.modify i g)
 | [], [], i, _, _ => by simp [ME]
 | [], _ :: _, _, h, _ => h.elim
 | _ :: _, [], _, h, _ => h.elim
 | x :: es, y :: es', i, h, hf => by
  cases i with
  | zero =>
   obtain ⟨a, b, c⟩ := hf x y rfl rfl
   simpa [ME] using ⟨a, b, c, h.2.2.2⟩
  | succ i =>
   simp only [List.modify_succ_cons, ME]
   exact ⟨h.1, h.2.1, h.2.2.1, jZq f g i h.2.2.2 (fun e e' he he' => hf e e' (by simpa using he) (by simpa using he'))⟩
theorem ME_erase : ∀ {es : List (V × V × Nat)} {es' : List MapEntry} (i : Nat), ME S w κ es es' → ME S w κ (es.eraseIdx i) (es'.eraseIdx i)
 | [], [], i, _ => by simp [ME]
 | [], _ :: _, _, h => h.elim
 | _ :: _, [], _, h => h.elim
 | x :: es, y :: es', i, h => by
  cases i with
  | zero => simpa using h.2.2.2
  | succ i => simp only [List.eraseIdx_cons_succ, ME]; exact ⟨h.1, h.2.1, h.2.2.1, ME_erase i h.2.2.2⟩
theorem vZJ {kt : TypeId} {ks : Eqd} (hk : eqD P 20 kt = some ks) {k : V} {kv : Value} (hkv : RV S w κ k kv) (hok : keyOk ks k = true) (empty : Bool) (w' : World) :
  (Instr.checkKey empty 10000 kt kv).run P w' = .ok () w' := by
 unfold keyOk at hok
 cases h : eqdV ks k k with
 | none => rw [h] at hok; simp at hok
 | some r => exact xZz 20 kt ks hk k kv r hkv h empty 10000 w' (by decide)
theorem look_run {t kt e : TypeId} {z : Value} (ht : P.underlying t = some (.map kt e)) (hz : (zeroValue e).run P w = .ok z w) {mv kv : Value} {es' : List MapEntry} {ok : Bool}
  (hm : (mv = .map none ∧ es' = []) ∨ ∃ b a c, mv = .map (some b) ∧ w.heap[b]? = some (.map a c) ∧ a.toList = es')
  (hck : ∀ empty, (Instr.checkKey empty 10000 kt kv).run P w = .ok () w) {r' : Option (Nat × Value)} (hf : (Instr.findKey kt kv es').run P w = .ok r' w) :
  (Instr.lookup t mv kv ok).run P w = .ok (match r' with
   | some (_, v) => if ok then .tuple #[v, .bool true] else v
   | none => if ok then .tuple #[z, .bool false] else z) w := by
 rcases hm with ⟨rfl, rfl⟩ | ⟨b, a, c, rfl, hb, rfl⟩
 ·simp only [Instr.lookup, Sem.run_bind, run_underlying ht, Result.andThen_ok, Sem.run_pure, hck, hf]
  cases r' with
  | none => simp only [Sem.run_bind, hz, Result.andThen_ok, Sem.run_pure] <;> cases ok <;> rfl
  | some p => obtain ⟨i, v⟩ := p; simp only [Sem.run_pure, Result.andThen_ok] <;> cases ok <;> rfl
 ·simp only [Instr.lookup, Sem.run_bind, run_underlying ht, Result.andThen_ok, Sem.run_pure, vZx hb, hck, hf]
  cases r' with
  | none => simp only [Sem.run_bind, hz, Result.andThen_ok, Sem.run_pure] <;> cases ok <;> rfl
  | some p => obtain ⟨i, v⟩ := p; simp only [Sem.run_pure, Result.andThen_ok] <;> cases ok <;> rfl
theorem look_sound (inv : Inv P B S w κ h) {t kt e : TypeId} {ks : Eqd} {ok : Bool} {z : V} (ht : P.underlying t = some (.map kt e)) (hk : eqD P 20 kt = some ks) (hz : zeroT P e = some z)
  {m k x : V} {mv kv : Value} {h' : Heap} (hm : RV S w κ m mv) (hkv : RV S w κ k kv) (hh : evLook h ks ok z m k = some (x, h')) :
  h' = h ∧ ∃ v, RV S w κ x v ∧ (Instr.lookup t mv kv ok).run P w = .ok v w := by
 obtain ⟨zv, hzv, hzr⟩ := wZy hz
 have hzs := vZ5 (S := S) (w := w) (κ := κ) hzv
 unfold evLook at hh
 obtain ⟨hok, h1⟩ := zZN hh
 have fnd : ∀ {v : V} {b : Bool} {u : Value}, found ok v b h = some (x, h') → RV S w κ v u → h' = h ∧ RV S w κ x (if ok then .tuple #[u, .bool b] else u) := by
  intro v b u hf hv
  unfold found at hf
  cases ok with
  | true =>
   simp only [if_true, Option.some.injEq, Prod.mk.injEq] at hf
   obtain ⟨rfl, rfl⟩ := hf
   refine ⟨rfl, ?_⟩
   simp only [if_true, RV]
   exact ⟨_, rfl, by simp [RL, RV, hv]⟩
  | false =>
   simp only [Bool.false_eq_true, if_false, Option.some.injEq, Prod.mk.injEq] at hf
   obtain ⟨rfl, rfl⟩ := hf
   exact ⟨rfl, by simpa using hv⟩
 split at h1
 ·simp only [RV] at hm
  obtain ⟨e1, e2⟩ := fnd h1 hzs
  refine ⟨e1, _, e2, ?_⟩
  obtain ⟨r', k1, k2⟩ := vZq (es := []) (es' := []) (r := none) hk hkv trivial rfl
  cases r' with
  | some p => exact k1.elim
  | none =>
   rw [look_run ht (hzr w) (.inl ⟨hm, rfl⟩) (fun em => vZJ hk hkv hok em w) (k2 w)]
 ·rename_i id
  split at h1
  ·rename_i es clock hi
   obtain ⟨b, es', rfl, g1, g2, g3⟩ := kZa inv hi hm
   split at h1
   ·rename_i i v hf
    obtain ⟨r', k1, k2⟩ := vZq hk hkv g3 hf
    cases r' with
    | none => exact k1.elim
    | some p =>
     obtain ⟨j, u⟩ := p
     obtain ⟨rfl, hv⟩ := k1
     obtain ⟨e1, e2⟩ := fnd h1 hv
     exact ⟨e1, _, e2, look_run ht (hzr w) (.inr ⟨b, es', clock, rfl, g2, rfl⟩) (fun em => vZJ hk hkv hok em w) (k2 w)⟩
   ·rename_i hf
    obtain ⟨r', k1, k2⟩ := vZq hk hkv g3 hf
    cases r' with
    | some p => exact k1.elim
    | none =>
     obtain ⟨e1, e2⟩ := fnd h1 hzs
     exact ⟨e1, _, e2, look_run ht (hzr w) (.inr ⟨b, es', clock, rfl, g2, rfl⟩) (fun em => vZJ hk hkv hok em w) (k2 w)⟩
   ·cases h1
  ·cases h1
 ·cases h1
end
end Go.Ev
