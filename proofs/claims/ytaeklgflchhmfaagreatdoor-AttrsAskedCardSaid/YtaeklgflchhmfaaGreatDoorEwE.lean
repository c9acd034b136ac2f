/- What an argument's reading says, as a tree; a call from above. No conditions. -/
import Derived.Test.YtaeklgflchhmfaaGreatDoorEwD
import Derived.RowKit
set_option maxHeartbeats 16000000
set_option maxRecDepth 100000
set_option linter.unusedVariables false
set_option linter.unusedSimpArgs false
set_option linter.unusedSectionVars false
namespace Go.Ev
open Go.RowKit
def contig (P : Program) : List Field → Nat → Nat → Bool
 | [], o, n => o == n
 | f :: fs, o, n => f.offset == o && contig P fs (o + P.cellsOf f.type) n
def plainB (P : Program) : Nat → TypeId → Bool
 | 0, _ => false
 | d + 1, t =>
  match P.underlying t with
  | some .bool | some (.int _) | some .string => true
  | some (.slice e) => P.cellsOf e != 0 && plainB P d e
  | some (.struct fs) => contig P fs.toList 0 (P.cellsOf t) && fs.toList.all fun f => plainB P d f.type
  | _ => false
section
variable {H : Type}
mutual
def dV : DataW H → List V
 | .lit (.bool b) => [.bool b]
 | .lit (.int k n) => [.int k n]
 | .lit (.string l) => [.str ⟨l.toArray⟩]
 | .nil => [.arr []]
 | .slice es sp => [.arr (dVs es)]
 | .agg ps => dVc ps
 | _ => [.undef]
def dVs : List (DataW H) → List (List V)
 | [] => []
 | d :: r => dV d :: dVs r
def dVc : List (DataW H) → List V
 | [] => []
 | d :: r => dV d ++ dVc r
end
def DT (P : Program) : Nat → TypeId → DataW H → Prop
 | 0, _, _ => False
 | f + 1, t, d =>
  match P.underlying t with
  | some .bool => ∃ b, d = .lit (.bool b)
  | some (.int k) => ∃ n, d = .lit (.int k n) ∧ (Lit.int k n).wf = true
  | some .string => ∃ l, d = .lit (.string l) ∧ l.length ≤ maxLen
  | some (.slice e) => d = .nil ∨ ∃ es sp, d = .slice es sp ∧ es.length ≤ maxLen ∧ ∀ x ∈ es, DT P f e x
  | some (.struct fs) => ∃ ps, d = .agg ps ∧ F2 (fun (x : DataW H) (g : Field) => DT P f g.type x) ps fs.toList
  | _ => False
theorem dVs_eq : ∀ l : List (DataW H), dVs l = l.map dV
 | [] => rfl
 | d :: r => by simp [dVs, dVs_eq r]
def Sall (w : World) : Cells := fun b _ => b < w.heap.size
variable {enc : TypeId × Value → H} {P : Program} {W : World} {spare : Nat → Bool} {held : Bool}
theorem F2.len {α γ : Type} {R : α → γ → Prop} : ∀ {as : List α} {cs : List γ}, F2 R as cs → as.length = cs.length
 | [], [], _ => rfl
 | _ :: _, _ :: _, h => by simp [F2.len h.2]
 | [], _ :: _, h => h.elim
 | _ :: _, [], h => h.elim
theorem F2.get {α γ : Type} {R : α → γ → Prop} : ∀ {as : List α} {cs : List γ}, F2 R as cs → ∀ {i : Nat} {c : γ}, cs[i]? = some c → ∃ a, as[i]? = some a ∧ R a c
 | [], [], _, i, c, h => by simp at h
 | a :: as, b :: bs, h, i, c, hi => by
  cases i with
  | zero => simp at hi; subst hi; exact ⟨a, rfl, h.1⟩
  | succ i => simpa using F2.get h.2 (by simpa using hi)
 | [], _ :: _, h, _, _, _ => h.elim
 | _ :: _, [], h, _, _, _ => h.elim
theorem xZP {base n : Nat} {a : Addr} {cs : List Value} (h : W.cells? base a n = some cs) : cs.length = n ∧ ∀ j v, cs[j]? = some v → W.cell? (a.add j) = some v := by
 unfold World.cells? at h
 split at h
 ·obtain ⟨h1, h2⟩ := vZK _ _ _ h
  rw [List.length_range] at h1
  refine ⟨h1, fun j v hv => ?_⟩
  have hj : j < n := by have := (List.getElem?_eq_some_iff.1 hv).1; omega
  exact h2 j j v (by simp [hj]) hv
 ·cases h
theorem xZO {a : Addr} {v : Value} (h : W.cell? a = some v) : a.spot = none ∧ a.block < W.heap.size := by
 unfold World.cell? at h
 split at h
 ·rename_i hb
  split at h
  ·cases h
  ·rename_i hs
   exact ⟨by simpa using hs, (Array.getElem?_eq_some_iff.1 hb).1⟩
 ·cases h
theorem trod_tree : ∀ (fuel dep : Nat) (t : TypeId) (cs : List Value) (d : DataW H) (ps : List MemPlace), plainB P dep t = true → DataW.trod enc P W 0 spare held fuel t cs = some (d, ps) →
  RL (Sall W) W noK (dV d) cs ∧ (dV d).all V.isCell = true ∧ DT P dep t d := by
 intro fuel
 induction fuel with
 | zero => intro dep t cs d ps _ h; simp [DataW.trod] at h
 | succ fuel ih =>
  intro dep t cs d ps hp h
  cases dep with
  | zero => simp [plainB] at hp
  | succ dep =>
   simp only [plainB] at hp
   simp only [DT]
   split at hp
   ·-- bool
    rename_i ht
    unfold DataW.trod at h
    rw [ht] at h
    rcases cs with _ | ⟨c, _ | ⟨c2, cs⟩⟩
    ·simp at h
    ·cases c <;> simp at h
     obtain ⟨rfl, rfl⟩ := h
     exact ⟨by simp [dV, RL, RV], by simp [dV, V.isCell], _, rfl⟩
    ·cases c <;> simp at h
   ·rename_i k ht
    unfold DataW.trod at h
    rw [ht] at h
    rcases cs with _ | ⟨c, _ | ⟨c2, cs⟩⟩
    ·simp at h
    ·cases c <;> simp at h
     obtain ⟨⟨rfl, hwf⟩, rfl, rfl⟩ := h
     exact ⟨by simp [dV, RL, RV], by simp [dV, V.isCell], _, rfl, hwf⟩
    ·cases c <;> simp at h
   ·rename_i ht
    unfold DataW.trod at h
    rw [ht] at h
    rcases cs with _ | ⟨c, _ | ⟨c2, cs⟩⟩
    ·simp at h
    ·cases c <;> simp at h
     obtain ⟨hsz, rfl, rfl⟩ := h
     exact ⟨by simp [dV, RL, RV], by simp [dV, V.isCell], _, rfl, by simpa using hsz⟩
    ·cases c <;> simp at h
   ·rename_i e ht
    simp only [Bool.and_eq_true, bne_iff_ne, ne_eq] at hp
    obtain ⟨hn0, hpe⟩ := hp
    unfold DataW.trod at h
    rw [ht] at h
    rcases cs with _ | ⟨c, _ | ⟨c2, cs⟩⟩
    ·simp at h
    ·cases c
     case slice a len cap =>
      cases a with
      | none =>
       cases len <;> cases cap <;> simp at h
       obtain ⟨rfl, rfl⟩ := h
       exact ⟨by simp only [dV, RL, and_true, RV]; exact ⟨none, 0, rfl, Nat.le_refl _, .inl trivial⟩, by simp [dV, V.isCell], .inl rfl⟩
      | some a =>
       simp only [Nat.zero_le, true_and] at h
       obtain ⟨⟨hlc, hcm⟩, h⟩ := zZN h
       simp only [Option.bind_eq_some_iff, Option.map_eq_some_iff, Prod.mk.injEq] at h
       obtain ⟨elems, hel, rest, hrest, rfl, rfl⟩ := h
       obtain ⟨hl, hget⟩ := vZK _ _ _ hel
       rw [List.length_range] at hl
       have hone : ∀ (i : Nat) (x : DataW H × List MemPlace), elems[i]? = some x → ∃ us, W.cells? 0 (a.add (i * P.cellsOf e)) (P.cellsOf e) = some us ∧ RL (Sall W) W noK (dV x.1) us ∧ (dV x.1).all V.isCell = true ∧ DT P dep e x.1 := by
        intro i x hx
        have hi : i < len := by have := (List.getElem?_eq_some_iff.1 hx).1; omega
        have := hget i i x (by simp [hi]) hx
        simp only [Option.bind_eq_some_iff] at this
        obtain ⟨us, h1, h2⟩ := this
        obtain ⟨xd, xp⟩ := x
        exact ⟨us, h1, ih dep e us xd xp hpe h2⟩
       refine ⟨?_, by simp [dV, V.isCell], .inr ⟨_, _, rfl, by simp; omega, fun x hx => ?_⟩⟩
       ·simp only [dV, RL, and_true, RV]
        refine ⟨some a, cap, by simp [dVs_eq, hl], by simp [dVs_eq, hl]; omega, ?_⟩
        by_cases h0 : len = 0
        ·left
         have : elems = [] := List.eq_nil_of_length_eq_zero (by omega)
         simp [this, dVs]
        ·right
         have hspot : a.spot = none := by
          obtain ⟨us, h1, h2, _⟩ := hone 0 elems[0] (by simp [show 0 < elems.length by omega])
          obtain ⟨g1, g2⟩ := xZP h1
          have hl0 : 0 < us.length := by omega
          have := (xZO (g2 0 us[0] (by simp [hl0]))).1
          simpa [Addr.add] using this
         refine ⟨a.block, a.off, P.cellsOf e, by cases a; simp at hspot; simp [hspot], RE_of (fun i r hr => ?_)⟩
         rw [dVs_eq, List.getElem?_map, List.getElem?_map] at hr
         simp only [Option.map_eq_some_iff] at hr
         obtain ⟨_, ⟨x, hx, rfl⟩, rfl⟩ := hr
         obtain ⟨us, h1, h2, h3, _⟩ := hone i x hx
         obtain ⟨g1, g2⟩ := xZP h1
         have hlen := qZS h2
         refine ⟨by omega, RC_of (fun j y hy => ?_)⟩
         obtain ⟨u, hu, hyu⟩ := kZg h2 hy
         have hc := g2 j u hu
         have hadd : (a.add (i * P.cellsOf e)).add j = ⟨a.block, a.off + i * P.cellsOf e + j, none⟩ := by
          have : a = ⟨a.block, a.off, none⟩ := by cases a; simp at hspot; simp [hspot]
          rw [this, vZE, vZE]
         rw [hadd] at hc
         exact ⟨(xZO hc).2, u, hc, List.all_eq_true.1 h3 y (List.mem_of_getElem? hy), hyu⟩
       ·simp only [List.mem_map] at hx
        obtain ⟨x', hx', rfl⟩ := hx
        obtain ⟨i, hi⟩ := List.getElem?_of_mem hx'
        exact (hone i x' hi).choose_spec.2.2.2
     all_goals simp at h
    ·cases c <;> simp at h
   ·rename_i fs ht
    simp only [Bool.and_eq_true, List.all_eq_true] at hp
    obtain ⟨hc, hall⟩ := hp
    unfold DataW.trod at h
    rw [ht] at h
    simp only at h
    obtain ⟨hlen, h⟩ := zZN h
    simp only [Option.map_eq_some_iff, Prod.mk.injEq] at h
    obtain ⟨xs, hm, rfl, rfl⟩ := h
    have gen : ∀ (fl : List Field) (xs : List (DataW H × List MemPlace)) (o : Nat), contig P fl o (P.cellsOf t) = true → (∀ f ∈ fl, plainB P dep f.type = true) → o ≤ cs.length →
      fl.mapM (fun f => DataW.trod enc P W 0 spare held fuel f.type ((cs.drop f.offset).take (P.cellsOf f.type))) = some xs →
      RL (Sall W) W noK (dVc (xs.map (·.1))) (cs.drop o) ∧ (dVc (xs.map (·.1))).all V.isCell = true ∧ F2 (fun (x : DataW H) (g : Field) => DT P dep g.type x) (xs.map (·.1)) fl := by
     intro fl
     induction fl with
     | nil =>
      intro xs o hc _ ho hm
      simp at hm
      subst hm
      simp only [contig, beq_iff_eq] at hc
      subst hc
      rw [← hlen]
      simp [dVc, RL, F2]
     | cons f fl ihf =>
      intro xs o hc hall ho hm
      simp only [contig, Bool.and_eq_true, beq_iff_eq] at hc
      obtain ⟨rfl, hc⟩ := hc
      simp only [List.mapM_cons, Option.bind_eq_bind, Option.bind_eq_some_iff, Option.pure_def, Option.some.injEq] at hm
      obtain ⟨x, hx, xs', hxs, rfl⟩ := hm
      obtain ⟨xd, xp⟩ := x
      obtain ⟨r1, r2, r3⟩ := ih dep f.type _ xd xp (hall f (by simp)) hx
      have hfit : f.offset + P.cellsOf f.type ≤ cs.length := by
       have : ∀ (fl : List Field) (o : Nat), contig P fl o (P.cellsOf t) = true → o ≤ P.cellsOf t := by
        intro fl
        induction fl with
        | nil => intro o h; simp [contig] at h; omega
        | cons g gs ihg => intro o h; simp only [contig, Bool.and_eq_true, beq_iff_eq] at h; have := ihg _ h.2; omega
       have := this fl _ hc
       omega
      obtain ⟨q1, q2, q3⟩ := ihf xs' _ hc (fun g hg => hall g (by simp [hg])) hfit hxs
      refine ⟨?_, ?_, r3, q3⟩
      ·simp only [List.map_cons, dVc]
       have : cs.drop f.offset = (cs.drop f.offset).take (P.cellsOf f.type) ++ cs.drop (f.offset + P.cellsOf f.type) := by
        rw [← List.drop_drop, List.take_append_drop]
       rw [this]
       exact vZd r1 q1
      ·simp only [List.map_cons, dVc, List.all_append, r2, q2, Bool.and_self]
    obtain ⟨g1, g2, g3⟩ := gen fs.toList xs 0 hc hall (Nat.zero_le _) hm
    exact ⟨by simpa [dV] using g1, by simpa [dV] using g2, _, rfl, g3⟩
   ·cases hp
def dT (P : Program) (t : TypeId) (d : DataW H) : V :=
 match P.underlying t with
 | some (.struct _) => .agg (dV d)
 | _ => (dV d).headD .undef
theorem kZQ {dep : Nat} {t : TypeId} {v : Value} {d : DataW H} {ps : List MemPlace} (hp : plainB P dep t = true) (h : DataW.Trod enc P W 0 spare held t v d ps) {r : Reach} {base : Nat} (hv : Value.okWide P W r base t v) :
  RV (Sall W) W noK (dT P t d) v ∧ DT P dep t d := by
 obtain ⟨fuel, h⟩ := h
 obtain ⟨h1, h2, h3⟩ := trod_tree fuel dep t _ d ps hp h
 refine ⟨?_, h3⟩
 cases dep with
 | zero => simp [plainB] at hp
 | succ dep =>
  simp only [plainB] at hp
  unfold dT
  unfold Value.okWide at hv
  have scal : (∀ c, v ≠ .agg c) → RV (Sall W) W noK ((dV d).headD .undef) v := by
   intro hne
   have hc : v.cells = #[v] := by cases v <;> first | rfl | exact absurd rfl (hne _)
   rw [hc] at h1
   cases hd : dV d with
   | nil => rw [hd] at h1; simp [RL] at h1
   | cons x xs =>
    rw [hd] at h1
    simp only [RL] at h1
    exact h1.1
  split at hp
  ·rename_i ht
   rw [ht] at hv ⊢
   exact scal fun c e => by subst e; simp [Cell.okWide, Cell.ok, ht] at hv
  ·rename_i k ht
   rw [ht] at hv ⊢
   exact scal fun c e => by subst e; simp [Cell.okWide, Cell.ok, ht] at hv
  ·rename_i ht
   rw [ht] at hv ⊢
   exact scal fun c e => by subst e; simp [Cell.okWide, Cell.ok, ht] at hv
  ·rename_i e ht
   rw [ht] at hv ⊢
   exact scal fun c e => by subst e; simp [Cell.okWide, Cell.ok, ht] at hv
  ·rename_i fs ht
   rw [ht] at hv ⊢
   obtain ⟨cs, rfl, _⟩ := hv
   simp only [RV]
   exact ⟨cs, rfl, by simpa [Value.cells] using h1⟩
  ·cases hp
theorem xZy (hP : P.follows .mixedOrders = true) {Φ : Nat → Option Cf} (hΦ : Tells W P Φ) {f : FuncId} {args : List V} {x : V} {h' : Heap} (hc : callW Φ (.fn (.func f) [] []) args [] = some (x, h'))
  {as : Array Value} (hr : RL (Sall W) W noK args as.toList) : Calls P f as W fun e W' => ∃ v S' κ', e = .returned v ∧ Below W.heap.size W W' ∧ RV S' W' κ' x v := by
 obtain ⟨n, hn⟩ := jZX hc
 have inv : Inv P (⟨W.heap.size, Nat.le_refl _⟩ : Base W) (Sall W) W noK [] := ⟨fun i o ho => (by simp at ho), fun i j k k' h => (by cases h), fun i k h => (by cases h), fun b o h => h, Nat.le_refl _, fun _ _ => rfl⟩
 obtain ⟨d, nx, h1, h2, h3, h4⟩ := call_sound hP hΦ n _ _ _ _ _ hn inv (fv := .func (.func f) #[] #[]) (by simp only [RV]; exact ⟨#[], #[], rfl, by simp [RL], by simp [RL]⟩) hr
 obtain ⟨g, as', rfl⟩ := h4 (fun l a c e => by cases e)
 have e1 : d = { target := .fn (.func f) #[], args := as } := by
  simp [Deferred.ofValue] at h1
  exact h1.symm
 subst e1
 have e2 : g = f ∧ as' = as := by
  cases n with
  | zero => simp [evCall] at hn
  | succ n =>
   simp only [evCall] at hn
   split at hn
   ·cases hn
   ·rename_i cf hcf
    obtain ⟨fn, c, hfn, hname, hb, _⟩ := hΦ f cf hcf
    simp only [invoke, kZi hfn hname hb, Result.ok.injEq, Next.enter.injEq, and_true] at h2
    exact ⟨h2.1.symm, by simpa using h2.2.symm⟩
 obtain ⟨rfl, rfl⟩ := e2
 refine (callsIn_wide.1 (h3 0)).mono fun e W' he => ?_
 obtain ⟨v, S', κ', rfl, _, st, hv⟩ := he
 exact ⟨v, S', κ', rfl, st.below, hv⟩
end
end Go.Ev
