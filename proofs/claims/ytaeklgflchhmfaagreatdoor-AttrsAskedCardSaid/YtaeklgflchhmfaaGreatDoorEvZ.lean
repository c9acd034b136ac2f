/- Regions. Code. No conditions. -/
import Derived.Test.YtaeklgflchhmfaaGreatDoorEvX
set_option maxHeartbeats 16000000
set_option maxRecDepth 100000
set_option linter.unusedVariables false
set_option linter.unusedSimpArgs false
set_option linter.unusedSectionVars false
namespace Go.Ev
open Go.RowKit
section
variable {P : Program} {G : Glob} {B : Base G} {S : Cells} {w : World} {κ : Kap}
theorem mapM_get {α β : Type} {f : α → Option β} {l : List α} {r : List β} (hm : l.mapM f = some r) : l.length = r.length ∧ ∀ (i : Nat) (a : α), l[i]? = some a → ∃ b, r[i]? = some b ∧ f a = some b := by
 obtain ⟨hl, h⟩ := vZK f l r hm
 refine ⟨hl.symm, fun i a ha => ?_⟩
 have hi : i < r.length := by rw [hl]; exact (List.getElem?_eq_some_iff.1 ha).1
 exact ⟨r[i], by simp [hi], h i a _ ha (by simp [hi])⟩
theorem ops_sound {call : CallF} (hcall : CallS G P call) {ops : Array Oper} {cps : List Cp} (hm : ops.toList.mapM (cOper P ops) = some cps) {ro : Option Nat} {n : Nat} {Q : Exit → Act → World → Prop} {s' : St} :
  ∀ (k : Nat) {S : Cells} {w : World} {κ : Kap} {s : St} {a : Act}, k ≤ cps.length → evOps call (cps.drop (cps.length - k)) s = some s' → SR P B S w κ s a →
   (∀ a' w' S' κ', SR P B S' w' κ' s' a' → Stp B S w κ S' w' κ' → Q .normal a' w') →
   wpOpsIn (Fr ro) n P ops Q ((List.range ops.size).drop (cps.length - k)) a w := by
 obtain ⟨hl, hget⟩ := mapM_get hm
 intro k
 induction k with
 | zero =>
  intro S w κ s a hk he hs hQ
  simp only [Nat.sub_zero, List.drop_length, evOps, Option.some.injEq] at he
  subst he
  have : (List.range ops.size).drop (cps.length - 0) = [] := by simp; simp at hl; omega
  rw [this]
  exact hQ _ _ _ _ hs (.refl _ _ _ _)
 | succ k ih =>
  intro S w κ s a hk he hs hQ
  have hlt : cps.length - (k + 1) < cps.length := by omega
  have hlt' : cps.length - (k + 1) < (List.range ops.size).length := by simp; simp at hl; omega
  rw [List.drop_eq_getElem_cons hlt] at he
  rw [List.drop_eq_getElem_cons hlt']
  have e1 : cps.length - (k + 1) + 1 = cps.length - k := by omega
  rw [e1] at he ⊢
  simp only [List.getElem_range]
  have hlo : cps.length - (k + 1) < ops.toList.length := by omega
  obtain ⟨p, hp1, hp2⟩ := hget (cps.length - (k + 1)) (ops.toList[cps.length - (k + 1)]) (by simp [hlo])
  have hpe : cps[cps.length - (k + 1)] = p := by
   have := List.getElem?_eq_getElem hlt
   rw [this] at hp1; simpa using hp1
  rw [hpe] at he
  simp only [evOps] at he
  split at he
  ·rename_i s1 hs1
   rw [wpOpsIn_cons]
   have ho : ops[cps.length - (k + 1)]? = some (ops.toList[cps.length - (k + 1)]) := by
    rw [← Array.getElem?_toList]; simp [hlo]
   refine wpOpIn_step ho (fun K' hK' => ?_)
   refine kZM hcall hp2 hs1 hs (fun a' w' S' κ' hs' st => hK' _ _ ?_)
   exact ih (by omega) he hs' (fun a'' w'' S'' κ'' h1 h2 => hQ _ _ _ _ h1 (st.trans h2))
  ·cases he
def LD (listed : List Bool) (arr : Array Bool) : Prop := arr.toList = listed
theorem wZY {ops : Array Oper} {listed : List Bool} {arr : Array Bool} (hl : LD listed arr) {n : Nat} (hn : ops.size = n) (i : Nat) :
  i ∈ readyL n (ops.toList.map afterL) listed ↔ i ∈ Region.ready .any ops arr := by
 rw [mem_ready]
 unfold readyL
 rw [List.mem_filter, List.mem_range]
 subst hn
 have hb : ∀ (j : Nat) (d : Bool), listed.getD j d = arr.getD j d := by
  intro j d
  rw [← hl]
  simp [List.getD_eq_getElem?_getD, Array.getD_eq_getD_getElem?]
 constructor
 ·rintro ⟨hi, h2⟩
  simp only [Bool.and_eq_true, Bool.not_eq_true', List.all_eq_true] at h2
  obtain ⟨h2, h3⟩ := h2
  refine ⟨by rw [← hb]; exact h2, ops[i], by simp [hi], fun e he hbi => ?_⟩
  rw [← hb]
  refine h3 e.on ?_
  simp only [List.getD_eq_getElem?_getD, List.getElem?_map, Array.getElem?_toList]
  simp [hi, afterL]
  exact ⟨e, ⟨by simpa using he, hbi⟩, rfl⟩
 ·rintro ⟨h1, o, ho, h2⟩
  have hi : i < ops.size := (Array.getElem?_eq_some_iff.1 ho).1
  refine ⟨hi, ?_⟩
  simp only [Bool.and_eq_true, Bool.not_eq_true', List.all_eq_true]
  refine ⟨by rw [hb]; exact h1, fun j hj => ?_⟩
  simp only [List.getD_eq_getElem?_getD, List.getElem?_map, Array.getElem?_toList, ho] at hj
  simp [afterL] at hj
  obtain ⟨e, ⟨he, hbi⟩, rfl⟩ := hj
  rw [hb]
  exact h2 e (by simpa using he) hbi
theorem cOp_noSelect {o : Oper} {c : Cop} (hc : cOp P o = some c) (cs : Array SelectCase) (b : Bool) : o.op ≠ .select cs b := by
 intro e
 unfold cOp at hc
 rw [e] at hc
 simp at hc
theorem xZH {o : Oper} {c : Cop} (hc : cOp P o = some c) (hp : pureOp c = true) (w' : World) (ρ : Operand → Value) : o.about P w' ρ = none := by
 unfold Oper.about
 split
 ·rename_i cl ho
  unfold cOp at hc
  rw [ho] at hc
  simp only at hc
  split at hc
  ·rename_i b args hb ha
   simp [resolve, hb, Target.leads]
  ·simp only [Option.map_eq_some_iff] at hc
   obtain ⟨d, hd, rfl⟩ := hc
   simp [pureOp] at hp
  ·cases hc
 ·rfl
theorem cp_pure {call : CallF} {ops : Array Oper} {o : Oper} {p : Cp} (hp : cOper P ops o = some p) (hpu : pureOp p.op = true) {s s' : St} (he : evCp call p s = some s')
  {a : Act} (hs : SR P B S w κ s a) : ∃ v, YieldsFenced P ops o v a ∧ SR P B S w κ s' (a.put o.dst v) := by
 obtain ⟨c, g, hg, rfl, hc⟩ := kZL P hp
 simp only at hpu
 replace hc := hc.resolve_right (by rintro ⟨rfl, _⟩; cases hpu)
 unfold evCp at he
 simp only at he
 cases hw : wanted s.env g with
 | none => rw [hw] at he; cases he
 | some b =>
  rw [hw] at he
  have hwt := wZ0 hg hs.env hw
  cases b with
  | false =>
   simp only [Option.some.injEq] at he
   subst he
   exact ⟨undef, ⟨.inr ⟨hwt, rfl⟩, fun w' => xZH hc hpu w' _⟩, jZs hs hs.inv (.refl _ _ _ _) jZr o.dst⟩
  | true =>
   have hne : ∀ f args, c ≠ .call f args := fun f args e => by subst e; simp [pureOp] at hpu
   have he' : (match evOp s.env s.heap c with
     | some (v, h) => fS (putV s.env o.dst v) fun env => some { s with env, heap := h }
     | none => none) = some s' := by
    cases c <;> first | exact he | exact absurd rfl (hne _ _)
   split at he'
   ·rename_i v h heq
    rw [fS_eq] at he'
    cases he'
    obtain ⟨rfl, v', hv, hrun⟩ := op_pure hs.inv hs.env hc hpu heq
    exact ⟨v', ⟨.inl ⟨hwt, hrun⟩, fun w' => xZH hc hpu w' _⟩, jZs hs hs.inv (.refl _ _ _ _) hv o.dst⟩
   ·cases he'
theorem LD.set {listed : List Bool} {arr : Array Bool} (h : LD listed arr) (j : Nat) : LD (listed.set j true) (arr.setIfInBounds j true) := by
 unfold LD at *
 rw [← h]
 simp
theorem flOf_spec {ops : Array Oper} {cps : List Cp} {j : Nat} (hj : (flOf ops cps).contains j = true) :
  ∃ o c, ops[j]? = some o ∧ cps[j]? = some c ∧ pureOp c.op = true ∧ freeOp ops j o = true := by
 simp only [flOf, List.contains_eq_mem, decide_eq_true_eq, List.mem_filter] at hj
 obtain ⟨_, hj⟩ := hj
 split at hj
 ·rename_i o c ho hc
  simp only [Bool.and_eq_true] at hj
  exact ⟨o, c, ho, hc, hj.1, hj.2⟩
 ·cases hj
theorem any_sound {call : CallF} (hcall : CallS G P call) {ops : Array Oper} {cps : List Cp} (hm : ops.toList.mapM (cOper P ops) = some cps) {gg : Cp → Cp} (hgg : gg = id ∨ gg = toD) {ro : Option Nat} {n : Nat} {Q : Exit → Act → World → Prop} {s' : St}
  {fl : List Nat} (hfl : fl = [] ∨ (ro = none ∧ fl = flOf ops cps)) (hQp : ∀ c a w, ¬ Q (.panic c) a w) :
  ∀ (f : Nat) {S : Cells} {w : World} {κ : Kap} {s : St} {a : Act} (listed : List Bool) (arr : Array Bool), LD listed arr → evAny call (cps.map gg) (ops.toList.map afterL) fl f listed s = some s' → SR P B S w κ s a →
   (∀ a' w' S' κ', SR P B S' w' κ' s' a' → Stp B S w κ S' w' κ' → Q .normal a' w') →
   wpAnyIn (Fr ro) n P .any ops Q f arr a w := by
 obtain ⟨hl, hget⟩ := mapM_get hm
 have hsz : ops.size = cps.length := by simpa using hl
 have hns : Region.noSelect ops = true := by
  unfold Region.noSelect
  rw [Array.all_eq_true_iff_forall_mem]
  intro o ho
  obtain ⟨i, hi⟩ := Array.getElem?_of_mem ho
  obtain ⟨p, _, hp⟩ := hget i o (by rw [Array.getElem?_toList]; exact hi)
  obtain ⟨c, g, hg, rfl, hc⟩ := kZL P hp
  have : ∀ cs b, o.op ≠ .select cs b := hc.elim (fun hc => cOp_noSelect hc) (fun hc => hc.2)
  split
  ·rename_i h; exact absurd h (this _ _)
  ·rfl
 intro f
 induction f with
 | zero =>
  intro S w κ s a listed arr hld he hs hQ
  simp only [evAny, List.length_map] at he
  obtain ⟨hr, he⟩ := qZR he
  subst he
  refine ⟨?_, hQ _ _ _ _ hs (.refl _ _ _ _)⟩
  rw [List.eq_nil_iff_forall_not_mem] at hr ⊢
  exact fun i hi => hr i ((wZY hld hsz i).2 hi)
 | succ f ih =>
  intro S w κ s a listed arr hld he hs hQ
  simp only [evAny, List.length_map, List.getElem?_map] at he
  have hone : ∀ j s1, j ∈ readyL cps.length (ops.toList.map afterL) listed → (match Option.map gg cps[j]? with
    | some o =>
     match evCp call o s with
     | some s' => evAny call (cps.map gg) (ops.toList.map afterL) fl f (listed.set j true) s'
     | none => none
    | none => none) = some s1 → s1 = s' → wpOpIn (Fr ro) n P ops Q j (wpAnyIn (Fr ro) n P .any ops Q f (arr.setIfInBounds j true)) a w := by
   rintro j s1 hj hrun rfl
   have hjs : j < ops.size := by
    unfold readyL at hj
    rw [List.mem_filter, List.mem_range] at hj
    rw [hsz]; exact hj.1
   obtain ⟨p, hp1, hp2⟩ := hget j ops[j] (by simp [hjs])
   rw [hp1] at hrun
   simp only [Option.map_some] at hrun
   split at hrun
   ·rename_i s2 hs2
    refine wpOpIn_step (o := ops[j]) (by simp [hjs]) (fun K' hK' => ?_)
    refine cp_soundG hcall hp2 hgg hs2 hs (fun a' w' S' κ' hs' st => hK' _ _ ?_)
    exact ih (listed.set j true) _ (hld.set j) hrun hs' (fun a'' w'' S'' κ'' h1 h2 => hQ _ _ _ _ h1 (st.trans h2))
   ·cases hrun
  split at he
  ·rename_i hr
   cases he
   refine wpAnyIn_done ?_ (hQ _ _ _ _ hs (.refl _ _ _ _)) _
   rw [List.eq_nil_iff_forall_not_mem] at hr ⊢
   exact fun i hi => hr i ((wZY hld hsz i).2 hi)
  ·rename_i i is hr
   split at he
   ·rename_i j hj
    have hjm : j ∈ i :: is := List.mem_of_find?_eq_some hj
    have hjf : fl.contains j = true := by simpa using List.find?_some hj
    rcases hfl with rfl | ⟨rfl, rfl⟩
    ·simp at hjf
    ·obtain ⟨o, c, ho, hc, hpu, hfree⟩ := flOf_spec hjf
     rw [hc] at he
     have hgc : gg c = c := by
      rcases hgg with rfl | rfl
      ·rfl
      ·exact toD_pure hpu
     simp only [Option.map_some, hgc] at he
     split at he
     ·rename_i s2 hs2
      obtain ⟨p, hp1, hp2⟩ := hget j o (by rw [Array.getElem?_toList]; exact ho)
      have : p = c := by rw [hc] at hp1; simpa using hp1.symm
      subst this
      obtain ⟨v, hy, hs'⟩ := cp_pure hp2 hpu hs2 hs
      have hjr : j ∈ Region.ready .any ops arr := (wZY hld hsz j).1 (by rw [hr]; exact hjm)
      refine wpAnyIn_take rfl ho hns ?_ (by simpa using hjr) (fun c a w h => absurd h (hQp c _ w)) hy ?_
      ·unfold Region.free
       rw [ho]
       simp only [List.all_eq_true, List.mem_range]
       intro k hk
       unfold freeOp at hfree
       simp only [List.all_eq_true, List.mem_range] at hfree
       have := hfree k hk
       simp only [Bool.or_eq_true, beq_iff_eq] at this ⊢
       rcases this with (rfl | h2) | h3
       ·exact .inl (.inl rfl)
       ·refine .inl (.inr ?_)
        obtain ⟨_, o', ho', hall⟩ := mem_ready.1 hjr
        rw [ho] at ho'; cases ho'
        simp only [afterL, List.contains_eq_mem, List.mem_map, List.mem_filter, decide_eq_true_eq] at h2
        obtain ⟨e, ⟨he1, he2⟩, rfl⟩ := h2
        have := hall e (by simpa using he1) he2
        rw [Array.getD_eq_getD_getElem?] at this ⊢
        cases h' : arr[e.on]? with
        | none => rw [h'] at this; simp at this
        | some b => rw [h'] at this; simpa using this
       ·refine .inr ?_
        have hk' : ops[k]? = some ops[k] := by simp [hk]
        rw [hk'] at h3 ⊢
        simp only [Bool.or_eq_true] at h3 ⊢
        rcases h3 with h3 | h3
        ·left
         simp only [afterL, List.contains_eq_mem, List.mem_map, List.mem_filter, decide_eq_true_eq] at h3
         obtain ⟨e, ⟨he1, he2⟩, h4⟩ := h3
         rw [← Array.any_toList, List.any_eq_true]
         exact ⟨e, he1, by simp [he2, h4]⟩
        ·exact .inr h3
      ·exact ih (listed.set j true) _ (hld.set j) he hs' hQ
     ·cases he
   ·split at he
    ·rename_i r hri
     obtain ⟨hall, hrr⟩ := qZR he
     subst hrr
     refine wpAnyIn_all (rs := Region.ready .any ops arr) rfl (fun h0 => ?_) (fun j hj => ?_)
     ·have : i ∈ Region.ready .any ops arr := (wZY hld hsz i).1 (by rw [hr]; simp)
      rw [h0] at this; cases this
     ·have hj' := (wZY hld hsz j).2 hj
      have hj'' := hj'
      rw [hr] at hj''
      rcases List.mem_cons.1 hj'' with rfl | hj2
      ·exact hone _ _ hj' hri rfl
      ·have h3 := List.all_eq_true.1 hall j hj2
       split at h3
       ·rename_i r' hr'
        exact hone _ _ hj' hr' (sameSt_eq h3)
       ·cases h3
    ·cases he
end
open Go.RowKit
section
variable {P : Program} {G : Glob} {B : Base G} {S : Cells} {w : World} {κ : Kap} {h : Heap}
theorem Inv.push (inv : Inv P B S w κ h) (obj : Obj) (o' : Ob)
  (hO : Sle S w S (w.alloc obj) → Kle κ (upd κ h.length (.blk w.heap.size)) → OI P S (w.alloc obj) (upd κ h.length (.blk w.heap.size)) h.length o') :
  Inv P B S (w.alloc obj) (upd κ h.length (.blk w.heap.size)) (h ++ [o']) ∧ Stp B S w κ S (w.alloc obj) (upd κ h.length (.blk w.heap.size)) :=
 Inv.fresh inv h.length (Nat.le_refl _) obj (.blk w.heap.size) (fun k hk => by rw [kZc inv] at hk; cases hk) rfl (h ++ [o'])
  (fun i o hi ho => by
   rw [List.getElem?_append] at ho
   split at ho
   ·exact ho
   ·rename_i hge
    rw [List.getElem?_eq_none (by simp; omega)] at ho
    cases ho)
  (by simp) (by simp) (fun sle kle o ho => by
   simp at ho
   subst ho
   exact hO sle kle)
theorem Inv.over (inv : Inv P B S w κ h) {id b : Nat} {o0 o1 : Obj} (h1 : κ id = some (.blk b)) (h2 : w.heap[b]? = some o0) (hn0 : ∀ (w : World), w.heap[b]? = some o0 → ∀ o, w.cell? ⟨b, o, none⟩ = none)
  (hn1 : ∀ (w : World), w.heap[b]? = some o1 → ∀ o, w.cell? ⟨b, o, none⟩ = none) (o' : Ob)
  (hO : Sle S w S (World.withBlock w b o1) → Kle κ (upd κ id (.blk b)) → (World.withBlock w b o1).heap[b]? = some o1 → OI P S (World.withBlock w b o1) (upd κ id (.blk b)) id o') :
  Inv P B S (World.withBlock w b o1) (upd κ id (.blk b)) (h.set id o') ∧ Stp B S w κ S (World.withBlock w b o1) (upd κ id (.blk b)) := by
 have hb := (Array.getElem?_eq_some_iff.1 h2).1
 exact Inv.write inv h1 o1 (.blk b) (.refl _) rfl o' (fun o _ => by
  show (World.withBlock w b _).cell? ⟨b, o, none⟩ = w.cell? ⟨b, o, none⟩
  rw [hn0 w h2, hn1 _ (qZH w b _ hb)]) (fun sle kle => hO sle kle (qZH _ _ _ hb))
theorem vZ8 {b : Nat} {l : Loop} (w : World) (hb : w.heap[b]? = some (.loop l)) (o : Nat) : w.cell? ⟨b, o, none⟩ = none := by simp [World.cell?, hb]
theorem xZN {b : Nat} {l : Option (List Deferred)} (w : World) (hb : w.heap[b]? = some (.deferred l)) (o : Nat) : w.cell? ⟨b, o, none⟩ = none := by simp [World.cell?, hb]
theorem jZm {b : Nat} {l : Loop} (hb : w.heap[b]? = some (.loop l)) (o : Obj) : (setObj b o).run P w = .ok () (World.withBlock w b o) := by
 simp [setObj, Sem.run, hb, World.withBlock]
theorem setObj_defr {b : Nat} {l : Option (List Deferred)} (hb : w.heap[b]? = some (.deferred l)) (o : Obj) : (setObj b o).run P w = .ok () (World.withBlock w b o) := by
 simp [setObj, Sem.run, hb, World.withBlock]
theorem wZd {b : Nat} {l : Loop} (hb : w.heap[b]? = some (.loop l)) : (Instr.getLoop b).run P w = .ok l w := by
 simp [Instr.getLoop, getObj, Sem.run, hb]
def RO' (κ : Kap) : Option Nat → Option Nat → Prop
 | none, none => True
 | some l, some b => κ l = some (.blk b)
 | _, _ => False
theorem RO'.mono {κ κ' : Kap} (hk : Kle κ κ') {rnd ro : Option Nat} (h : RO' κ rnd ro) : RO' κ' rnd ro := by
 cases rnd <;> cases ro <;> simp only [RO'] at h ⊢
 obtain ⟨k', hk', le⟩ := hk _ _ h
 cases le
 exact hk'
def exOf : Ex → Exit
 | .normal => .normal
 | .exit i => .exit i
 | .ret => .ret
theorem wpIn_loop_n {F : Fence} {n : Nat} {Q : Exit → Act → World → Prop} {c : Code} {a : Act} {w : World} (J : Nat → Act → World → Prop) {n0 : Nat} (h0 : J n0 a w)
  (round : ∀ m a w, J m a w → c.wpIn F n P (Exit.then (fun a' w' => ∃ k, k < m ∧ J k a' w') Q) a w) : (Code.loop c).wpIn F n P Q a w := by
 classical
 have least : ∀ {a : Act} {w : World}, (∃ m, J m a w) → ∃ m, J m a w ∧ ∀ k, J k a w → m ≤ k := by
  rintro a w ⟨m, hm⟩
  induction m using Nat.strongRecOn with
  | _ m ih =>
   by_cases hk : ∃ k, k < m ∧ J k a w
   ·obtain ⟨k, h1, h2⟩ := hk
    exact ih k h1 h2
   ·exact ⟨m, hm, fun k hj => Nat.le_of_not_lt fun hl => hk ⟨k, hl, hj⟩⟩
 refine wpIn_loop (fun a w => ∃ m, J m a w) (fun a w => if h : ∃ m, J m a w then Classical.choose (least h) else 0) ⟨n0, h0⟩ (fun a w hJ => ?_)
 have hm := Classical.choose_spec (least hJ)
 refine wpIn_mono (round _ a w hm.1) (fun e a' w' hq => ?_)
 cases e with
 | normal =>
  obtain ⟨k, hk, hj⟩ := hq
  refine ⟨⟨k, hj⟩, ?_⟩
  have hex : ∃ m, J m a' w' := ⟨k, hj⟩
  rw [dif_pos hex, dif_pos hJ]
  exact Nat.lt_of_le_of_lt ((Classical.choose_spec (least hex)).2 _ hj) hk
 | _ => exact hq
def Post (P : Program) {G : Glob} (B : Base G) (S : Cells) (w : World) (κ : Kap) (e : Ex) (s' : St) (Q : Exit → Act → World → Prop) : Prop :=
 ∀ a' w' S' κ', SR P B S' w' κ' s' a' → Stp B S w κ S' w' κ' → Q (exOf e) a' w'
theorem kZZ {call : CallF} (hcall : CallS G P call) {rnd ro : Option Nat} {f : Operand} {fd : Od} {ps : Array Tmp} {assign body : Code} {asg bod : Cc} (hf : cOd f = some fd) (ha : cCode P assign = some asg) (hb : cCode P body = some bod)
  {s : St} {a : Act} (hs : SR P B S w κ s a) {g : FuncId} {first caps : List V} (hfe : fd.ev s.env = .fn (.func g) first caps)
  {df : Nat} {h1 : Heap} {m1 : List Nat} {e : Ex} {s' : St} (he : evEnter call (.fn (.func g) first caps) s.env ps.toList asg bod df h1 m1 = some (e, s')) {n : Nat} {Q : Exit → Act → World → Prop}
  (hent : ∃ (db : Nat) (mark : List Deferred) (w0 : World) (κ0 : Kap), Inv P B S w0 κ0 h1 ∧ Stp B S w κ S w0 κ0 ∧ κ0 df = some (.blk db) ∧ MK κ0 m1 (mark ++ a.defers) ∧
   ∀ fn, (Instr.enterLoop fn a.tmps ps assign body ro).run P w = .ok (w0.heap.size, mark) (w0.alloc (.loop { state := .ready, pending := none, fn, tmps := a.tmps, params := ps, assign, body, defers := db })))
  (hQ : Post P B S w κ e s' Q) : (Code.rangeFunc f ps assign body).wpIn (Fr ro) n P Q a w := by
 obtain ⟨db, mark, w0, κ0, inv0, st0, hdf, hmk, hen⟩ := hent
 refine wpIn_rangeFunc (fun fn _ => ?_)
 obtain ⟨inv1, st1⟩ := Inv.push inv0 (.loop { state := .ready, pending := none, fn, tmps := a.tmps, params := ps, assign, body, defers := db }) (.loop .ready none s.env ps.toList asg bod df)
  (fun sle kle => by
   obtain ⟨k', hk', le⟩ := kle _ _ hdf
   cases le
   exact ⟨w0.heap.size, db, _, qZo _ _ _, vZt _ _, rfl, trivial, RL.mono (st0.sle.trans sle) (st0.kle.trans kle) _ _ hs.env, rfl, ha, hb, hk', rfl⟩)
 unfold evEnter at he
 split at he
 ·cases he
 ·rename_i r h2 hc
  have hfv := zZ2 hs.env hf
  rw [hfe] at hfv
  have st01 := st0.trans st1
  have hl : (upd κ0 h1.length (.blk w0.heap.size)) h1.length = some (.blk w0.heap.size) := qZo _ _ _
  obtain ⟨d, nx, d1, d2, d3, d4⟩ := hcall _ _ _ _ _ hc (vs := #[.func (.yield w0.heap.size) #[] #[]]) inv1 (RV.mono st01.sle st01.kle _ _ hfv)
   (by simp only [RL]; exact ⟨⟨_, hl, rfl, rfl, rfl⟩, trivial⟩)
  obtain ⟨g', as, rfl⟩ := d4 (fun l a c e => by cases e)
  refine ⟨w0.heap.size, mark, _, d, _, g', as, _, hen fn, ?_, fun _ _ => trivial, d2, fun h => by simp [Fr, Fence.wide] at h, ?_⟩
  ·simp only [resolve, rangeCall]
   simpa [Act.eval] using d1
  refine CallsIn.mono (R := Ends P B S _ _ r h2) (d3 (n - 1)) (fun en w3 hen' => ?_)
  obtain ⟨v, S3, κ3, rfl, inv3, st3, hv⟩ := hen'
  obtain ⟨k', hk', le⟩ := st3.kle _ _ hl
  cases le
  have st013 := st01.trans st3
  have fin : ∀ (l : Loop) (pend : Option Ex), w3.heap[w0.heap.size]? = some (.loop l) → l.state ≠ .busy → PJ pend l.pending → e = pend.getD .normal → s' = { env := s.env, marks := m1, heap := h2.set h1.length .dead } →
    rangePost (Fr ro) n P w0.heap.size Q { a with defers := mark ++ a.defers } (.returned v) w3 := by
   rintro l pend hlo hst hpj rfl rfl
   have hrun : (Instr.endLoop w0.heap.size).run P w3 = .ok l.pending (World.withBlock w3 w0.heap.size (.loop { l with state := .exhausted })) := by
    simp [Instr.endLoop, wZd hlo, hst, jZm hlo]
   obtain ⟨inv4, st4⟩ := Inv.over inv3 (o1 := .loop { l with state := .exhausted }) hk' hlo (fun w hw o => vZ8 w hw o) (fun w hw o => vZ8 w hw o) .dead (fun _ _ _ => trivial)
   have st := st013.trans st4
   have hsr : SR P B S3 (World.withBlock w3 w0.heap.size (.loop { l with state := .exhausted })) (upd κ3 h1.length (.blk w0.heap.size)) { env := s.env, marks := m1, heap := h2.set h1.length .dead } { a with defers := mark ++ a.defers } :=
    ⟨inv4, RL.mono st.sle st.kle _ _ hs.env, MK.mono (st1.kle.trans (st3.kle.trans st4.kle)) _ _ hmk⟩
   have hq := hQ _ _ _ _ hsr st
   clear hsr st inv4 st4
   generalize World.withBlock w3 w0.heap.size (.loop { l with state := .exhausted }) = W4 at hrun hq
   refine ⟨_, W4, hrun, ?_⟩
   cases pend with
   | none =>
    cases hp : l.pending with
    | none => simpa [exOf] using hq
    | some c => rw [hp] at hpj; exact hpj.elim
   | some x =>
    cases hp : l.pending with
    | none => rw [hp] at hpj; cases x <;> exact hpj.elim
    | some c =>
     rw [hp] at hpj
     cases x with
     | normal => cases c <;> exact hpj.elim
     | exit i => cases c <;> first | exact hpj.elim | (simp only [PJ] at hpj; subst hpj; exact wpIn_exit hq)
     | ret => cases c <;> first | exact hpj.elim | exact wpIn_ret hq
  split at he
  ·cases he
  ·rename_i st' pend' _ _ _ _ _ hnb hob
   simp only [Option.some.injEq, Prod.mk.injEq] at he
   obtain ⟨b, db', l, o1, o2, o3, o4, _⟩ := inv3.obs _ _ hob
   rw [hk'] at o1; cases o1
   refine fin l pend' o2 (fun hbz => ?_) o4 he.1.symm he.2.symm
   exact hnb (o3.symm.trans hbz)
  ·cases he
theorem Post.trans {e : Ex} {s' : St} {Q : Exit → Act → World → Prop} (h : Post P B S w κ e s' Q) {S1 : Cells} {w1 : World} {κ1 : Kap} (st : Stp B S w κ S1 w1 κ1) : Post P B S1 w1 κ1 e s' Q :=
 fun a' w' S' κ' h1 h2 => h a' w' S' κ' h1 (st.trans h2)
theorem wZ3 (hP : P.follows .mixedOrders = true) {call : CallF} (hcall : CallS G P call) (lf : Nat) : ∀ (c : Code) (cc : Cc), cCode P c = some cc →
  ∀ (rnd ro : Option Nat) (s : St) (e : Ex) (s' : St), evCode call lf rnd cc s = some (e, s') →
  ∀ {S : Cells} {w : World} {κ : Kap} {a : Act} (n : Nat), SR P B S w κ s a → RO' κ rnd ro → ∀ (Q : Exit → Act → World → Prop), Post P B S w κ e s' Q → c.wpIn (Fr ro) n P Q a w := by
 intro c
 induction c with
 | skip =>
  intro cc hc rnd ro s e s' he S w κ a n hs hro Q hQ
  simp only [cCode, Option.some.injEq] at hc
  subst hc
  simp only [evCode, Option.some.injEq, Prod.mk.injEq] at he
  obtain ⟨rfl, rfl⟩ := he
  exact wpIn_skip (hQ _ _ _ _ hs (.refl _ _ _ _))
 | region id ops draw =>
  intro cc hc rnd ro s e s' he S w κ a n hs hro Q hQ
  cases draw with
  | false =>
   simp only [cCode, Option.map_eq_some_iff] at hc
   obtain ⟨cps, hm, rfl⟩ := hc
   simp only [evCode, Option.map_eq_some_iff, Prod.mk.injEq] at he
   obtain ⟨s1, he, rfl, rfl⟩ := he
   have := ops_sound hcall hm (ro := ro) (n := n) (Q := Q) cps.length (Nat.le_refl _) (by simpa using he) hs hQ
   simp only [Nat.sub_self, List.drop_zero] at this
   exact wpIn_region this
  | true =>
   simp only [cCode, Option.map_eq_some_iff] at hc
   obtain ⟨cps, hm, hcc⟩ := hc
   obtain ⟨hl, _⟩ := mapM_get hm
   have hsz : ops.size = cps.length := by simpa using hl
   have go : ∀ (gg : Cp → Cp) (hgg : gg = _root_.id ∨ gg = toD) (s0 s1 : St), SR P B S w κ s0 a → Post P B S w κ .normal s1 Q → evAny call (cps.map gg) (ops.toList.map afterL) (if rnd.isNone = true then flOf ops cps else []) cps.length (List.replicate cps.length false) s0 = some s1 → (Code.region id ops true).wpIn (Fr ro) n P Q a w := by
    intro gg hgg s0 s1 hs hQ he
    obtain ⟨inv1, st1⟩ := hs.inv.drawn
    have hs1 : SR P B S w.drew κ s0 a := ⟨inv1, RL.mono st1.sle st1.kle _ _ hs.env, hs.mks⟩
    refine wpIn_mono (Q := fun e a' w' => match e with | .normal => Q .normal a' w' | _ => False) (wpIn_region_any hP ?_) (fun e a' w' h => by cases e <;> first | exact h | exact h.elim)
    rw [hsz]
    refine any_sound hcall hm hgg (fl := if rnd.isNone = true then flOf ops cps else []) ?_ (fun c a w h => h) cps.length (List.replicate cps.length false) _ (by simp [LD]) he hs1 (fun a' w' S' κ' h1 h2 => hQ _ _ _ _ h1 (st1.trans h2))
    cases rnd with
    | none => cases ro with
     | none => exact .inr ⟨rfl, rfl⟩
     | some b => exact hro.elim
    | some l => exact .inl rfl
   split at hcc
   ·subst hcc
    simp only [evCode, evOps, evCp, wanted, evOp, evResv, fH_eq, putV, fS_eq, Option.map_some, Option.map_eq_some_iff, Prod.mk.injEq, List.length_map] at he
    obtain ⟨s1, he, rfl, rfl⟩ := he
    exact go toD (.inr rfl) { s with heap := s.heap ++ (dsOf cps).map Ob.resv } s1 ⟨resv_inv hs.inv _, hs.env, hs.mks⟩ hQ he
   ·subst hcc
    simp only [evCode, Option.map_eq_some_iff, Prod.mk.injEq] at he
    obtain ⟨s1, he, rfl, rfl⟩ := he
    exact go _root_.id (.inl rfl) s s1 hs hQ (by simpa using he)
 | seq x y ihx ihy =>
  intro cc hc rnd ro s e s' he S w κ a n hs hro Q hQ
  simp only [cCode] at hc
  split at hc
  ·rename_i cx cy hx hy
   cases hc
   simp only [evCode] at he
   split at he
   ·rename_i s1 h1
    refine wpIn_seq (ihx _ hx rnd ro s .normal s1 h1 n hs hro _ (fun a' w' S' κ' h2 st => ?_))
    exact ihy _ hy rnd ro s1 e s' he n h2 (RO'.mono st.kle hro) Q (hQ.trans st)
   ·rename_i hne
    refine wpIn_seq (ihx _ hx rnd ro s e s' he n hs hro _ (fun a' w' S' κ' h2 st => ?_))
    have hq := hQ a' w' S' κ' h2 st
    cases e with
    | normal => exact absurd he (hne s')
    | exit i => exact hq
    | ret => exact hq
  ·cases hc
 | cond c x y ihx ihy =>
  intro cc hc rnd ro s e s' he S w κ a n hs hro Q hQ
  simp only [cCode] at hc
  split at hc
  ·rename_i cd cx cy hcd hx hy
   cases hc
   simp only [evCode] at he
   split at he
   ·rename_i t ht
    have hv := zZ2 hs.env hcd
    rw [ht] at hv
    simp only [RV] at hv
    cases t with
    | true =>
     simp only [if_true] at he
     exact wpIn_cond_true hv (ihx _ hx rnd ro s e s' he n hs hro Q hQ)
    | false =>
     simp only [Bool.false_eq_true, if_false] at he
     exact wpIn_cond_false hv (ihy _ hy rnd ro s e s' he n hs hro Q hQ)
   ·cases he
  ·cases hc
 | block id x ih =>
  intro cc hc rnd ro s e s' he S w κ a n hs hro Q hQ
  simp only [cCode, Option.map_eq_some_iff] at hc
  obtain ⟨cx, hx, rfl⟩ := hc
  simp only [evCode] at he
  split at he
  ·rename_i i s1 h1
   simp only [Option.some.injEq, Prod.mk.injEq] at he
   obtain ⟨rfl, rfl⟩ := he
   refine wpIn_block (ih _ hx rnd ro s _ s1 h1 n hs hro _ (fun a' w' S' κ' h2 st => ?_))
   have hq := hQ a' w' S' κ' h2 st
   show (if i = id then Q .normal a' w' else Q (.exit i) a' w')
   split
   ·rename_i hi; simpa [exOf, hi] using hq
   ·rename_i hi; simpa [exOf, hi] using hq
  ·rename_i hne
   refine wpIn_block (ih _ hx rnd ro s _ s' he n hs hro _ (fun a' w' S' κ' h2 st => ?_))
   have hq := hQ a' w' S' κ' h2 st
   cases e with
   | normal => exact hq
   | exit i => exact absurd he (hne i s')
   | ret => exact hq
 | loop x ih =>
  intro cc hc rnd ro s e s' he S w κ a n hs hro Q hQ
  simp only [cCode, Option.map_eq_some_iff] at hc
  obtain ⟨cx, hx, rfl⟩ := hc
  simp only [evCode] at he
  refine wpIn_loop_n (fun m a1 w1 => ∃ s1 S1 κ1, rounds (evCode call lf rnd cx) m s1 = some (e, s') ∧ SR P B S1 w1 κ1 s1 a1 ∧ Stp B S w κ S1 w1 κ1) (n0 := lf) ⟨s, S, κ, he, hs, .refl _ _ _ _⟩ (fun m a1 w1 hJ => ?_)
  obtain ⟨s1, S1, κ1, hr, hs1, st1⟩ := hJ
  cases m with
  | zero => simp [rounds] at hr
  | succ m =>
   simp only [rounds] at hr
   split at hr
   ·rename_i s2 h2
    refine ih _ hx rnd ro s1 .normal s2 h2 n hs1 (RO'.mono st1.kle hro) _ (fun a' w' S' κ' h3 st => ?_)
    exact ⟨m, by omega, s2, S', κ', hr, h3, st1.trans st⟩
   ·rename_i hne
    refine ih _ hx rnd ro s1 e s' hr n hs1 (RO'.mono st1.kle hro) _ (fun a' w' S' κ' h3 st => ?_)
    have hq := hQ a' w' S' κ' h3 (st1.trans st)
    cases e with
    | normal => exact absurd hr (hne s')
    | exit i => exact hq
    | ret => exact hq
 | rangeFunc f ps x y ihx ihy =>
  intro cc hc rnd ro s e s' he S w κ a n hs hro Q hQ
  simp only [cCode] at hc
  split at hc
  ·rename_i fd asg bod hf ha hb
   cases hc
   simp only [evCode] at he
   split at he
   ·rename_i g first caps hfe
    cases rnd with
    | none =>
     cases ro with
     | some b => exact hro.elim
     | none =>
      simp only at he
      obtain ⟨inv1, st1⟩ := Inv.push hs.inv (.deferred (some [])) (.defr false) (fun sle kle => ⟨w.heap.size, qZo _ _ _, vZt _ _⟩)
      refine kZZ hcall (rnd := none) hf ha hb hs hfe he ⟨w.heap.size, [{ target := .collected w.heap.size, args := #[] }], w.alloc (.deferred (some [])), upd κ s.heap.length (.blk w.heap.size), inv1, st1, qZo _ _ _, ?_, fun fn => ?_⟩ hQ
      ·exact ⟨⟨w.heap.size, qZo _ _ _, rfl⟩, MK.mono st1.kle _ _ hs.mks⟩
      ·simp [Instr.enterLoop]
    | some l =>
     simp only at he
     split at he
     ·rename_i df hob
      cases ro with
      | none => exact hro.elim
      | some b =>
       obtain ⟨b', db, lr, o1, o2, _, _, _, _, _, _, o8, o9⟩ := hs.inv.obs _ _ hob
       simp only [RO'] at hro
       rw [hro] at o1; cases o1
       refine kZZ hcall (rnd := some l) hf ha hb hs hfe he ⟨db, [], w, κ, hs.inv, .refl _ _ _ _, o8, hs.mks, fun fn => ?_⟩ hQ
       simp [Instr.enterLoop, wZd o2, o9]
     ·cases he
   ·cases he
  ·cases hc
 | exit id =>
  intro cc hc rnd ro s e s' he S w κ a n hs hro Q hQ
  simp only [cCode, Option.some.injEq] at hc
  subst hc
  simp only [evCode, Option.some.injEq, Prod.mk.injEq] at he
  obtain ⟨rfl, rfl⟩ := he
  exact wpIn_exit (hQ _ _ _ _ hs (.refl _ _ _ _))
 | ret =>
  intro cc hc rnd ro s e s' he S w κ a n hs hro Q hQ
  simp only [cCode, Option.some.injEq] at hc
  subst hc
  simp only [evCode, Option.some.injEq, Prod.mk.injEq] at he
  obtain ⟨rfl, rfl⟩ := he
  exact wpIn_ret (hQ _ _ _ _ hs (.refl _ _ _ _))
 | scope x _ => intro cc hc; simp [cCode] at hc
 | label l => intro cc hc; simp [cCode] at hc
 | goto l => intro cc hc; simp [cCode] at hc
 | refuse x => intro cc hc; simp [cCode] at hc
end
end Go.Ev
