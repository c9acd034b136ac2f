/- The evaluator, part 4: Regions. Code. Values frozen: with none of the heap. Functions and calls: the evaluator's meaning is the machine's. No conditions. -/
import Derived.Test.YtgfebbhjpgkdfaaE03
namespace Go.Ev
open Go.RowKit
set_option linter.unusedVariables false
set_option linter.unusedSectionVars false
set_option linter.unusedSimpArgs false

section
variable {P : Program} {B : Nat} {S : Cells} {w : World} {κ : Kap}

/-- The operations of a region, and their compiled ones. -/
theorem mapM_get {α β : Type} {f : α → Option β} {l : List α} {r : List β} (hm : l.mapM f = some r) : l.length = r.length ∧ ∀ (i : Nat) (a : α), l[i]? = some a → ∃ b, r[i]? = some b ∧ f a = some b := by
  obtain ⟨hl, h⟩ := mapM_some f l r hm
  refine ⟨hl.symm, fun i a ha => ?_⟩
  have hi : i < r.length := by rw [hl]; exact (List.getElem?_eq_some_iff.1 ha).1
  exact ⟨r[i], by simp [hi], h i a _ ha (by simp [hi])⟩

theorem ops_sound {call : CallF} (hcall : CallS P call) {ops : Array Oper} {cps : List Cp} (hm : ops.toList.mapM (cOper P ops) = some cps) {ro : Option Nat} {n : Nat} {Q : Exit → Act → World → Prop} {s' : St} :
    ∀ (k : Nat) {S : Cells} {w : World} {κ : Kap} {s : St} {a : Act}, k ≤ cps.length → evOps call (cps.drop (cps.length - k)) s = some s' → SR P B S w κ s a →
      (∀ a' w' S' κ', SR P B S' w' κ' s' a' → Stp B S w κ S' w' κ' → Q .normal a' w') →
      wpOpsIn (Fr ro) n P ops Q ((List.range ops.size).drop (cps.length - k)) a w := by
  obtain ⟨hl, hget⟩ := mapM_get hm
  intro k
  induction k with
  | zero =>
    intro S w κ s a hk he hs hQ
    simp only [Nat.sub_zero, List.drop_length, evOps, Option.some.injEq] at he
    subst he
    have : (List.range ops.size).drop (cps.length - 0) = [] := by simp; simp at hl; omega
    rw [this]
    exact hQ _ _ _ _ hs (.refl _ _ _ _)
  | succ k ih =>
    intro S w κ s a hk he hs hQ
    have hlt : cps.length - (k + 1) < cps.length := by omega
    have hlt' : cps.length - (k + 1) < (List.range ops.size).length := by simp; simp at hl; omega
    rw [List.drop_eq_getElem_cons hlt] at he
    rw [List.drop_eq_getElem_cons hlt']
    have e1 : cps.length - (k + 1) + 1 = cps.length - k := by omega
    rw [e1] at he ⊢
    simp only [List.getElem_range]
    have hlo : cps.length - (k + 1) < ops.toList.length := by omega
    obtain ⟨p, hp1, hp2⟩ := hget (cps.length - (k + 1)) (ops.toList[cps.length - (k + 1)]) (by simp [hlo])
    have hpe : cps[cps.length - (k + 1)] = p := by
      have := List.getElem?_eq_getElem hlt
      rw [this] at hp1; simpa using hp1
    rw [hpe] at he
    simp only [evOps] at he
    split at he
    · rename_i s1 hs1
      rw [wpOpsIn_cons]
      have ho : ops[cps.length - (k + 1)]? = some (ops.toList[cps.length - (k + 1)]) := by
        rw [← Array.getElem?_toList]; simp [hlo]
      refine wpOpIn_step ho (fun K' hK' => ?_)
      refine cp_sound hcall hp2 hs1 hs (fun a' w' S' κ' hs' st => hK' _ _ ?_)
      exact ih (by omega) he hs' (fun a'' w'' S'' κ'' h1 h2 => hQ _ _ _ _ h1 (st.trans h2))
    · cases he

/-- What is left of a region whose order is open: the list of what is done. -/
def LD (listed : List Bool) (arr : Array Bool) : Prop := arr.toList = listed

theorem ready_iff {ops : Array Oper} {listed : List Bool} {arr : Array Bool} (hl : LD listed arr) {n : Nat} (hn : ops.size = n) (i : Nat) :
    i ∈ readyL n (ops.toList.map afterL) listed ↔ i ∈ Region.ready .any ops arr := by
  rw [mem_ready]
  unfold readyL
  rw [List.mem_filter, List.mem_range]
  subst hn
  have hb : ∀ (j : Nat) (d : Bool), listed.getD j d = arr.getD j d := by
    intro j d
    rw [← hl]
    simp [List.getD_eq_getElem?_getD, Array.getD_eq_getD_getElem?]
  constructor
  · rintro ⟨hi, h2⟩
    simp only [Bool.and_eq_true, Bool.not_eq_true', List.all_eq_true] at h2
    obtain ⟨h2, h3⟩ := h2
    refine ⟨by rw [← hb]; exact h2, ops[i], by simp [hi], fun e he hbi => ?_⟩
    rw [← hb]
    refine h3 e.on ?_
    simp only [List.getD_eq_getElem?_getD, List.getElem?_map, Array.getElem?_toList]
    simp [hi, afterL]
    exact ⟨e, ⟨by simpa using he, hbi⟩, rfl⟩
  · rintro ⟨h1, o, ho, h2⟩
    have hi : i < ops.size := (Array.getElem?_eq_some_iff.1 ho).1
    refine ⟨hi, ?_⟩
    simp only [Bool.and_eq_true, Bool.not_eq_true', List.all_eq_true]
    refine ⟨by rw [hb]; exact h1, fun j hj => ?_⟩
    simp only [List.getD_eq_getElem?_getD, List.getElem?_map, Array.getElem?_toList, ho] at hj
    simp [afterL] at hj
    obtain ⟨e, ⟨he, hbi⟩, rfl⟩ := hj
    rw [hb]
    exact h2 e (by simpa using he) hbi

theorem cOp_noSelect {o : Oper} {c : Cop} (hc : cOp P o = some c) (cs : Array SelectCase) (b : Bool) : o.op ≠ .select cs b := by
  intro e
  unfold cOp at hc
  rw [e] at hc
  simp at hc

theorem about_pure {o : Oper} {c : Cop} (hc : cOp P o = some c) (hp : pureOp c = true) (w' : World) (ρ : Operand → Value) : o.about P w' ρ = none := by
  unfold Oper.about
  split
  · rename_i cl ho
    unfold cOp at hc
    rw [ho] at hc
    simp only at hc
    split at hc
    · rename_i b args hb ha
      simp [resolve, hb, Target.leads]
    · simp only [Option.map_eq_some_iff] at hc
      obtain ⟨d, hd, rfl⟩ := hc
      simp [pureOp] at hp
    · cases hc
  · rfl

/-- A pure operation of a region, taken first. -/
theorem cp_pure {call : CallF} {ops : Array Oper} {o : Oper} {p : Cp} (hp : cOper P ops o = some p) (hpu : pureOp p.op = true) {s s' : St} (he : evCp call p s = some s')
    {a : Act} (hs : SR P B S w κ s a) : ∃ v, YieldsFenced P ops o v a ∧ SR P B S w κ s' (a.put o.dst v) := by
  unfold cOper at hp
  split at hp
  case h_2 => cases hp
  rename_i c g hc hg
  cases hp
  simp only at hpu
  unfold evCp at he
  simp only at he
  cases hw : wanted s.env g with
  | none => rw [hw] at he; cases he
  | some b =>
    rw [hw] at he
    have hwt := wanted_sound hg hs.env hw
    cases b with
    | false =>
      simp only [Option.some.injEq] at he
      subst he
      exact ⟨undef, ⟨.inr ⟨hwt, rfl⟩, fun w' => about_pure hc hpu w' _⟩, SR_put hs hs.inv (.refl _ _ _ _) RV_non o.dst⟩
    | true =>
      have hne : ∀ f args, c ≠ .call f args := fun f args e => by subst e; simp [pureOp] at hpu
      have he' : (match evOp s.env s.heap c with
          | some (v, h) => fS (putV s.env o.dst v) fun env => some { s with env, heap := h }
          | none => none) = some s' := by
        cases c <;> first | exact he | exact absurd rfl (hne _ _)
      split at he'
      · rename_i v h heq
        rw [fS_eq] at he'
        cases he'
        obtain ⟨rfl, v', hv, hrun⟩ := op_pure hs.inv hs.env hc hpu heq
        exact ⟨v', ⟨.inl ⟨hwt, hrun⟩, fun w' => about_pure hc hpu w' _⟩, SR_put hs hs.inv (.refl _ _ _ _) hv o.dst⟩
      · cases he'

theorem LD.set {listed : List Bool} {arr : Array Bool} (h : LD listed arr) (j : Nat) : LD (listed.set j true) (arr.setIfInBounds j true) := by
  unfold LD at *
  rw [← h]
  simp

theorem flOf_spec {ops : Array Oper} {cps : List Cp} {j : Nat} (hj : (flOf ops cps).contains j = true) :
    ∃ o c, ops[j]? = some o ∧ cps[j]? = some c ∧ pureOp c.op = true ∧ freeOp ops j o = true := by
  simp only [flOf, List.contains_eq_mem, decide_eq_true_eq, List.mem_filter] at hj
  obtain ⟨_, hj⟩ := hj
  split at hj
  · rename_i o c ho hc
    simp only [Bool.and_eq_true] at hj
    exact ⟨o, c, ho, hc, hj.1, hj.2⟩
  · cases hj

theorem any_sound {call : CallF} (hcall : CallS P call) {ops : Array Oper} {cps : List Cp} (hm : ops.toList.mapM (cOper P ops) = some cps) {ro : Option Nat} {n : Nat} {Q : Exit → Act → World → Prop} {s' : St}
    {fl : List Nat} (hfl : fl = [] ∨ (ro = none ∧ fl = flOf ops cps)) (hQp : ∀ c a w, ¬ Q (.panic c) a w) :
    ∀ (f : Nat) {S : Cells} {w : World} {κ : Kap} {s : St} {a : Act} (listed : List Bool) (arr : Array Bool), LD listed arr → evAny call cps (ops.toList.map afterL) fl f listed s = some s' → SR P B S w κ s a →
      (∀ a' w' S' κ', SR P B S' w' κ' s' a' → Stp B S w κ S' w' κ' → Q .normal a' w') →
      wpAnyIn (Fr ro) n P .any ops Q f arr a w := by
  obtain ⟨hl, hget⟩ := mapM_get hm
  have hsz : ops.size = cps.length := by simpa using hl
  have hns : Region.noSelect ops = true := by
    unfold Region.noSelect
    rw [Array.all_eq_true_iff_forall_mem]
    intro o ho
    obtain ⟨i, hi⟩ := Array.getElem?_of_mem ho
    obtain ⟨p, _, hp⟩ := hget i o (by rw [Array.getElem?_toList]; exact hi)
    unfold cOper at hp
    split at hp
    · rename_i c g hc hg
      have := cOp_noSelect hc
      split
      · rename_i h; exact absurd h (this _ _)
      · rfl
    · cases hp
  intro f
  induction f with
  | zero =>
    intro S w κ s a listed arr hld he hs hQ
    simp only [evAny] at he
    obtain ⟨hr, he⟩ := ite_some he
    subst he
    refine ⟨?_, hQ _ _ _ _ hs (.refl _ _ _ _)⟩
    rw [List.eq_nil_iff_forall_not_mem] at hr ⊢
    exact fun i hi => hr i ((ready_iff hld hsz i).2 hi)
  | succ f ih =>
    intro S w κ s a listed arr hld he hs hQ
    simp only [evAny] at he
    have hone : ∀ j s1, j ∈ readyL cps.length (ops.toList.map afterL) listed → (match cps[j]? with
        | some o =>
          match evCp call o s with
          | some s' => evAny call cps (ops.toList.map afterL) fl f (listed.set j true) s'
          | none => none
        | none => none) = some s1 → s1 = s' → wpOpIn (Fr ro) n P ops Q j (wpAnyIn (Fr ro) n P .any ops Q f (arr.setIfInBounds j true)) a w := by
      rintro j s1 hj hrun rfl
      have hjs : j < ops.size := by
        unfold readyL at hj
        rw [List.mem_filter, List.mem_range] at hj
        rw [hsz]; exact hj.1
      obtain ⟨p, hp1, hp2⟩ := hget j ops[j] (by simp [hjs])
      rw [hp1] at hrun
      simp only at hrun
      split at hrun
      · rename_i s2 hs2
        refine wpOpIn_step (o := ops[j]) (by simp [hjs]) (fun K' hK' => ?_)
        refine cp_sound hcall hp2 hs2 hs (fun a' w' S' κ' hs' st => hK' _ _ ?_)
        exact ih (listed.set j true) _ (hld.set j) hrun hs' (fun a'' w'' S'' κ'' h1 h2 => hQ _ _ _ _ h1 (st.trans h2))
      · cases hrun
    split at he
    · rename_i hr
      cases he
      refine wpAnyIn_done ?_ (hQ _ _ _ _ hs (.refl _ _ _ _)) _
      rw [List.eq_nil_iff_forall_not_mem] at hr ⊢
      exact fun i hi => hr i ((ready_iff hld hsz i).2 hi)
    · rename_i i is hr
      split at he
      · rename_i j hj
        -- an operation that is taken first
        have hjm : j ∈ i :: is := List.mem_of_find?_eq_some hj
        have hjf : fl.contains j = true := by simpa using List.find?_some hj
        rcases hfl with rfl | ⟨rfl, rfl⟩
        · simp at hjf
        · obtain ⟨o, c, ho, hc, hpu, hfree⟩ := flOf_spec hjf
          rw [hc] at he
          simp only at he
          split at he
          · rename_i s2 hs2
            obtain ⟨p, hp1, hp2⟩ := hget j o (by rw [Array.getElem?_toList]; exact ho)
            have : p = c := by rw [hc] at hp1; simpa using hp1.symm
            subst this
            obtain ⟨v, hy, hs'⟩ := cp_pure hp2 hpu hs2 hs
            have hjr : j ∈ Region.ready .any ops arr := (ready_iff hld hsz j).1 (by rw [hr]; exact hjm)
            refine wpAnyIn_take rfl ho hns ?_ (by simpa using hjr) (fun c a w h => absurd h (hQp c _ w)) hy ?_
            · unfold Region.free
              rw [ho]
              simp only [List.all_eq_true, List.mem_range]
              intro k hk
              unfold freeOp at hfree
              simp only [List.all_eq_true, List.mem_range] at hfree
              have := hfree k hk
              simp only [Bool.or_eq_true, beq_iff_eq] at this ⊢
              rcases this with (rfl | h2) | h3
              · exact .inl (.inl rfl)
              · refine .inl (.inr ?_)
                obtain ⟨_, o', ho', hall⟩ := mem_ready.1 hjr
                rw [ho] at ho'; cases ho'
                simp only [afterL, List.contains_eq_mem, List.mem_map, List.mem_filter, decide_eq_true_eq] at h2
                obtain ⟨e, ⟨he1, he2⟩, rfl⟩ := h2
                have := hall e (by simpa using he1) he2
                rw [Array.getD_eq_getD_getElem?] at this ⊢
                cases h' : arr[e.on]? with
                | none => rw [h'] at this; simp at this
                | some b => rw [h'] at this; simpa using this
              · refine .inr ?_
                have hk' : ops[k]? = some ops[k] := by simp [hk]
                rw [hk'] at h3 ⊢
                simp only [Bool.or_eq_true] at h3 ⊢
                rcases h3 with h3 | h3
                · left
                  simp only [afterL, List.contains_eq_mem, List.mem_map, List.mem_filter, decide_eq_true_eq] at h3
                  obtain ⟨e, ⟨he1, he2⟩, h4⟩ := h3
                  rw [← Array.any_toList, List.any_eq_true]
                  exact ⟨e, he1, by simp [he2, h4]⟩
                · exact .inr h3
            · exact ih (listed.set j true) _ (hld.set j) he hs' hQ
          · cases he
      · split at he
        · rename_i r hri
          obtain ⟨hall, hrr⟩ := ite_some he
          subst hrr
          refine wpAnyIn_all (rs := Region.ready .any ops arr) rfl (fun h0 => ?_) (fun j hj => ?_)
          · have : i ∈ Region.ready .any ops arr := (ready_iff hld hsz i).1 (by rw [hr]; simp)
            rw [h0] at this; cases this
          · have hj' := (ready_iff hld hsz j).2 hj
            have hj'' := hj'
            rw [hr] at hj''
            rcases List.mem_cons.1 hj'' with rfl | hj2
            · exact hone _ _ hj' hri rfl
            · have h3 := List.all_eq_true.1 hall j hj2
              split at h3
              · rename_i r' hr'
                exact hone _ _ hj' hr' (sameSt_eq h3)
              · cases h3
        · cases he
end
end Go.Ev

namespace Go.Ev
open Go.RowKit
set_option linter.unusedVariables false
set_option linter.unusedSectionVars false
set_option linter.unusedSimpArgs false

section
variable {P : Program} {B : Nat} {S : Cells} {w : World} {κ : Kap} {h : Heap}

/-- A new object of one block. -/
theorem Inv.push (inv : Inv P B S w κ h) (obj : Obj) (o' : Ob)
    (hO : Sle S w S (w.alloc obj) → Kle κ (upd κ h.length (.blk w.heap.size)) → OI P S (w.alloc obj) (upd κ h.length (.blk w.heap.size)) h.length o') :
    Inv P B S (w.alloc obj) (upd κ h.length (.blk w.heap.size)) (h ++ [o']) ∧ Stp B S w κ S (w.alloc obj) (upd κ h.length (.blk w.heap.size)) :=
  Inv.fresh inv h.length (Nat.le_refl _) obj (.blk w.heap.size) (fun k hk => by rw [noK_new inv] at hk; cases hk) rfl (h ++ [o'])
    (fun i o hi ho => by
      rw [List.getElem?_append] at ho
      split at ho
      · exact ho
      · rename_i hge
        rw [List.getElem?_eq_none (by simp; omega)] at ho
        cases ho)
    (by simp) (by simp) (fun sle kle o ho => by
      simp at ho
      subst ho
      exact hO sle kle)

/-- An object of one block is written. -/
theorem Inv.over (inv : Inv P B S w κ h) {id b : Nat} {o0 o1 : Obj} (h1 : κ id = some (.blk b)) (h2 : w.heap[b]? = some o0) (hn0 : ∀ (w : World), w.heap[b]? = some o0 → ∀ o, w.cell? ⟨b, o, none⟩ = none)
    (hn1 : ∀ (w : World), w.heap[b]? = some o1 → ∀ o, w.cell? ⟨b, o, none⟩ = none) (o' : Ob)
    (hO : Sle S w S (World.withBlock w b o1) → Kle κ (upd κ id (.blk b)) → (World.withBlock w b o1).heap[b]? = some o1 → OI P S (World.withBlock w b o1) (upd κ id (.blk b)) id o') :
    Inv P B S (World.withBlock w b o1) (upd κ id (.blk b)) (h.set id o') ∧ Stp B S w κ S (World.withBlock w b o1) (upd κ id (.blk b)) := by
  have hb := (Array.getElem?_eq_some_iff.1 h2).1
  exact Inv.write inv h1 o1 (.blk b) (.refl _) rfl o' (fun o _ => by
    show (World.withBlock w b _).cell? ⟨b, o, none⟩ = w.cell? ⟨b, o, none⟩
    rw [hn0 w h2, hn1 _ (withBlock_same w b _ hb)]) (fun sle kle => hO sle kle (withBlock_same _ _ _ hb))

theorem cell?_loop {b : Nat} {l : Loop} (w : World) (hb : w.heap[b]? = some (.loop l)) (o : Nat) : w.cell? ⟨b, o, none⟩ = none := by simp [World.cell?, hb]
theorem cell?_defr {b : Nat} {l : Option (List Deferred)} (w : World) (hb : w.heap[b]? = some (.deferred l)) (o : Nat) : w.cell? ⟨b, o, none⟩ = none := by simp [World.cell?, hb]

theorem setObj_loop {b : Nat} {l : Loop} (hb : w.heap[b]? = some (.loop l)) (o : Obj) : (setObj b o).run P w = .ok () (World.withBlock w b o) := by
  simp [setObj, Sem.run, hb, World.withBlock]
theorem setObj_defr {b : Nat} {l : Option (List Deferred)} (hb : w.heap[b]? = some (.deferred l)) (o : Obj) : (setObj b o).run P w = .ok () (World.withBlock w b o) := by
  simp [setObj, Sem.run, hb, World.withBlock]

theorem getLoop_run {b : Nat} {l : Loop} (hb : w.heap[b]? = some (.loop l)) : (Instr.getLoop b).run P w = .ok l w := by
  simp [Instr.getLoop, getObj, Sem.run, hb]

/-- A frame's round, and the loop's number. -/
def RO' (κ : Kap) : Option Nat → Option Nat → Prop
  | none, none => True
  | some l, some b => κ l = some (.blk b)
  | _, _ => False

theorem RO'.mono {κ κ' : Kap} (hk : Kle κ κ') {rnd ro : Option Nat} (h : RO' κ rnd ro) : RO' κ' rnd ro := by
  cases rnd <;> cases ro <;> simp only [RO'] at h ⊢
  obtain ⟨k', hk', le⟩ := hk _ _ h
  cases le
  exact hk'

def exOf : Ex → Exit
  | .normal => .normal
  | .exit i => .exit i
  | .ret => .ret

/-- A loop, so many rounds. -/
theorem wpIn_loop_n {F : Fence} {n : Nat} {Q : Exit → Act → World → Prop} {c : Code} {a : Act} {w : World} (J : Nat → Act → World → Prop) {n0 : Nat} (h0 : J n0 a w)
    (round : ∀ m a w, J m a w → c.wpIn F n P (Exit.then (fun a' w' => ∃ k, k < m ∧ J k a' w') Q) a w) : (Code.loop c).wpIn F n P Q a w := by
  classical
  have least : ∀ {a : Act} {w : World}, (∃ m, J m a w) → ∃ m, J m a w ∧ ∀ k, J k a w → m ≤ k := by
    rintro a w ⟨m, hm⟩
    induction m using Nat.strongRecOn with
    | _ m ih =>
      by_cases hk : ∃ k, k < m ∧ J k a w
      · obtain ⟨k, h1, h2⟩ := hk
        exact ih k h1 h2
      · exact ⟨m, hm, fun k hj => Nat.le_of_not_lt fun hl => hk ⟨k, hl, hj⟩⟩
  refine wpIn_loop (fun a w => ∃ m, J m a w) (fun a w => if h : ∃ m, J m a w then Classical.choose (least h) else 0) ⟨n0, h0⟩ (fun a w hJ => ?_)
  have hm := Classical.choose_spec (least hJ)
  refine wpIn_mono (round _ a w hm.1) (fun e a' w' hq => ?_)
  cases e with
  | normal =>
    obtain ⟨k, hk, hj⟩ := hq
    refine ⟨⟨k, hj⟩, ?_⟩
    have hex : ∃ m, J m a' w' := ⟨k, hj⟩
    rw [dif_pos hex, dif_pos hJ]
    exact Nat.lt_of_le_of_lt ((Classical.choose_spec (least hex)).2 _ hj) hk
  | _ => exact hq

def Post (P : Program) (B : Nat) (S : Cells) (w : World) (κ : Kap) (e : Ex) (s' : St) (Q : Exit → Act → World → Prop) : Prop :=
  ∀ a' w' S' κ', SR P B S' w' κ' s' a' → Stp B S w κ S' w' κ' → Q (exOf e) a' w'

/-- Entering a loop over a function, running, leaving. -/
theorem enter_sound {call : CallF} (hcall : CallS P call) {rnd ro : Option Nat} {f : Operand} {fd : Od} {ps : Array Tmp} {assign body : Code} {asg bod : Cc} (hf : cOd f = some fd) (ha : cCode P assign = some asg) (hb : cCode P body = some bod)
    {s : St} {a : Act} (hs : SR P B S w κ s a) {g : FuncId} {first caps : List V} (hfe : fd.ev s.env = .fn (.func g) first caps)
    {df : Nat} {h1 : Heap} {m1 : List Nat} {e : Ex} {s' : St} (he : evEnter call (.fn (.func g) first caps) s.env ps.toList asg bod df h1 m1 = some (e, s')) {n : Nat} {Q : Exit → Act → World → Prop}
    (hent : ∃ (db : Nat) (mark : List Deferred) (w0 : World) (κ0 : Kap), Inv P B S w0 κ0 h1 ∧ Stp B S w κ S w0 κ0 ∧ κ0 df = some (.blk db) ∧ MK κ0 m1 (mark ++ a.defers) ∧
      ∀ fn, (Instr.enterLoop fn a.tmps ps assign body ro).run P w = .ok (w0.heap.size, mark) (w0.alloc (.loop { state := .ready, pending := none, fn, tmps := a.tmps, params := ps, assign, body, defers := db })))
    (hQ : Post P B S w κ e s' Q) : (Code.rangeFunc f ps assign body).wpIn (Fr ro) n P Q a w := by
  obtain ⟨db, mark, w0, κ0, inv0, st0, hdf, hmk, hen⟩ := hent
  refine wpIn_rangeFunc (fun fn _ => ?_)
  obtain ⟨inv1, st1⟩ := Inv.push inv0 (.loop { state := .ready, pending := none, fn, tmps := a.tmps, params := ps, assign, body, defers := db }) (.loop .ready none s.env ps.toList asg bod df)
    (fun sle kle => by
      obtain ⟨k', hk', le⟩ := kle _ _ hdf
      cases le
      exact ⟨w0.heap.size, db, _, upd_same _ _ _, alloc_last _ _, rfl, trivial, RL.mono (st0.sle.trans sle) (st0.kle.trans kle) _ _ hs.env, rfl, ha, hb, hk', rfl⟩)
  unfold evEnter at he
  split at he
  · cases he
  · rename_i r h2 hc
    have hfv := od_sound hs.env hf
    rw [hfe] at hfv
    have st01 := st0.trans st1
    have hl : (upd κ0 h1.length (.blk w0.heap.size)) h1.length = some (.blk w0.heap.size) := upd_same _ _ _
    obtain ⟨d, nx, d1, d2, d3, d4⟩ := hcall _ _ _ _ _ hc (vs := #[.func (.yield w0.heap.size) #[] #[]]) inv1 (RV.mono st01.sle st01.kle _ _ hfv)
      (by simp only [RL]; exact ⟨⟨_, hl, rfl, rfl, rfl⟩, trivial⟩)
    obtain ⟨g', as, rfl⟩ := d4 (fun l a c e => by cases e)
    refine ⟨w0.heap.size, mark, _, d, _, g', as, _, hen fn, ?_, fun _ _ => trivial, d2, fun h => by simp [Fr, Fence.wide] at h, ?_⟩
    · simp only [resolve, rangeCall]
      simpa [Act.eval] using d1
    refine CallsIn.mono (R := Ends P B S _ _ r h2) (d3 (n - 1)) (fun en w3 hen' => ?_)
    obtain ⟨v, S3, κ3, rfl, inv3, st3, hv⟩ := hen'
    obtain ⟨k', hk', le⟩ := st3.kle _ _ hl
    cases le
    have st013 := st01.trans st3
    have fin : ∀ (l : Loop) (pend : Option Ex), w3.heap[w0.heap.size]? = some (.loop l) → l.state ≠ .busy → PJ pend l.pending → e = pend.getD .normal → s' = { env := s.env, marks := m1, heap := h2.set h1.length .dead } →
        rangePost (Fr ro) n P w0.heap.size Q { a with defers := mark ++ a.defers } (.returned v) w3 := by
      rintro l pend hlo hst hpj rfl rfl
      have hrun : (Instr.endLoop w0.heap.size).run P w3 = .ok l.pending (World.withBlock w3 w0.heap.size (.loop { l with state := .exhausted })) := by
        simp [Instr.endLoop, getLoop_run hlo, hst, setObj_loop hlo]
      obtain ⟨inv4, st4⟩ := Inv.over inv3 (o1 := .loop { l with state := .exhausted }) hk' hlo (fun w hw o => cell?_loop w hw o) (fun w hw o => cell?_loop w hw o) .dead (fun _ _ _ => trivial)
      have st := st013.trans st4
      have hsr : SR P B S3 (World.withBlock w3 w0.heap.size (.loop { l with state := .exhausted })) (upd κ3 h1.length (.blk w0.heap.size)) { env := s.env, marks := m1, heap := h2.set h1.length .dead } { a with defers := mark ++ a.defers } :=
        ⟨inv4, RL.mono st.sle st.kle _ _ hs.env, MK.mono (st1.kle.trans (st3.kle.trans st4.kle)) _ _ hmk⟩
      have hq := hQ _ _ _ _ hsr st
      clear hsr st inv4 st4
      generalize World.withBlock w3 w0.heap.size (.loop { l with state := .exhausted }) = W4 at hrun hq
      refine ⟨_, W4, hrun, ?_⟩
      cases pend with
      | none =>
        cases hp : l.pending with
        | none => simpa [exOf] using hq
        | some c => rw [hp] at hpj; exact hpj.elim
      | some x =>
        cases hp : l.pending with
        | none => rw [hp] at hpj; cases x <;> exact hpj.elim
        | some c =>
          rw [hp] at hpj
          cases x with
          | normal => cases c <;> exact hpj.elim
          | exit i => cases c <;> first | exact hpj.elim | (simp only [PJ] at hpj; subst hpj; exact wpIn_exit hq)
          | ret => cases c <;> first | exact hpj.elim | exact wpIn_ret hq
    split at he
    · cases he
    · rename_i st' pend' _ _ _ _ _ hnb hob
      simp only [Option.some.injEq, Prod.mk.injEq] at he
      obtain ⟨b, db', l, o1, o2, o3, o4, _⟩ := inv3.obs _ _ hob
      rw [hk'] at o1; cases o1
      refine fin l pend' o2 (fun hbz => ?_) o4 he.1.symm he.2.symm
      exact hnb (o3.symm.trans hbz)
    · cases he

theorem Post.trans {e : Ex} {s' : St} {Q : Exit → Act → World → Prop} (h : Post P B S w κ e s' Q) {S1 : Cells} {w1 : World} {κ1 : Kap} (st : Stp B S w κ S1 w1 κ1) : Post P B S1 w1 κ1 e s' Q :=
  fun a' w' S' κ' h1 h2 => h a' w' S' κ' h1 (st.trans h2)

/-- Code. -/
theorem code_sound (hP : P.follows .mixedOrders = true) {call : CallF} (hcall : CallS P call) (lf : Nat) : ∀ (c : Code) (cc : Cc), cCode P c = some cc →
    ∀ (rnd ro : Option Nat) (s : St) (e : Ex) (s' : St), evCode call lf rnd cc s = some (e, s') →
    ∀ {S : Cells} {w : World} {κ : Kap} {a : Act} (n : Nat), SR P B S w κ s a → RO' κ rnd ro → ∀ (Q : Exit → Act → World → Prop), Post P B S w κ e s' Q → c.wpIn (Fr ro) n P Q a w := by
  intro c
  induction c with
  | skip =>
    intro cc hc rnd ro s e s' he S w κ a n hs hro Q hQ
    simp only [cCode, Option.some.injEq] at hc
    subst hc
    simp only [evCode, Option.some.injEq, Prod.mk.injEq] at he
    obtain ⟨rfl, rfl⟩ := he
    exact wpIn_skip (hQ _ _ _ _ hs (.refl _ _ _ _))
  | region id ops draw =>
    intro cc hc rnd ro s e s' he S w κ a n hs hro Q hQ
    cases draw with
    | false =>
      simp only [cCode, Option.map_eq_some_iff] at hc
      obtain ⟨cps, hm, rfl⟩ := hc
      simp only [evCode, Option.map_eq_some_iff, Prod.mk.injEq] at he
      obtain ⟨s1, he, rfl, rfl⟩ := he
      have := ops_sound hcall hm (ro := ro) (n := n) (Q := Q) cps.length (Nat.le_refl _) (by simpa using he) hs hQ
      simp only [Nat.sub_self, List.drop_zero] at this
      exact wpIn_region this
    | true =>
      simp only [cCode, Option.map_eq_some_iff] at hc
      obtain ⟨cps, hm, rfl⟩ := hc
      simp only [evCode, Option.map_eq_some_iff, Prod.mk.injEq] at he
      obtain ⟨s1, he, rfl, rfl⟩ := he
      obtain ⟨hl, _⟩ := mapM_get hm
      have hsz : ops.size = cps.length := by simpa using hl
      obtain ⟨inv1, st1⟩ := hs.inv.drawn
      have hs1 : SR P B S w.drew κ s a := ⟨inv1, RL.mono st1.sle st1.kle _ _ hs.env, hs.mks⟩
      refine wpIn_mono (Q := fun e a' w' => match e with | .normal => Q .normal a' w' | _ => False) (wpIn_region_any hP ?_) (fun e a' w' h => by cases e <;> first | exact h | exact h.elim)
      rw [hsz]
      refine any_sound hcall hm (fl := if rnd.isNone = true then flOf ops cps else []) ?_ (fun c a w h => h) cps.length (List.replicate cps.length false) _ (by simp [LD]) he hs1 (fun a' w' S' κ' h1 h2 => hQ _ _ _ _ h1 (st1.trans h2))
      cases rnd with
      | none => cases ro with
        | none => exact .inr ⟨rfl, rfl⟩
        | some b => exact hro.elim
      | some l => exact .inl rfl
  | seq x y ihx ihy =>
    intro cc hc rnd ro s e s' he S w κ a n hs hro Q hQ
    simp only [cCode] at hc
    split at hc
    · rename_i cx cy hx hy
      cases hc
      simp only [evCode] at he
      split at he
      · rename_i s1 h1
        refine wpIn_seq (ihx _ hx rnd ro s .normal s1 h1 n hs hro _ (fun a' w' S' κ' h2 st => ?_))
        exact ihy _ hy rnd ro s1 e s' he n h2 (RO'.mono st.kle hro) Q (hQ.trans st)
      · rename_i hne
        refine wpIn_seq (ihx _ hx rnd ro s e s' he n hs hro _ (fun a' w' S' κ' h2 st => ?_))
        have hq := hQ a' w' S' κ' h2 st
        cases e with
        | normal => exact absurd he (hne s')
        | exit i => exact hq
        | ret => exact hq
    · cases hc
  | cond c x y ihx ihy =>
    intro cc hc rnd ro s e s' he S w κ a n hs hro Q hQ
    simp only [cCode] at hc
    split at hc
    · rename_i cd cx cy hcd hx hy
      cases hc
      simp only [evCode] at he
      split at he
      · rename_i t ht
        have hv := od_sound hs.env hcd
        rw [ht] at hv
        simp only [RV] at hv
        cases t with
        | true =>
          simp only [if_true] at he
          exact wpIn_cond_true hv (ihx _ hx rnd ro s e s' he n hs hro Q hQ)
        | false =>
          simp only [Bool.false_eq_true, if_false] at he
          exact wpIn_cond_false hv (ihy _ hy rnd ro s e s' he n hs hro Q hQ)
      · cases he
    · cases hc
  | block id x ih =>
    intro cc hc rnd ro s e s' he S w κ a n hs hro Q hQ
    simp only [cCode, Option.map_eq_some_iff] at hc
    obtain ⟨cx, hx, rfl⟩ := hc
    simp only [evCode] at he
    split at he
    · rename_i i s1 h1
      simp only [Option.some.injEq, Prod.mk.injEq] at he
      obtain ⟨rfl, rfl⟩ := he
      refine wpIn_block (ih _ hx rnd ro s _ s1 h1 n hs hro _ (fun a' w' S' κ' h2 st => ?_))
      have hq := hQ a' w' S' κ' h2 st
      show (if i = id then Q .normal a' w' else Q (.exit i) a' w')
      split
      · rename_i hi; simpa [exOf, hi] using hq
      · rename_i hi; simpa [exOf, hi] using hq
    · rename_i hne
      refine wpIn_block (ih _ hx rnd ro s _ s' he n hs hro _ (fun a' w' S' κ' h2 st => ?_))
      have hq := hQ a' w' S' κ' h2 st
      cases e with
      | normal => exact hq
      | exit i => exact absurd he (hne i s')
      | ret => exact hq
  | loop x ih =>
    intro cc hc rnd ro s e s' he S w κ a n hs hro Q hQ
    simp only [cCode, Option.map_eq_some_iff] at hc
    obtain ⟨cx, hx, rfl⟩ := hc
    simp only [evCode] at he
    refine wpIn_loop_n (fun m a1 w1 => ∃ s1 S1 κ1, rounds (evCode call lf rnd cx) m s1 = some (e, s') ∧ SR P B S1 w1 κ1 s1 a1 ∧ Stp B S w κ S1 w1 κ1) (n0 := lf) ⟨s, S, κ, he, hs, .refl _ _ _ _⟩ (fun m a1 w1 hJ => ?_)
    obtain ⟨s1, S1, κ1, hr, hs1, st1⟩ := hJ
    cases m with
    | zero => simp [rounds] at hr
    | succ m =>
      simp only [rounds] at hr
      split at hr
      · rename_i s2 h2
        refine ih _ hx rnd ro s1 .normal s2 h2 n hs1 (RO'.mono st1.kle hro) _ (fun a' w' S' κ' h3 st => ?_)
        exact ⟨m, by omega, s2, S', κ', hr, h3, st1.trans st⟩
      · rename_i hne
        refine ih _ hx rnd ro s1 e s' hr n hs1 (RO'.mono st1.kle hro) _ (fun a' w' S' κ' h3 st => ?_)
        have hq := hQ a' w' S' κ' h3 (st1.trans st)
        cases e with
        | normal => exact absurd hr (hne s')
        | exit i => exact hq
        | ret => exact hq
  | rangeFunc f ps x y ihx ihy =>
    intro cc hc rnd ro s e s' he S w κ a n hs hro Q hQ
    simp only [cCode] at hc
    split at hc
    · rename_i fd asg bod hf ha hb
      cases hc
      simp only [evCode] at he
      split at he
      · rename_i g first caps hfe
        cases rnd with
        | none =>
          cases ro with
          | some b => exact hro.elim
          | none =>
            simp only at he
            obtain ⟨inv1, st1⟩ := Inv.push hs.inv (.deferred (some [])) (.defr false) (fun sle kle => ⟨w.heap.size, upd_same _ _ _, alloc_last _ _⟩)
            refine enter_sound hcall (rnd := none) hf ha hb hs hfe he ⟨w.heap.size, [{ target := .collected w.heap.size, args := #[] }], w.alloc (.deferred (some [])), upd κ s.heap.length (.blk w.heap.size), inv1, st1, upd_same _ _ _, ?_, fun fn => ?_⟩ hQ
            · exact ⟨⟨w.heap.size, upd_same _ _ _, rfl⟩, MK.mono st1.kle _ _ hs.mks⟩
            · simp [Instr.enterLoop]
        | some l =>
          simp only at he
          split at he
          · rename_i df hob
            cases ro with
            | none => exact hro.elim
            | some b =>
              obtain ⟨b', db, lr, o1, o2, _, _, _, _, _, _, o8, o9⟩ := hs.inv.obs _ _ hob
              simp only [RO'] at hro
              rw [hro] at o1; cases o1
              refine enter_sound hcall (rnd := some l) hf ha hb hs hfe he ⟨db, [], w, κ, hs.inv, .refl _ _ _ _, o8, hs.mks, fun fn => ?_⟩ hQ
              simp [Instr.enterLoop, getLoop_run o2, o9]
          · cases he
      · cases he
    · cases hc
  | exit id =>
    intro cc hc rnd ro s e s' he S w κ a n hs hro Q hQ
    simp only [cCode, Option.some.injEq] at hc
    subst hc
    simp only [evCode, Option.some.injEq, Prod.mk.injEq] at he
    obtain ⟨rfl, rfl⟩ := he
    exact wpIn_exit (hQ _ _ _ _ hs (.refl _ _ _ _))
  | ret =>
    intro cc hc rnd ro s e s' he S w κ a n hs hro Q hQ
    simp only [cCode, Option.some.injEq] at hc
    subst hc
    simp only [evCode, Option.some.injEq, Prod.mk.injEq] at he
    obtain ⟨rfl, rfl⟩ := he
    exact wpIn_ret (hQ _ _ _ _ hs (.refl _ _ _ _))
  | scope x _ => intro cc hc; simp [cCode] at hc
  | label l => intro cc hc; simp [cCode] at hc
  | goto l => intro cc hc; simp [cCode] at hc
  | refuse x => intro cc hc; simp [cCode] at hc
end
end Go.Ev

namespace Go.Ev
open Go.RowKit
set_option linter.unusedVariables false
set_option linter.unusedSectionVars false
set_option linter.unusedSimpArgs false

section
variable {P : Program} {B : Nat} {S : Cells} {w : World} {κ : Kap} {h : Heap}

def F2 {α γ : Type} (R : α → γ → Prop) : List α → List γ → Prop
  | [], [] => True
  | a :: as, c :: cs => R a c ∧ F2 R as cs
  | _, _ => False
def F3 {α β γ : Type} (R : α → β → γ → Prop) : List α → List β → List γ → Prop
  | [], [], [] => True
  | a :: as, b :: bs, c :: cs => R a b c ∧ F3 R as bs cs
  | _, _, _ => False

theorem F2.imp {α γ : Type} {R R' : α → γ → Prop} (hi : ∀ a c, R a c → R' a c) : ∀ {as : List α} {cs : List γ}, F2 R as cs → F2 R' as cs
  | [], [], _ => trivial
  | [], _ :: _, h => h.elim
  | _ :: _, [], h => h.elim
  | _ :: _, _ :: _, h => ⟨hi _ _ h.1, F2.imp hi h.2⟩
theorem F3.imp {α β γ : Type} {R R' : α → β → γ → Prop} (hi : ∀ a b c, R a b c → R' a b c) : ∀ {as : List α} {bs : List β} {cs : List γ}, F3 R as bs cs → F3 R' as bs cs
  | [], [], [], _ => trivial
  | _ :: _, _ :: _, _ :: _, h => ⟨hi _ _ _ h.1, F3.imp hi h.2⟩
  | [], [], _ :: _, h => h.elim
  | [], _ :: _, _, h => h.elim
  | _ :: _, [], _, h => h.elim
  | _ :: _, _ :: _, [], h => h.elim

theorem F3.get {α β γ : Type} {R : α → β → γ → Prop} : ∀ {as : List α} {bs : List β} {cs : List γ}, F3 R as bs cs →
    as.length = bs.length ∧ as.length = cs.length ∧ ∀ (i : Nat) (b : β), bs[i]? = some b → ∃ a c, as[i]? = some a ∧ cs[i]? = some c ∧ R a b c
  | [], [], [], _ => ⟨rfl, rfl, fun i b hb => by simp at hb⟩
  | a :: as, b :: bs, c :: cs, h => by
    obtain ⟨h1, h2, h3⟩ := F3.get h.2
    refine ⟨by simp [h1], by simp [h2], fun i b' hb => ?_⟩
    cases i with
    | zero => simp at hb; subst hb; exact ⟨a, c, rfl, rfl, h.1⟩
    | succ i => simpa using h3 i b' (by simpa using hb)
  | [], [], _ :: _, h => h.elim
  | [], _ :: _, _, h => h.elim
  | _ :: _, [], _, h => h.elim
  | _ :: _, _ :: _, [], h => h.elim

theorem F2_RL : ∀ {xs : List V} {us : List Value}, RL S w κ xs us → F2 (RV S w κ) xs us
  | [], [], _ => trivial
  | [], _ :: _, h => by simp [RL] at h
  | _ :: _, [], h => by simp [RL] at h
  | _ :: _, _ :: _, h => by simp only [RL] at h; exact ⟨h.1, F2_RL h.2⟩

theorem F3_RL {R : V → V → Value → Prop} (hi : ∀ a b c, R a b c → RV S w noK b c) : ∀ {as bs : List V} {cs : List Value}, F3 R as bs cs → RL S w noK bs cs
  | [], [], [], _ => by simp [RL]
  | _ :: _, _ :: _, _ :: _, h => by simp only [RL]; exact ⟨hi _ _ _ h.1, F3_RL hi h.2⟩
  | [], [], _ :: _, h => h.elim
  | [], _ :: _, _, h => h.elim
  | _ :: _, [], _, h => h.elim
  | _ :: _, _ :: _, [], h => h.elim

/-- A list, the heap handed on. -/
theorem mapH_ind {α β γ : Type} (f : Heap → α → Option (β × Heap)) (R0 : Cells → α → γ → Prop) (R1 : Cells → α → β → γ → Prop)
    (m0 : ∀ S S' x u, Sle S w S' w → R0 S x u → R0 S' x u) (m1 : ∀ S S' x y u, Sle S w S' w → R1 S x y u → R1 S' x y u)
    (step : ∀ S h x y h' u, f h x = some (y, h') → Inv P B S w κ h → R0 S x u → ∃ S', Inv P B S' w κ h' ∧ Stp B S w κ S' w κ ∧ R1 S' x y u) :
    ∀ (l : List α) (us : List γ) (S : Cells) (h : Heap) (r : List β) (h' : Heap), mapH f h l = some (r, h') → Inv P B S w κ h → F2 (R0 S) l us →
      ∃ S', Inv P B S' w κ h' ∧ Stp B S w κ S' w κ ∧ F3 (R1 S') l r us
  | [], us, S, h, r, h', hh, inv, hr => by
    simp only [mapH, Option.some.injEq, Prod.mk.injEq] at hh
    obtain ⟨rfl, rfl⟩ := hh
    cases us with
    | nil => exact ⟨S, inv, .refl _ _ _ _, trivial⟩
    | cons u us => exact hr.elim
  | x :: l, us, S, h, r, h', hh, inv, hr => by
    cases us with
    | nil => exact hr.elim
    | cons u us =>
      simp only [mapH] at hh
      split at hh
      · cases hh
      · rename_i y h1 e1
        split at hh
        · cases hh
        · rename_i r' h2 e2
          simp only [Option.some.injEq, Prod.mk.injEq] at hh
          obtain ⟨rfl, rfl⟩ := hh
          obtain ⟨S1, inv1, st1, q1⟩ := step S h x y h1 u e1 inv hr.1
          obtain ⟨S2, inv2, st2, q2⟩ := mapH_ind f R0 R1 m0 m1 step l us S1 h1 r' h2 e2 inv1 (F2.imp (fun a c => m0 _ _ _ _ st1.sle) hr.2)
          exact ⟨S2, inv2, st1.trans st2, m1 _ _ _ _ _ st2.sle q1, q2⟩

/-- The cells of a block, from one on, so many. -/
def Range (b o n : Nat) : Cells := fun b' o' => b' = b ∧ o ≤ o' ∧ o' < o + n

/-- A row's elements stand still from now on. -/
theorem freeze_row (inv : Inv P B S w κ h) {id sz : Nat} {xs : List (List V)} {ep : Nat} {wr : Bool} (hi : h[id]? = some (.row sz xs ep wr)) {b st cp : Nat} (hk : κ id = some (.row ep b st cp sz))
    {off len : Nat} (h1 : st ≤ off) (h2 : off + len ≤ xs.length) :
    Inv P B (fun b' o' => S b' o' ∨ Range b ((off - st) * sz) (len * sz) b' o') w κ (h.set id (.row sz xs ep false)) ∧ Stp B S w κ (fun b' o' => S b' o' ∨ Range b ((off - st) * sz) (len * sz) b' o') w κ := by
  have sle : Sle S w (fun b' o' => S b' o' ∨ Range b ((off - st) * sz) (len * sz) b' o') w := ⟨fun _ _ x => .inl x, fun _ _ _ => rfl⟩
  obtain ⟨hd1, hd2, hd3⟩ := inv.dom _ _ hk
  refine ⟨⟨fun i o ho => ?_, inv.dis, fun i a ha => by rw [List.length_set]; exact inv.dom i a ha, fun b' o' x => ?_, inv.bw⟩, .refl _ _, sle, .refl _, fun b' o' x => ?_⟩
  · by_cases e : i = id
    · subst e
      rw [List.getElem?_set_self (by omega)] at ho
      cases ho
      obtain ⟨b1, st1, cp1, c, el, fr, g1, g2, g3, g4, g5, g6, g7, g8, g9, g10, g11⟩ := inv.obs _ _ hi
      rw [hk] at g1; cases g1
      refine ⟨b, st, cp, c, el, fr, hk, g2, g3, g4, g5, g6, g7, g8, fun i e hi he => RL.mono sle (.refl _) _ _ (g9 i e hi he), fun o ho x => ?_, fun hw => by cases hw⟩
      rcases x with x | ⟨_, x1, x2⟩
      · exact g10 o ho x
      · have : (off - st) * sz + len * sz ≤ (xs.length - st) * sz := by
          rw [← Nat.add_mul]; exact Nat.mul_le_mul_right _ (by omega)
        omega
    · rw [List.getElem?_set_ne (Ne.symm e)] at ho
      have oi := inv.obs i o ho
      -- another object: another block
      have hne : ∀ k, κ i = some k → k.block ≠ b := fun k ha q => e (inv.dis _ _ _ _ ha hk q)
      cases o with
      | dead => trivial
      | cells cs =>
        obtain ⟨b1, c, el, fr, g1, g2, g3, g4, g5, g6⟩ := oi
        exact ⟨b1, c, el, fr, g1, g2, g3, RL.mono sle (.refl _) _ _ g4, g5, fun o x => x.elim (g6 o) (fun r => hne _ g1 r.1)⟩
      | row sz1 xs1 ep1 wr1 =>
        obtain ⟨b1, st1, cp1, c, el, fr, g1, g2, g3, g4, g5, g6, g7, g8, g9, g10, g11⟩ := oi
        exact ⟨b1, st1, cp1, c, el, fr, g1, g2, g3, g4, g5, g6, g7, g8, fun i e hi he => RL.mono sle (.refl _) _ _ (g9 i e hi he),
          fun o ho x => x.elim (g10 o ho) (fun r => hne _ g1 r.1), fun hw o x => x.elim (g11 hw o) (fun r => hne _ g1 r.1)⟩
      | map es clock =>
        obtain ⟨b1, es', g1, g2, g3⟩ := oi
        exact ⟨b1, es', g1, g2, ME.mono sle (.refl _) _ _ g3⟩
      | loop st pend env ps asg body df =>
        obtain ⟨b1, db, l, g1, g2, g3, g4, g5, g6⟩ := oi
        exact ⟨b1, db, l, g1, g2, g3, g4, RL.mono sle (.refl _) _ _ g5, g6⟩
      | defr t => exact oi
  · rcases x with x | ⟨rfl, _⟩
    · exact inv.sb _ _ x
    · exact hd3
  · rcases x with x | ⟨rfl, _⟩
    · exact .inl x
    · exact .inr hd2

theorem RC_of : ∀ {xs : List V} {b o : Nat}, (∀ (j : Nat) (x : V), xs[j]? = some x → S b (o + j) ∧ ∃ c, w.cell? ⟨b, o + j, none⟩ = some c ∧ x.isCell = true ∧ RV S w noK x c) → RC S w xs b o
  | [], b, o, _ => trivial
  | x :: xs, b, o, hh => by
    simp only [RC]
    obtain ⟨h1, c, h2⟩ := hh 0 x rfl
    refine ⟨by simpa using h1, ⟨c, by simpa using h2⟩, RC_of (fun j y hy => ?_)⟩
    obtain ⟨h3, c', h4⟩ := hh (j + 1) y (by simpa using hy)
    rw [Nat.add_comm j 1, ← Nat.add_assoc] at h3 h4
    exact ⟨h3, c', h4⟩

theorem RE_of {sz : Nat} : ∀ {xs : List (List V)} {b o : Nat}, (∀ (i : Nat) (e : List V), xs[i]? = some e → e.length = sz ∧ RC S w e b (o + i * sz)) → RE S w xs b o sz
  | [], b, o, _ => trivial
  | x :: xs, b, o, hh => by
    simp only [RE]
    obtain ⟨h1, h2⟩ := hh 0 x rfl
    refine ⟨h1, by simpa using h2, RE_of (fun i e he => ?_)⟩
    obtain ⟨h3, h4⟩ := hh (i + 1) e (by simpa using he)
    refine ⟨h3, ?_⟩
    rwa [Nat.add_mul, Nat.one_mul, Nat.add_comm (i * sz) sz, ← Nat.add_assoc] at h4

/-- What freezing keeps. -/
def FV (w : World) (S : Cells) (x y : V) (u : Value) : Prop := RV S w noK y u ∧ (x.isCell = true → y.isCell = true)

theorem fz_sound : ∀ (d : Nat) (S : Cells) (h : Heap) (x y : V) (h' : Heap) (u : Value), fz d h x = some (y, h') → Inv P B S w κ h → RV S w κ x u → ∃ S', Inv P B S' w κ h' ∧ Stp B S w κ S' w κ ∧ FV w S' x y u := by
  intro d
  induction d with
  | zero => intro S h x y h' u hh; simp [fz] at hh
  | succ d ih =>
    intro S h x y h' u hh inv hx
    have hlist : ∀ (xs : List V) (us : List Value) (S : Cells) (h : Heap) (ys : List V) (h' : Heap), mapH (fz d) h xs = some (ys, h') → Inv P B S w κ h → RL S w κ xs us →
        ∃ S', Inv P B S' w κ h' ∧ Stp B S w κ S' w κ ∧ F3 (FV w S') xs ys us := fun xs us S h ys h' hm inv hr =>
      mapH_ind (fz d) (fun S => RV S w κ) (FV w) (fun S S' x u sle hr => RV.mono sle (.refl _) _ _ hr) (fun S S' x y u sle hr => ⟨RV.mono sle (.refl _) _ _ hr.1, hr.2⟩)
        (fun S h x y h' u hf inv hr => ih S h x y h' u hf inv hr) xs us S h ys h' hm inv (F2_RL hr)
    have same : y = x → h' = h → RV S w noK x u → ∃ S', Inv P B S' w κ h' ∧ Stp B S w κ S' w κ ∧ FV w S' x y u := fun e1 e2 hv => by
      subst e1 e2
      exact ⟨S, inv, .refl _ _ _ _, hv, id⟩
    cases x with
    | undef => simp [fz] at hh
    | ptr => simp [fz] at hh
    | eptr => simp [fz] at hh
    | map => simp [fz] at hh
    | bool b => simp only [fz, Option.some.injEq, Prod.mk.injEq] at hh; exact same hh.1.symm hh.2.symm hx
    | int k n => simp only [fz, Option.some.injEq, Prod.mk.injEq] at hh; exact same hh.1.symm hh.2.symm hx
    | str s => simp only [fz, Option.some.injEq, Prod.mk.injEq] at hh; exact same hh.1.symm hh.2.symm hx
    | nilp => simp only [fz, Option.some.injEq, Prod.mk.injEq] at hh; exact same hh.1.symm hh.2.symm hx
    | iptr cs => simp only [fz, Option.some.injEq, Prod.mk.injEq] at hh; exact same hh.1.symm hh.2.symm (by simpa only [RV] using hx)
    | arr cs => simp only [fz, Option.some.injEq, Prod.mk.injEq] at hh; exact same hh.1.symm hh.2.symm (by simpa only [RV] using hx)
    | nilm => simp only [fz, Option.some.injEq, Prod.mk.injEq] at hh; exact same hh.1.symm hh.2.symm hx
    | nilf => simp only [fz, Option.some.injEq, Prod.mk.injEq] at hh; exact same hh.1.symm hh.2.symm hx
    | nili => simp only [fz, Option.some.injEq, Prod.mk.injEq] at hh; exact same hh.1.symm hh.2.symm hx
    | nils =>
      simp only [fz, Option.some.injEq, Prod.mk.injEq] at hh
      obtain ⟨rfl, rfl⟩ := hh
      simp only [RV] at hx
      subst hx
      exact ⟨S, inv, .refl _ _ _ _, by simp only [RV]; exact ⟨none, 0, rfl, Nat.le_refl _, .inl trivial⟩, fun _ => rfl⟩
    | agg cs =>
      simp only [fz, Option.map_eq_some_iff, Prod.mk.injEq] at hh
      obtain ⟨⟨ys, h1⟩, hm, rfl, rfl⟩ := hh
      simp only [RV] at hx
      obtain ⟨a, rfl, hr⟩ := hx
      obtain ⟨S', inv', st', q⟩ := hlist _ _ S h ys h1 hm inv hr
      exact ⟨S', inv', st', by simp only [RV]; exact ⟨a, rfl, F3_RL (fun a b c h => h.1) q⟩, fun h => by simp [V.isCell] at h⟩
    | tup cs =>
      simp only [fz, Option.map_eq_some_iff, Prod.mk.injEq] at hh
      obtain ⟨⟨ys, h1⟩, hm, rfl, rfl⟩ := hh
      simp only [RV] at hx
      obtain ⟨a, rfl, hr⟩ := hx
      obtain ⟨S', inv', st', q⟩ := hlist _ _ S h ys h1 hm inv hr
      exact ⟨S', inv', st', by simp only [RV]; exact ⟨a, rfl, F3_RL (fun a b c h => h.1) q⟩, fun h => by simp [V.isCell] at h⟩
    | ifc t v =>
      simp only [fz, Option.map_eq_some_iff, Prod.mk.injEq] at hh
      obtain ⟨⟨y1, h1⟩, hm, rfl, rfl⟩ := hh
      simp only [RV] at hx
      obtain ⟨a, rfl, hr⟩ := hx
      obtain ⟨S', inv', st', q⟩ := ih S h v y1 h1 a hm inv hr
      exact ⟨S', inv', st', by simp only [RV]; exact ⟨a, rfl, q.1⟩, fun _ => rfl⟩
    | fn f fi ca =>
      simp only [fz] at hh
      obtain ⟨hy, hh⟩ := ite_none' hh
      split at hh
      · cases hh
      · rename_i fi' h1 e1
        simp only [Option.map_eq_some_iff, Prod.mk.injEq] at hh
        obtain ⟨⟨ca', h2⟩, e2, rfl, rfl⟩ := hh
        have : ∃ a' c', u = .func f a' c' ∧ RL S w κ fi a'.toList ∧ RL S w κ ca c'.toList := by
          cases f
          case yield => simp [isYield] at hy
          all_goals (simp only [RV] at hx; exact hx)
        obtain ⟨a', c', rfl, hr1, hr2⟩ := this
        obtain ⟨S1, inv1, st1, q1⟩ := hlist _ _ S h fi' h1 e1 inv hr1
        obtain ⟨S2, inv2, st2, q2⟩ := hlist _ _ S1 h1 ca' h2 e2 inv1 (RL.mono st1.sle (.refl _) _ _ hr2)
        have k1 := RL.mono st2.sle (.refl _) _ _ (F3_RL (fun a b c h => h.1) q1)
        have k2 := F3_RL (fun a b c h => h.1) q2
        refine ⟨S2, inv2, st1.trans st2, ⟨?_, fun _ => rfl⟩⟩
        cases f
        case yield => simp [isYield] at hy
        all_goals (simp only [RV]; exact ⟨a', c', rfl, k1, k2⟩)
    | sl id ep off len =>
      simp only [fz] at hh
      split at hh
      · rename_i z xs cur wr hob
        obtain ⟨⟨he, hle⟩, hh⟩ := ite_some' hh
        simp only [Option.map_eq_some_iff, Prod.mk.injEq] at hh
        obtain ⟨⟨ys, h1⟩, hm, rfl, rfl⟩ := hh
        subst he
        simp only [RV] at hx
        obtain ⟨e, b, st, cp, sz, a, c, k1, k2, rfl, k3, k4⟩ := hx
        obtain ⟨b1, st1, cp1, cc, el, fr, g1, g2, g3, g4, g5, g6, g7, g8, g9, g10, g11⟩ := inv.obs _ _ hob
        rw [k1] at g1; cases g1
        obtain ⟨j1, j2, j3, j4⟩ := k4 rfl
        obtain ⟨inv1, stp1⟩ := freeze_row inv hob k1 (off := off) (len := len) j1 hle
        -- the elements
        have hF2 : F2 (fun (e : List V) (us : List Value) => RL (fun b' o' => S b' o' ∨ Range b ((off - st) * z) (len * z) b' o') w κ e us) ((xs.drop off).take len) ((List.range len).map fun i => (cc.toList.drop ((off + i - st) * z)).take z) := by
          have gen : ∀ (n o : Nat), st ≤ o → o + n ≤ xs.length → F2 (fun (e : List V) (us : List Value) => RL (fun b' o' => S b' o' ∨ Range b ((off - st) * z) (len * z) b' o') w κ e us) ((xs.drop o).take n) ((List.range n).map fun i => (cc.toList.drop ((o + i - st) * z)).take z) := by
            intro n
            induction n with
            | zero => intro o _ _; simp [F2]
            | succ n ihn =>
              intro o ho hn
              have hlt : o < xs.length := by omega
              rw [List.drop_eq_getElem_cons hlt, List.take_succ_cons, List.range_succ_eq_map, List.map_cons, List.map_map]
              refine ⟨?_, ?_⟩
              · have := RL.mono stp1.sle (.refl _) _ _ (g9 o xs[o] ho (by simp [hlt]))
                simpa using this
              · have := ihn (o + 1) (by omega) (by omega)
                have e1 : (fun i => List.take z (List.drop ((o + 1 + i - st) * z) cc.toList)) = (fun i => List.take z (List.drop ((o + i - st) * z) cc.toList)) ∘ Nat.succ := by
                  funext i; simp [Nat.add_assoc, Nat.add_comm 1 i]
                rw [e1] at this
                exact this
          exact gen len off j1 hle
        obtain ⟨S2, inv2, stp2, q⟩ := mapH_ind (mapH (fz d)) (fun S e us => RL S w κ e us) (fun S e e' us => F3 (FV w S) e e' us)
          (fun S S' x u sle hr => RL.mono sle (.refl _) _ _ hr) (fun S S' x y u sle hr => F3.imp (fun a b c hr => ⟨RV.mono sle (.refl _) _ _ hr.1, hr.2⟩) hr)
          (fun S h x y h' u hf inv hr => hlist x u S h y h' hf inv hr) _ _ _ _ ys h1 hm inv1 hF2
        obtain ⟨q1, q2, q3⟩ := F3.get q
        have hlen : ys.length = len := by rw [← q1]; simp; omega
        refine ⟨S2, inv2, stp1.trans stp2, ⟨?_, fun _ => rfl⟩⟩
        simp only [RV]
        refine ⟨some a, c, by rw [hlen], by omega, ?_⟩
        by_cases h0 : len = 0
        · left; exact List.eq_nil_of_length_eq_zero (by omega)
        · right
          have ha : a = ⟨b, (off - st) * z, none⟩ := j4.resolve_left (by omega)
          refine ⟨b, (off - st) * z, z, by rw [ha], RE_of (fun i e' he' => ?_)⟩
          obtain ⟨e, us, r1, r2, r3⟩ := q3 i e' he'
          have hi : i < len := by
            have := (List.getElem?_eq_some_iff.1 he').1
            omega
          have hex : xs[off + i]? = some e := by
            rw [List.getElem?_take_of_lt hi, List.getElem?_drop] at r1
            exact r1
          obtain ⟨t1, t2⟩ := g8 e (List.mem_of_getElem? hex)
          have hus : us = (cc.toList.drop ((off + i - st) * z)).take z := by
            rw [List.getElem?_map, List.getElem?_range hi] at r2
            simpa using r2.symm
          obtain ⟨s1, s2, s3⟩ := F3.get r3
          refine ⟨by rw [← s1]; exact t1, RC_of (fun j y hy => ?_)⟩
          obtain ⟨x0, u0, p1, p2, p3⟩ := s3 j y hy
          have hj : j < z := by
            have := (List.getElem?_eq_some_iff.1 hy).1
            omega
          have hoff : (off - st) * z + i * z + j = (off + i - st) * z + j := by
            rw [← Nat.add_mul]; congr 2; omega
          refine ⟨stp2.sle.1 _ _ (.inr ⟨rfl, by omega, ?_⟩), u0, ?_, p3.2 ?_, p3.1⟩
          · have : i * z + z ≤ len * z := by
              rw [← Nat.succ_mul]; exact Nat.mul_le_mul_right _ hi
            omega
          · rw [cell?_of w b _ g2, hoff]
            rw [hus, List.getElem?_take_of_lt hj, List.getElem?_drop] at p2
            rw [← Array.getElem?_toList]; exact p2
          · exact List.all_eq_true.1 t2 x0 (List.mem_of_getElem? p1)
      · cases hh

theorem fzs_sound {d : Nat} {xs : List V} {us : List Value} {h : Heap} {ys : List V} {h' : Heap} (hm : mapH (fz d) h xs = some (ys, h')) (inv : Inv P B S w κ h) (hr : RL S w κ xs us) :
    ∃ S', Inv P B S' w κ h' ∧ Stp B S w κ S' w κ ∧ RL S' w noK ys us := by
  obtain ⟨S', a, b, c⟩ := mapH_ind (fz d) (fun S => RV S w κ) (FV w) (fun S S' x u sle hr => RV.mono sle (.refl _) _ _ hr) (fun S S' x y u sle hr => ⟨RV.mono sle (.refl _) _ _ hr.1, hr.2⟩)
    (fun S h x y h' u hf inv hr => fz_sound d S h x y h' u hf inv hr) xs us S h ys h' hm inv (F2_RL hr)
  exact ⟨S', a, b, F3_RL (fun a b c h => h.1) c⟩
end
end Go.Ev

namespace Go.Ev
open Go.RowKit
set_option linter.unusedVariables false
set_option linter.unusedSectionVars false
set_option linter.unusedSimpArgs false

section
variable {P : Program} {B : Nat} {S : Cells} {w : World} {κ : Kap} {h : Heap}

/-- A result variable, read. -/
def resF (tmps : Array Value) : ResultVar → Sem Value
  | .tmp t => pure (tmps.getD t undef)
  | .cell a t => do loadVar t (← asAddr (tmps.getD a undef))

/-- One result, or many. -/
def pack : List V → V
  | [v] => v
  | vs => .tup vs

theorem evRes_sound (inv : Inv P B S w κ h) {env : List V} {tmps : Array Value} (hr : RL S w κ env tmps.toList) : ∀ (rs : List ResultVar) (cr : List Rv) (vs : List V),
    rs.mapM (cRes P) = some cr → evRes env h cr = some vs → ∃ us, (rs.mapM (resF tmps)).run P w = .ok us w ∧ RL S w κ vs us
  | [], cr, vs, hc, he => by
    simp at hc
    subst hc
    simp only [evRes, Option.some.injEq] at he
    subst he
    exact ⟨[], by simp, trivial⟩
  | r :: rs, cr, vs, hc, he => by
    simp only [List.mapM_cons, Option.bind_eq_bind, Option.bind_eq_some_iff, Option.pure_def, Option.some.injEq] at hc
    obtain ⟨r', h1, cr', h2, rfl⟩ := hc
    have hget : ∀ t, RV S w κ (eget env t) (tmps.getD t undef) := fun t => eget_sound (a := { tmps, defers := [] }) hr t
    cases r with
    | tmp t =>
      simp only [cRes, Option.some.injEq] at h1
      subst h1
      simp only [evRes, Option.map_eq_some_iff] at he
      obtain ⟨vs', he, rfl⟩ := he
      obtain ⟨us, hrun, hl⟩ := evRes_sound inv hr rs cr' vs' h2 he
      have h0 : (resF tmps (.tmp t)).run P w = .ok (tmps.getD t undef) w := rfl
      exact ⟨_ :: us, by simp only [List.mapM_cons, Sem.run_bind, h0, Result.andThen_ok, hrun]; rfl, by simp only [RL]; exact ⟨hget t, hl⟩⟩
    | cell a t =>
      simp only [cRes, Option.map_eq_some_iff] at h1
      obtain ⟨ag, ha, rfl⟩ := h1
      simp only [evRes] at he
      split at he
      · rename_i v vs' hv hvs
        cases he
        obtain ⟨us, hrun, hl⟩ := evRes_sound inv hr rs cr' vs' h2 hvs
        simp only [Option.bind_eq_some_iff] at hv
        obtain ⟨cs, hcs, hv⟩ := hv
        obtain ⟨b, o, hp, hcel⟩ := cellsAt_sound inv (hget a) hcs
        obtain ⟨u, hu, hload⟩ := Cel_load ha hcel hv
        have h0 : (resF tmps (.cell a t)).run P w = .ok u w := by
          show (do loadVar t (← asAddr (tmps.getD a undef)) : Sem Value).run P w = _
          rw [hp]
          have : asAddr (.pointer (some ⟨b, o, none⟩)) = pure ⟨b, o, none⟩ := rfl
          simp [this, hload]
        exact ⟨u :: us, by simp only [List.mapM_cons, Sem.run_bind, h0, Result.andThen_ok, hrun]; rfl, by simp only [RL]; exact ⟨hu, hl⟩⟩
      · cases he

theorem results_run (inv : Inv P B S w κ h) {env : List V} {tmps : Array Value} (hr : RL S w κ env tmps.toList) {fn : Func} {cr : List Rv} (hc : fn.results.toList.mapM (cRes P) = some cr)
    {vs : List V} (he : evRes env h cr = some vs) {r : V} (hv : r = pack vs) : ∃ v, (results fn tmps).run P w = .ok v w ∧ RV S w κ r v := by
  obtain ⟨us, hrun, hl⟩ := evRes_sound inv hr _ _ _ hc he
  have hlen := RL_length hl
  have hrun2 : (results fn tmps).run P w = .ok (if h : us.toArray.size = 1 then us.toArray[0] else .tuple us.toArray) w := by
    show (do let vs ← fn.results.mapM (resF tmps); pure (if h : vs.size = 1 then vs[0] else .tuple vs) : Sem Value).run P w = _
    rw [Sem.run_bind, Array.mapM_eq_mapM_toList, Sem.run_map, hrun]
    rfl
  refine ⟨_, hrun2, ?_⟩
  subst hv
  match vs, us, hl, hlen with
  | [v], [u], hl, _ => simpa [RL, pack] using hl
  | [], [], hl, _ => simp [RV, RL, pack]
  | x :: y :: vs, u :: u' :: us, hl, _ =>
    simp only [RV, pack]
    exact ⟨(u :: u' :: us).toArray, by simp, by simpa using hl⟩

theorem takeDeferred_run {b : Nat} (hb : w.heap[b]? = some (.deferred (some []))) : (Instr.takeDeferred b).run P w = .ok [] (World.withBlock w b (.deferred none)) := by
  simp [Instr.takeDeferred, getObj, Sem.run, hb, setObj, World.withBlock]

/-- The marks are taken, one behind the other; then the results are read. -/
theorem leaves_sound {F : Fence} {n : Nat} {fn : Func} {tmps : Array Value} {env : List V} {cr : List Rv} (hc : fn.results.toList.mapM (cRes P) = some cr) {vs : List V} {r : V} (hv : r = pack vs) {R : Ending → World → Prop} {h1 : Heap} : ∀ (ms : List Nat) (ds : List Deferred) {S : Cells} {w : World} {κ : Kap} {h : Heap}, Inv P B S w κ h → RL S w κ env tmps.toList → MK κ ms ds →
    takeMarks h ms = some h1 → evRes env h1 cr = some vs → (∀ v w' S' κ', Inv P B S' w' κ' h1 → Stp B S w κ S' w' κ' → RV S' w' κ' r v → R (.returned v) w') → LeavesInM F n P fn tmps R ds .returning w
  | [], [], S, w, κ, h, inv, hr, _, ht, he, hR => by
    simp only [takeMarks, Option.some.injEq] at ht
    subst ht
    obtain ⟨v, h1, h2⟩ := results_run inv hr hc he hv
    exact ⟨v, h1, hR _ _ _ _ inv (.refl _ _ _ _) h2⟩
  | [], _ :: _, S, w, κ, h, inv, hr, hm, _, _, _ => hm.elim
  | _ :: _, [], S, w, κ, h, inv, hr, hm, _, _, _ => hm.elim
  | m :: ms, d :: ds, S, w, κ, h, inv, hr, hm, ht, he, hR => by
    obtain ⟨⟨b, hb, rfl⟩, hm⟩ := hm
    simp only [takeMarks] at ht
    split at ht
    · rename_i hob
      obtain ⟨b', o1, o2⟩ := inv.obs _ _ hob
      rw [hb] at o1; cases o1
      simp only [Bool.false_eq_true, if_false] at o2
      obtain ⟨inv1, st1⟩ := Inv.over inv (o1 := .deferred none) hb o2 (fun w hw o => cell?_defr w hw o) (fun w hw o => cell?_defr w hw o) (.defr true) (fun _ _ hw => ⟨b, upd_same _ _ _, by simpa using hw⟩)
      refine ⟨by simp, .inl ⟨b, _, rfl, takeDeferred_run o2, ?_⟩⟩
      exact leaves_sound hc hv ms ds inv1 (RL.mono st1.sle st1.kle _ _ hr) (MK.mono st1.kle _ _ hm) ht he (fun v w' S' κ' i s q => hR v w' S' κ' i (st1.trans s) q)
    · cases ht

/-- What the evaluator says of a function's body is what the machine does, where it is so of the calls within. -/
def BodyS (P : Program) (f : FuncId) (cf : Cf) : Prop :=
  ∀ {call : CallF}, CallS P call → ∀ {lf : Nat} {args : List V} {as : Array Value} {x : V} {h h' : Heap}, evBody call lf cf args h = some (x, h') →
    ∀ {B : Nat} {S : Cells} {w : World} {κ : Kap}, Inv P B S w κ h → RL S w κ args as.toList → ∀ n, CallsIn Fence.wide n P f as w (Ends P B S w κ x h')

/-- A function with a body, of which that is so. -/
def Told (P : Program) (f : FuncId) (cf : Cf) : Prop := ∃ fn c, P.funcs[f]? = some fn ∧ fn.name ≠ "runtime.NumGoroutine" ∧ fn.body = some c ∧ BodyS P f cf

/-- The table tells of the program's functions. -/
def Tells (P : Program) (Φ : Nat → Option Cf) : Prop := ∀ f cf, Φ f = some cf → Told P f cf

theorem RL_reps {n : Nat} : RL S w κ (List.replicate n V.non) (List.replicate n undef) := RL_replicate RV_non n

/-- A function's body. -/
theorem body_sound (hP : P.follows .mixedOrders = true) {call : CallF} (hcall : CallS P call) {lf : Nat} {f : FuncId} {fn : Func} {cf : Cf} (hf : P.funcs[f]? = some fn) (hc : cFunc P cf.pure fn = some cf)
    {args : List V} {as : Array Value} {x : V} {h' : Heap} (he : evBody call lf cf args h = some (x, h')) (inv : Inv P B S w κ h) (hr : RL S w κ args as.toList) (n : Nat) :
    CallsIn Fence.wide n P f as w (Ends P B S w κ x h') := by
  unfold cFunc at hc
  split at hc
  case h_2 => cases hc
  rename_i c hb
  split at hc
  case h_2 => cases hc
  rename_i cb cr hcb hcr
  simp only [Option.some.injEq] at hc
  unfold evBody at he
  obtain ⟨_, he⟩ := ite_none' he
  have hbody : cf.body = cb := by rw [← hc]
  have hnt : cf.ntmps = fn.ntmps := by rw [← hc]
  have hres : cf.results = cr := by rw [← hc]
  rw [hbody, hnt, hres] at he
  have hlen := RL_length hr
  refine callsIn_of_wp_marks hf hb trivial ?_
  have hs : SR P B S w κ { env := args ++ List.replicate (fn.ntmps - args.length) V.non, marks := [], heap := h } { tmps := as ++ Array.replicate (fn.ntmps - as.size) undef, defers := [] } :=
    ⟨inv, by simp only [Array.toList_append, Array.toList_replicate]; rw [show as.size = args.length from by simpa using hlen.symm]; exact RL_append hr RL_reps, trivial⟩
  split at he
  · cases he
  · rename_i e s hne hev
    split at he
    · cases he
    · rename_i h1 ht
      have fin : ∀ (vs : List V), evRes s.env h1 cr = some vs → x = pack vs → h' = h1 → c.wpIn Fence.wide n P (bodyPostM Fence.wide n P fn (Ends P B S w κ x h')) { tmps := as ++ Array.replicate (fn.ntmps - as.size) undef, defers := [] } w := by
        rintro vs hvs hx rfl
        refine code_sound hP hcall lf c cb hcb none none _ e s hev n hs trivial _ (fun a' w' S' κ' hs' st => ?_)
        have := leaves_sound (F := Fence.wide) (n := n) (fn := fn) (R := Ends P B S w κ x h') hcr hx s.marks a'.defers hs'.inv hs'.env hs'.mks ht hvs (fun v w2 S2 κ2 i2 s2 q2 => ⟨v, S2, κ2, rfl, i2, st.trans s2, q2⟩)
        cases e with
        | normal => exact this
        | ret => exact this
        | exit i => exact (hne i rfl).elim
      split at he
      · rename_i v hv
        simp only [Option.some.injEq, Prod.mk.injEq] at he
        exact fin [v] hv he.1.symm he.2.symm
      · rename_i vs hn hv
        simp only [Option.some.injEq, Prod.mk.injEq] at he
        refine fin vs hv ?_ he.2.symm
        unfold pack
        split
        · exact absurd rfl (hn _)
        · exact he.1.symm
      · cases he
  · cases he

/-- A compiled function is told of. -/
theorem told_of (hP : P.follows .mixedOrders = true) {f : FuncId} {fn : Func} {cf : Cf} (hf : P.funcs[f]? = some fn) (hn : fn.name ≠ "runtime.NumGoroutine") (hc : cFunc P cf.pure fn = some cf) : Told P f cf := by
  have hb : ∃ c, fn.body = some c := by
    unfold cFunc at hc
    split at hc
    · exact ⟨_, by assumption⟩
    · cases hc
  obtain ⟨c, hb⟩ := hb
  exact ⟨fn, c, hf, hn, hb, fun hcall _ _ _ _ _ _ he _ _ _ _ inv hr n => body_sound hP hcall hf hc he inv hr n⟩

theorem callFunc_run {f : FuncId} {fn : Func} {c : Code} (hf : P.funcs[f]? = some fn) (hn : fn.name ≠ "runtime.NumGoroutine") (hb : fn.body = some c) (args : Array Value) (w' : World) :
    (callFunc f args).run P w' = .ok (.enter f args) w' := by
  simp [callFunc, hf, hn, hb]

theorem setMany_sound : ∀ (ps : List Nat) (args : List V) (us : List Value) (env : List V) (tmps : Array Value), args.length = ps.length → RL S w κ args us → RL S w κ env tmps.toList →
    RL S w κ (setMany env ps args) ((ps.zip us).foldl (fun (tmps : Array Value) (p : Nat × Value) => tmps.setIfInBounds p.1 p.2) tmps).toList
  | [], [], us, env, tmps, _, _, hr => by simpa [setMany] using hr
  | [], _ :: _, us, env, tmps, hl, _, _ => by simp at hl
  | _ :: _, [], us, env, tmps, hl, _, _ => by simp at hl
  | p :: ps, x :: xs, [], env, tmps, _, h, _ => by simp [RL] at h
  | p :: ps, x :: xs, u :: us, env, tmps, hl, h, hr => by
    simp only [RL] at h
    simp only [setMany, List.zip_cons_cons, List.foldl_cons]
    exact setMany_sound ps xs us _ _ (by simpa using hl) h.2 (by simpa using RL_set p hr h.1)

/-- Calls mean what the machine does. -/
theorem call_sound (hP : P.follows .mixedOrders = true) {Φ : Nat → Option Cf} (hΦ : Tells P Φ) : ∀ n, CallS P (evCall Φ n) := by
  intro n
  induction n with
  | zero => intro f args h x h' hh; simp [evCall] at hh
  | succ n ih =>
    intro f args h x h' hh B S w κ fv vs inv hf hr
    cases f
    case fn f first caps =>
      cases f
      case func f =>
        simp only [evCall] at hh
        split at hh
        · cases hh
        · rename_i cf hcf
          obtain ⟨fn, c, hfn, hname, hb, hbs⟩ := hΦ f cf hcf
          obtain ⟨a', c', rfl, hra, hrc⟩ : ∃ a' c', fv = .func (.func f) a' c' ∧ RL S w κ first a'.toList ∧ RL S w κ caps c'.toList := by simpa only [RV] using hf
          have hargs : RL S w κ (first ++ args ++ caps) (a' ++ vs ++ c').toList := by
            simp only [Array.toList_append]
            exact RL_append (RL_append hra hr) hrc
          refine ⟨{ target := .fn (.func f) c', args := a' ++ vs }, .enter f (a' ++ vs ++ c'), rfl, ?_, fun k => ?_, fun _ => ⟨_, _, rfl⟩⟩
          · simp only [invoke]
            exact callFunc_run hfn hname hb _ _
          split at hh
          · -- a pure function: in a heap of its own
            split at hh
            · cases hh
            · rename_i as h1 hm
              split at hh
              · cases hh
              · rename_i r h2 hbody
                simp only [Option.map_eq_some_iff, Prod.mk.injEq] at hh
                obtain ⟨⟨r', h3⟩, hfz, rfl, rfl⟩ := hh
                obtain ⟨S1, inv1, st1, hr1⟩ := fzs_sound hm inv hargs
                have inv0 : Inv P w.heap.size S1 w noK [] := ⟨fun i o ho => (by simp at ho), fun i j k k' h => (by cases h), fun i k h => (by cases h), inv1.sb, Nat.le_refl _⟩
                refine CallsIn.mono (hbs ih hbody inv0 hr1 k) (fun e w' he => ?_)
                obtain ⟨v, S2, κ2, rfl, inv2, st2, hv⟩ := he
                obtain ⟨S3, inv3, st3, hv3, _⟩ := fz_sound (B := w.heap.size) fzDepth S2 h2 r r' h3 v hfz inv2 hv
                have st23 := st2.trans st3
                -- back to the caller's heap
                have hsz : B ≤ w.heap.size := inv.bw
                have hgrow : w.heap.size ≤ w'.heap.size := st23.below.size
                have hsame : ∀ b, b < w.heap.size → w'.heap[b]? = w.heap[b]? := fun b hb => st23.below.block b hb
                refine ⟨v, S3, κ, rfl, ⟨fun i o ho => ?_, inv1.dis, fun i k hk => ?_, inv3.sb, by omega⟩, ⟨?_, st1.sle.trans st23.sle, .refl _, fun b o h => ?_⟩, RV.mono (.refl _ _) (fun _ _ h => by cases h) _ _ hv3⟩
                · refine OI.mono st23.sle (.refl _) st23.new (fun k hk => ?_) (inv1.obs i o ho)
                  have := (inv1.dom _ _ hk).2.2
                  exact ⟨hk, hsame _ this, this⟩
                · have := inv1.dom _ _ hk
                  exact ⟨this.1, this.2.1, by omega⟩
                · exact st23.below.mono hsz
                · rcases st23.new b o h with h | h
                  · exact st1.new b o h
                  · exact .inr (by omega)
          · exact hbs ih hh inv hargs k
      case yield l =>
        simp only [evCall] at hh
        split at hh
        case h_2 => cases hh
        rename_i pend env ps asg body df hob
        obtain ⟨hlen, hh⟩ := ite_some' hh
        obtain ⟨b, hb, rfl, rfl, rfl⟩ : ∃ b, κ l = some (.blk b) ∧ fv = .func (.yield b) #[] #[] ∧ first = [] ∧ caps = [] := by simpa only [RV] using hf
        obtain ⟨b', db, L, o1, o2, o3, o4, o5, o6, o7, o8, o9, o10⟩ := inv.obs _ _ hob
        rw [hb] at o1; cases o1
        have hsz : vs.size = L.params.size := by
          have := RL_length hr
          rw [← o6] at hlen
          simp at hlen this
          omega
        refine ⟨{ target := .fn (.yield b) #[], args := #[] ++ vs }, .round b L.fn ((L.params.zip vs).foldl (fun tmps (t, a) => tmps.setIfInBounds t a) L.tmps) L.assign L.body, rfl, ?_, fun k => ?_, fun hne => absurd rfl (hne _ _ _)⟩
        · simp [invoke, Instr.yield, getLoop_run o2, hsz]
        split at hh
        case h_2 => cases hh
        rename_i s1 hs1
        split at hh
        case h_2 => cases hh
        rename_i pend1 env1 ps1 asg1 body1 df1 hob1
        split at hh
        case h_2 => cases hh
        rename_i e s2 hs2
        split at hh
        case h_2 => cases hh
        rename_i st2' pend2 env2 ps2 asg2 body2 df2 hob2
        refine roundIn_of_wpIn trivial ?_
        have hs0 : SR P B S w κ { env := setMany env ps args, marks := [], heap := h } { tmps := (L.params.zip vs).foldl (fun tmps (t, a) => tmps.setIfInBounds t a) L.tmps, defers := [] } := by
          refine ⟨inv, ?_, trivial⟩
          have := setMany_sound ps args vs.toList env L.tmps hlen hr o5
          rw [← o6] at this
          rw [← Array.foldl_toList, Array.toList_zip, ← o6]
          exact this
        refine code_sound hP ih n L.assign asg o7 (some l) (some b) _ .normal s1 hs1 k hs0 hb _ (fun a1 w1 S1 κ1 hr1 st1 => ?_)
        obtain ⟨b', db1, L1, p1, p2, p3, p4, p5, p6, p7, p8, p9, p10⟩ := hr1.inv.obs _ _ hob1
        obtain ⟨k', hk', le⟩ := st1.kle _ _ hb
        cases le
        rw [hk'] at p1; cases p1
        refine ⟨World.withBlock w1 b (.loop { L1 with state := .busy }), by simp [Instr.beginRound, getLoop_run p2, setObj_loop p2, p3], ?_⟩
        obtain ⟨inv2, st2⟩ := Inv.over hr1.inv (o1 := .loop { L1 with state := .busy }) hk' p2 (fun w hw o => cell?_loop w hw o) (fun w hw o => cell?_loop w hw o) (.loop .busy pend1 env1 ps1 asg1 body1 df1)
          (fun sle kle hw => by
            obtain ⟨k', hk'', le⟩ := kle _ _ p9
            cases le
            exact ⟨b, db1, _, upd_same _ _ _, hw, rfl, p4, RL.mono sle kle _ _ p5, p6, p7, p8, hk'', p10⟩)
        have hsr2 : SR P B S1 (World.withBlock w1 b (.loop { L1 with state := .busy })) (upd κ1 l (.blk b)) { s1 with heap := s1.heap.set l (.loop .busy pend1 env1 ps1 asg1 body1 df1) } a1 :=
          ⟨inv2, RL.mono st2.sle st2.kle _ _ hr1.env, MK.mono st2.kle _ _ hr1.mks⟩
        refine code_sound hP ih n L.body body o8 (some l) (some b) _ e s2 hs2 k hsr2 (upd_same _ _ _) _ (fun a2 w3 S3 κ3 hr3 st3 => ?_)
        obtain ⟨b', db2, L2, q1, q2, q3, q4, q5, q6, q7, q8, q9, q10⟩ := hr3.inv.obs _ _ hob2
        obtain ⟨k', hk3, le⟩ := st3.kle _ _ (upd_same κ1 l (.blk b))
        cases le
        rw [hk3] at q1; cases q1
        have stA := st1.trans (st2.trans st3)
        have fin : ∀ (jump : Option Code) (pd : Option Ex), PJ pd jump → x = .bool jump.isNone → h' = s2.heap.set l (.loop (if jump.isNone then .ready else .done) pd env2 ps2 asg2 body2 df2) →
            ∃ v w', (Instr.endRound b jump).run P w3 = .ok v w' ∧ Ends P B S w κ x h' (.returned v) w' := by
          rintro jump pd hpj rfl rfl
          obtain ⟨inv4, st4⟩ := Inv.over hr3.inv (o1 := .loop { L2 with state := if jump.isNone then .ready else .done, pending := jump }) hk3 q2 (fun w hw o => cell?_loop w hw o) (fun w hw o => cell?_loop w hw o) (.loop (if jump.isNone then .ready else .done) pd env2 ps2 asg2 body2 df2)
            (fun sle kle hw => by
              obtain ⟨k', hk'', le⟩ := kle _ _ q9
              cases le
              exact ⟨b, db2, _, upd_same _ _ _, hw, rfl, hpj, RL.mono sle kle _ _ q5, q6, q7, q8, hk'', q10⟩)
          exact ⟨.bool jump.isNone, _, by simp [Instr.endRound, getLoop_run q2, setObj_loop q2], ⟨.bool jump.isNone, S3, _, rfl, inv4, stA.trans st4, by simp only [RV]⟩⟩
        cases e with
        | normal =>
          simp only [Option.some.injEq, Prod.mk.injEq] at hh
          exact fin none none trivial hh.1.symm hh.2.symm
        | exit i =>
          simp only [Option.some.injEq, Prod.mk.injEq] at hh
          exact fin (some (.exit i)) (some (.exit i)) rfl hh.1.symm hh.2.symm
        | ret =>
          simp only [Option.some.injEq, Prod.mk.injEq] at hh
          exact fin (some .ret) (some .ret) trivial hh.1.symm hh.2.symm
      all_goals simp [evCall] at hh
    all_goals simp [evCall] at hh
end
end Go.Ev
