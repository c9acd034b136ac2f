/- Every operation that is no call of a function: what it does. States and acts; operations within a region. No conditions. -/
import Derived.Test.YtaeklgflchhmfaaGreatDoorEvV
set_option maxHeartbeats 16000000
set_option maxRecDepth 100000
set_option linter.unusedVariables false
set_option linter.unusedSimpArgs false
set_option linter.unusedSectionVars false
namespace Go.Ev
open Go.RowKit
section
variable {P : Program} {G : Glob} {B : Base G} {S : Cells} {w : World} {κ : Kap} {h : Heap}
theorem Good.ofPure (inv : Inv P B S w κ h) {x : V} {h' : Heap} {s : Sem Next} (hs : h' = h ∧ Same P S w κ x s) : Good P B S w κ h' x s := by
 obtain ⟨rfl, hs⟩ := hs
 exact Good.same inv hs
theorem Good.allv (inv : Inv P B S w κ h) {x : V} {h' : Heap} {o : Oper} {a : Act} {s : Sem Value} (hs : execOp a.eval o = (do pure (.value (← s))))
  (hh : h' = h ∧ ∃ v, RV S w κ x v ∧ ∀ w', s.run P w' = .ok v w') : Good P B S w κ h' x (execOp a.eval o) := Good.ofPure inv ⟨hh.1, Same.exec hs hh.2⟩
theorem op_sound (inv : Inv P B S w κ h) {env : List V} {a : Act} (hr : RL S w κ env a.tmps.toList) {o : Oper} {c : Cop} (hc : cOp P o = some c)
  {x : V} {h' : Heap} (he : evOp env h c = some (x, h')) : Good P B S w κ h' x (execOp a.eval o) := by
 by_cases hp : pureOp c = true
 ·exact Good.ofPure inv (op_pure inv hr hc hp he)
 unfold cOp at hc
 split at hc
 case h_1 y ho => simp only [Option.map_eq_some_iff] at hc; obtain ⟨d, hd, rfl⟩ := hc; simp [pureOp] at hp
 case h_2 y ho => simp only [Option.map_eq_some_iff] at hc; obtain ⟨d, hd, rfl⟩ := hc; simp [pureOp] at hp
 case h_3 y z1 z2 ho => split at hc <;> cases hc; simp [pureOp] at hp
 case h_4 t ho =>
  simp only [Option.map_eq_some_iff] at hc
  obtain ⟨z, hz, rfl⟩ := hc
  simp only [evOp, qZ4, Option.some.injEq, Prod.mk.injEq] at he
  obtain ⟨rfl, rfl⟩ := he
  exact Good.ex (by simp only [execOp, ho]) (Good.ret (alloc_sound inv hz))
 case h_5 t y ho =>
  simp only [Option.map_eq_some_iff] at hc
  obtain ⟨d, hd, rfl⟩ := hc
  exact Good.ex (s := do pure (.value (← Instr.box t (a.eval y)))) (by simp only [execOp, ho]) (Good.ret (box_sound inv (zZ2 hr hd) he))
 case h_6 t parts ho =>
  split at hc
  ·split at hc
   ·cases hc
   ·simp only [Option.map_eq_some_iff] at hc
    obtain ⟨l, hl, rfl⟩ := hc
    simp [pureOp] at hp
  ·simp only [Option.bind_eq_some_iff, Option.map_eq_some_iff] at hc
   obtain ⟨s, hs, l, hl, rfl⟩ := hc
   simp [pureOp] at hp
  ·cases hc
 case h_7 t len parts ho =>
  split at hc
  ·rename_i e ht
   split at hc
   ·rename_i q hq
    split at hc
    ·cases hc
    ·rename_i hsz
     simp only [Option.map_eq_some_iff] at hc
     obtain ⟨l, hl, rfl⟩ := hc
     simp only [evOp] at he
     exact Good.ex (by simp only [execOp, ho]) (Good.ret (bslice_sound inv hr ht hq hsz hl he))
   ·cases hc
  ·cases hc
 case h_8 t y ho =>
  split at hc
  ·rename_i ag d ha hd
   cases hc
   simp only [evOp] at he
   obtain ⟨e, hs⟩ := load_sound inv ha (zZ2 hr hd) he
   exact Good.ex (by simp only [execOp, ho]) (Good.val' inv e hs)
  ·cases hc; simp only [evOp] at he; cases he
 case h_9 t y z ho =>
  split at hc
  ·rename_i n d e hn hd he'
   cases hc
   simp only [evOp] at he
   obtain ⟨w', κ', h1, h2, h3, h4⟩ := store_sound inv hn (zZ2 hr hd) (zZ2 hr he') he
   exact Good.ex (by simp only [execOp, ho]) (Good.skip h2 ⟨w', S, κ', h1, h3, h4⟩)
  ·cases hc
 case h_10 y ho => simp only [Option.map_eq_some_iff] at hc; obtain ⟨d, hd, rfl⟩ := hc; simp [pureOp] at hp
 case h_11 op t px py _ ho =>
  split at hc
  ·rename_i d e hd he'
   exact Good.allv inv (s := do eqGuard op t px py (a.eval px) (a.eval py); binOp op t (a.eval px) (a.eval py)) (by simp [execOp, ho]) (bin_sound inv hr hd he' hc he)
  ·cases hc
 case h_12 op _ y ho => simp only [Option.map_eq_some_iff] at hc; obtain ⟨d, hd, rfl⟩ := hc; simp [pureOp] at hp
 case h_13 s d y ho =>
  simp only [Option.bind_eq_some_iff] at hc
  obtain ⟨e, hd, hc⟩ := hc
  have hy := zZ2 hr hd
  unfold cConv at hc
  split at hc
  ·cases hc; simp [pureOp] at hp
  ·cases hc; simp [pureOp] at hp
  ·rename_i el hs hdd
   split at hc
   ·rename_i hel
    cases hc
    simp only [evOp, evConv] at he
    split at he
    ·rename_i es hes
     split at he
     ·rename_i l hl
      obtain ⟨e1, e2⟩ := qZQ he
      cases e1
      exact Good.ex (by simp only [execOp, ho]) (Good.val' inv e2 ⟨_, rfl, xZx inv hs hel hdd hy hes hl⟩)
     ·cases he
    ·cases he
   ·cases hc
  ·rename_i el hs hdd
   split at hc
   ·rename_i hel
    cases hc
    simp only [evOp, evConv] at he
    split at he
    ·rename_i q hx
     obtain ⟨_, he⟩ := zZN he
     simp only [qZ4, Option.some.injEq, Prod.mk.injEq] at he
     obtain ⟨rfl, rfl⟩ := he
     rw [hx] at hy
     simp only [RV] at hy
     exact Good.ex (by simp only [execOp, ho, hy]) (Good.ret (xZE inv hs hdd hel))
    ·cases he
   ·cases hc
  ·cases hc; simp only [evOp] at he; cases he
  ·cases hc
 case h_14 t y ho =>
  split at hc
  ·cases hc
  ·simp only [Option.map_eq_some_iff] at hc; obtain ⟨d, hd, rfl⟩ := hc; simp [pureOp] at hp
  ·cases hc
 case h_15 f fi ca ho =>
  split at hc
  ·cases hc
  ·split at hc <;> cases hc; simp [pureOp] at hp
 case h_16 t ho =>
  cases hc
  simp only [evOp, qZ4, Option.some.injEq, Prod.mk.injEq] at he
  obtain ⟨rfl, rfl⟩ := he
  exact Good.ex (by simp only [execOp, ho]; rfl) (Good.ret (mkm_sound inv t))
 case h_17 t l cp ho =>
  split at hc
  ·rename_i e ht
   split at hc
   ·rename_i q d c' hq hd hc'
    cases hc
    simp only [evOp] at he
    exact Good.ex (by simp only [execOp, ho]) (Good.ret (mks_sound inv ht hq (zZ2 hr hd) (zZ2 hr hc') he))
   ·cases hc
  ·cases hc
 case h_18 t y lo hi ho =>
  split at hc
  ·cases hc; simp [pureOp] at hp
  ·simp only [Option.map_eq_some_iff] at hc; obtain ⟨d, hd, rfl⟩ := hc; simp [pureOp] at hp
  ·cases hc
 case h_19 t y f ho =>
  split at hc
  ·simp only [Option.bind_eq_some_iff] at hc
   obtain ⟨g, hg, s, hs, hc⟩ := hc
   split at hc <;> cases hc
   simp [pureOp] at hp
  ·cases hc
 case h_20 t y f ho =>
  split at hc
  ·simp only [Option.bind_eq_some_iff, Option.map_eq_some_iff] at hc
   obtain ⟨g, hg, ag, ha, rfl⟩ := hc
   simp [pureOp] at hp
  ·cases hc
 case h_21 t y i ho =>
  split at hc
  ·simp only [Option.bind_eq_some_iff] at hc
   obtain ⟨s, hs, hc⟩ := hc
   split at hc <;> cases hc
   simp [pureOp] at hp
  ·simp only [Option.bind_eq_some_iff] at hc
   obtain ⟨s, hs, hc⟩ := hc
   split at hc <;> cases hc
   simp [pureOp] at hp
  ·cases hc
 case h_22 t y i ho =>
  split at hc
  ·cases hc; simp [pureOp] at hp
  ·rename_i n e d j ht hd hj
   split at hc
   ·rename_i s ag hs ha
    cases hc
    simp only [evOp] at he
    exact Good.allv inv (by simp only [execOp, ho]) (idxA_sound ht hs ha (zZ2 hr hd) (zZ2 hr hj) he)
   ·cases hc
  ·cases hc
 case h_23 t m k ok ho =>
  split at hc
  ·rename_i kt e d j ht hd hj
   split at hc
   ·rename_i ks z hk hz
    cases hc
    simp only [evOp] at he
    obtain ⟨e1, hs⟩ := look_sound inv ht hk hz (zZ2 hr hd) (zZ2 hr hj) he
    exact Good.ex (by simp only [execOp, ho]) (Good.val' inv e1 hs)
   ·cases hc
  ·cases hc
 case h_24 t m k y ho =>
  split at hc
  ·rename_i kt e d j l ht hd hj hl
   simp only [Option.map_eq_some_iff] at hc
   obtain ⟨ks, hk, rfl⟩ := hc
   simp only [evOp] at he
   obtain ⟨h1, h2⟩ := xZd inv ht hk (zZ2 hr hd) (zZ2 hr hj) (zZ2 hr hl) he
   exact Good.ex (by simp only [execOp, ho]) (Good.skip h1 h2)
  ·cases hc
 case h_25 t m k y ho =>
  split at hc
  ·rename_i kt e d j l ht hd hj hl
   simp only [Option.map_eq_some_iff] at hc
   obtain ⟨ks, hk, rfl⟩ := hc
   simp only [evOp] at he
   obtain ⟨h1, h2⟩ := xZd inv ht hk (zZ2 hr hd) (zZ2 hr hj) (zZ2 hr hl) he
   exact Good.ex (by simp only [execOp, ho]) (Good.skip h1 h2)
  ·cases hc
 case h_26 t m k ho =>
  split at hc
  ·rename_i kt e d j ht hd hj
   split at hc
   ·rename_i ks z hk hz
    cases hc
    simp only [evOp] at he
    exact Good.ex (by simp only [execOp, ho]) (Good.ret (mapent_sound inv ht hk hz (zZ2 hr hd) (zZ2 hr hj) he))
   ·cases hc
  ·cases hc
 case h_27 t m s y ho =>
  split at hc
  ·rename_i d j l hd hj hl
   cases hc
   simp only [evOp] at he
   obtain ⟨h1, h2⟩ := entst_sound (t := t) inv (zZ2 hr hd) (zZ2 hr hj) (zZ2 hr hl) he
   exact Good.ex (by simp only [execOp, ho]) (Good.skip h1 h2)
  ·cases hc
 case h_28 y i ho => simp only [Option.map_eq_some_iff] at hc; obtain ⟨d, hd, rfl⟩ := hc; simp [pureOp] at hp
 case h_29 cl ho =>
  split at hc
  ·rename_i b args hb ha
   exact builtin_sound inv hr ho hb ha hc he
  ·simp only [Option.map_eq_some_iff] at hc
   obtain ⟨d, hd, rfl⟩ := hc
   simp [evOp] at he
  ·cases hc
 case h_30 t y lo hi mx ho =>
  split at hc
  ·rename_i e d lo' hi' mx' ht hd hlo hhi hmx
   simp only [Option.map_eq_some_iff] at hc
   obtain ⟨s, hs, rfl⟩ := hc
   simp only [evOp] at he
   exact Good.allv inv (by simp [execOp, ho]) (sl3_sound ht hs (zZ2 hr hd) (optOd_sound hr hlo) (zZ2 hr hhi) (zZ2 hr hmx) he)
  ·cases hc
 case h_31 t y ho =>
  split at hc
  ·rename_i d ht hd
   cases hc
   simp only [evOp, evRngs] at he
   have hy := zZ2 hr hd
   split at he
   ·rename_i q hx
    simp only [qZ4, Option.some.injEq, Prod.mk.injEq] at he
    obtain ⟨rfl, rfl⟩ := he
    rw [hx] at hy
    simp only [RV] at hy
    exact Good.ex (by simp only [execOp, ho, hy]) (Good.ret (rngs_sound inv ht q))
   ·cases he
  ·cases hc
 case h_32 y ho =>
  simp only [Option.map_eq_some_iff] at hc
  obtain ⟨d, hd, rfl⟩ := hc
  simp only [evOp] at he
  exact Good.ex (by simp only [execOp, ho]) (Good.ret (nxt_sound inv o.type (zZ2 hr hd) he))
 case h_33 => cases hc
end
open Go.RowKit
def Fr (ro : Option Nat) : Fence := { Fence.wide with round := ro }
theorem Fr_fn (ro : Option Nat) (f : FuncId) : (Fr ro).fn f := trivial
theorem Fr_depth (ro : Option Nat) : (Fr ro).depth = none := rfl
def MK (κ : Kap) : List Nat → List Deferred → Prop
 | [], [] => True
 | m :: ms, d :: ds => (∃ b, κ m = some (.blk b) ∧ d = { target := .collected b, args := #[] }) ∧ MK κ ms ds
 | _, _ => False
theorem MK.mono {κ κ' : Kap} (hk : Kle κ κ') : ∀ (ms : List Nat) (ds : List Deferred), MK κ ms ds → MK κ' ms ds
 | [], [], _ => trivial
 | [], _ :: _, h => h.elim
 | _ :: _, [], h => h.elim
 | m :: ms, d :: ds, h => by
  obtain ⟨⟨b, hb, e⟩, t⟩ := h
  obtain ⟨k', hk', le⟩ := hk _ _ hb
  cases le
  exact ⟨⟨b, hk', e⟩, MK.mono hk ms ds t⟩
structure SR (P : Program) {G : Glob} (B : Base G) (S : Cells) (w : World) (κ : Kap) (s : St) (a : Act) : Prop where
 inv : Inv P B S w κ s.heap
 env : RL S w κ s.env a.tmps.toList
 mks : MK κ s.marks a.defers
def Ends (P : Program) {G : Glob} (B : Base G) (S : Cells) (w : World) (κ : Kap) (x : V) (h' : Heap) (e : Ending) (w' : World) : Prop :=
 ∃ v S' κ', e = .returned v ∧ Inv P B S' w' κ' h' ∧ Stp B S w κ S' w' κ' ∧ RV S' w' κ' x v
def Leads (P : Program) {G : Glob} (B : Base G) (S : Cells) (w : World) (κ : Kap) (x : V) (h' : Heap) : Next → Prop
 | .enter g as => ∀ n, CallsIn Fence.wide n P g as w (Ends P B S w κ x h')
 | .round l f t asg body => ∀ n, RoundIn Fence.wide n P l f t asg body w (Ends P B S w κ x h')
 | _ => False
def CallS (G : Glob) (P : Program) (call : CallF) : Prop :=
 ∀ f args h x h', call f args h = some (x, h') → ∀ {B : Base G} {S : Cells} {w : World} {κ : Kap} {fv : Value} {vs : Array Value}, Inv P B S w κ h → RV S w κ f fv → RL S w κ args vs.toList →
  ∃ d nx, (Deferred.ofValue fv vs).run P w = .ok d w ∧ (invoke d.target d.args).run P w = .ok nx w ∧ Leads P B S w κ x h' nx ∧
   ((∀ l a c, f ≠ .fn (.yield l) a c) → ∃ g as, nx = .enter g as)
theorem jZs {P : Program} {G : Glob} {B : Base G} {S : Cells} {w : World} {κ : Kap} {s : St} {a : Act} {h' : Heap} {x : V} {v : Value} (hs : SR P B S w κ s a) {S' : Cells} {w' : World} {κ' : Kap} (inv : Inv P B S' w' κ' h') (st : Stp B S w κ S' w' κ')
  (hx : RV S' w' κ' x v) (d : Option Nat) : SR P B S' w' κ' { s with env := putV s.env d x, heap := h' } (a.put d v) := by
 refine ⟨inv, ?_, ?_⟩
 ·exact put_sound (RL.mono st.sle st.kle _ _ hs.env) hx d
 ·have := MK.mono st.kle _ _ hs.mks
  cases d <;> exact this
section
variable {P : Program} {G : Glob} {B : Base G} {S : Cells} {w : World} {κ : Kap}
theorem wZ0 {ops : Array Oper} {o : Oper} {g : Option (Nat × Bool)} (hg : cGuard ops o.guard = some g) {env : List V} {a : Act} (hr : RL S w κ env a.tmps.toList) {b : Bool}
  (hw : wanted env g = some b) : Region.wanted o (yielded ops a.tmps) = b := by
 unfold Region.wanted
 cases ho : o.guard with
 | none =>
  rw [ho] at hg
  simp only [cGuard, Option.some.injEq] at hg
  subst hg
  simpa [wanted] using hw
 | some jw =>
  obtain ⟨j, want⟩ := jw
  rw [ho] at hg
  simp only [cGuard, Option.map_eq_some_iff] at hg
  obtain ⟨d, hd, rfl⟩ := hg
  simp only [wanted] at hw
  show (yielded ops a.tmps j == some want) = b
  unfold yielded
  rw [hd]
  simp only [Option.bind_some]
  unfold eget at hw
  rw [List.getD_eq_getElem?_getD] at hw
  cases he : env[d]? with
  | none =>
   have hl := qZS hr
   have ha : a.tmps[d]? = none := by
    rw [List.getElem?_eq_none_iff] at he
    rw [Array.getElem?_eq_none_iff]
    simp at hl
    omega
   rw [he] at hw
   rw [ha]
   simpa [V.non] using hw
  | some x =>
   obtain ⟨v, hv, hxv⟩ := kZg hr he
   rw [he] at hw
   have hv' : a.tmps[d]? = some v := by simpa using hv
   rw [hv']
   simp only [Option.getD_some] at hw
   split at hw
   ·simp only [RV] at hxv
    subst hxv
    simpa using hw
   ·simp only [RV, RL] at hxv
    obtain ⟨c, rfl, _⟩ := hxv
    simpa using hw
   ·cases hw
theorem cOp_call {o : Oper} {f : Od} {args : List Od} (hc : cOp P o = some (.call f args)) :
  ∃ cl fo, o.op = .call cl ∧ cl.callee = .value fo ∧ cOd fo = some f ∧ cOds cl.args.toList = some args := by
 unfold cOp at hc
 split at hc
 case h_29 cl ho =>
  split at hc
  ·rename_i b as hb ha
   exfalso
   unfold cBuiltin at hc
   revert hc
   (repeat' split) <;> simp
  ·rename_i fo as hb ha
   simp only [Option.map_eq_some_iff, Cop.call.injEq] at hc
   obtain ⟨fd, hfd, rfl, rfl⟩ := hc
   exact ⟨cl, fo, ho, hb, hfd, ha⟩
  ·cases hc
 case h_11 =>
  exfalso
  split at hc
  ·unfold cBin at hc
   revert hc
   (repeat' split) <;> simp
  ·cases hc
 case h_13 =>
  exfalso
  simp only [Option.bind_eq_some_iff] at hc
  obtain ⟨e, _, hc⟩ := hc
  unfold cConv at hc
  revert hc
  (repeat' split) <;> simp
 all_goals
  exfalso
  revert hc
  (repeat' split) <;> simp [Option.bind_eq_some_iff]
 all_goals
  intros
  (repeat' split) <;> simp
theorem fS_eq' {α β : Type} (l : List β) (k : List β → α) : fS l k = k l := fS_eq l k
theorem kZM {call : CallF} (hcall : CallS G P call) {ops : Array Oper} {o : Oper} {p : Cp} (hp : cOper P ops o = some p) {s s' : St} (he : evCp call p s = some s')
  {a : Act} (hs : SR P B S w κ s a) {ro : Option Nat} {n : Nat} {K : Act → World → Prop} {Q : Exit → Act → World → Prop}
  (hK : ∀ a' w' S' κ', SR P B S' w' κ' s' a' → Stp B S w κ S' w' κ' → K a' w') :
  if Region.wanted o (yielded ops a.tmps) then o.wpIn (Fr ro) n P a w K Q else (∀ f, o.about P w a.eval = some f → (Fr ro).fn f) ∧ K (a.put o.dst undef) w := by
 obtain ⟨c, g, hg, rfl, hc⟩ := kZL P hp
 unfold evCp at he
 simp only at he
 cases hw : wanted s.env g with
 | none => rw [hw] at he; cases he
 | some b =>
  rw [hw] at he
  rw [wZ0 hg hs.env hw]
  cases b with
  | false =>
   simp only [Option.some.injEq] at he
   subst he
   simp only [Bool.false_eq_true, if_false]
   exact ⟨fun f _ => trivial, hK _ _ _ _ (jZs hs hs.inv (.refl _ _ _ _) jZr o.dst) (.refl _ _ _ _)⟩
  | true =>
   simp only [if_true]
   rcases hc with hc | ⟨rfl, _⟩
   case inr =>
    exfalso
    simp [evOp] at he
   refine ⟨fun f _ => trivial, ?_⟩
   have hnd : ∀ c', o.op ≠ .defer c' := by
    intro c' e
    unfold cOp at hc
    rw [e] at hc
    simp at hc
   rw [Oper.semAt_eq _ _ _ hnd]
   have hop : (∀ f args, c ≠ .call f args) → (match evOp s.env s.heap c with
     | some (v, h) => fS (putV s.env o.dst v) fun env => some { s with env, heap := h }
     | none => none) = some s' → o.uponIn (Fr ro) n P a K Q ((execOp a.eval o).run P w) := by
    intro _ he
    split at he
    ·rename_i v h heq
     rw [fS_eq] at he
     cases he
     obtain ⟨v', w', S', κ', hrun, inv', st', hv⟩ := op_sound hs.inv hs.env hc heq
     rcases hrun with hrun | ⟨rfl, hrun⟩
     ·rw [hrun]
      exact hK _ _ _ _ (jZs hs inv' st' hv o.dst) st'
     ·rw [hrun]
      exact hK _ _ _ _ (jZs hs inv' st' hv o.dst) st'
    ·cases he
   by_cases hcall' : ∃ f args, c = .call f args
   ·obtain ⟨f, args, rfl⟩ := hcall'
    simp only at he
    rw [fS_eq] at he
    split at he
    ·rename_i v h heq
     rw [fS_eq] at he
     cases he
     have : ∃ cl fo, o.op = .call cl ∧ cl.callee = .value fo ∧ cOd fo = some f ∧ cOds cl.args.toList = some args := by
      exact cOp_call hc
     obtain ⟨cl, fo, ho, hb, hfd, hargs⟩ := this
     obtain ⟨d, nx, h1, h2, h3, _⟩ := hcall _ _ _ _ _ heq (vs := cl.args.map a.eval) hs.inv (zZ2 hs.env hfd) (by simpa using vZ7 hs.env _ _ hargs)
     have : (execOp a.eval o).run P w = .ok nx w := by
      simp only [execOp, ho, resolve, hb]
      simp [h1, h2]
     rw [this]
     cases nx with
     | enter g as =>
      refine ⟨fun h => by simp [Fr, Fence.wide] at h, ?_⟩
      refine CallsIn.mono (R := Ends P B S w κ v h) (h3 (n - 1)) (fun e w' he => ?_)
      obtain ⟨v', S', κ', rfl, inv', st', hv⟩ := he
      exact hK _ _ _ _ (jZs hs inv' st' hv o.dst) st'
     | round l f' t asg body =>
      refine ⟨fun h => by simp [Fr, Fence.wide] at h, ?_⟩
      refine RoundIn.mono (R := Ends P B S w κ v h) (h3 (n - 1)) (fun e w' he => ?_)
      obtain ⟨v', S', κ', rfl, inv', st', hv⟩ := he
      exact hK _ _ _ _ (jZs hs inv' st' hv o.dst) st'
     | _ => exact h3.elim
    ·cases he
   ·have hne : ∀ f args, c ≠ .call f args := fun f args e => hcall' ⟨f, args, e⟩
    refine hop hne ?_
    cases c <;> first | exact he | exact absurd rfl (hne _ _)
theorem cOp_alloc {o : Oper} {z : List V} (hc : cOp P o = some (.alloc z)) : ∃ t z0, o.op = .alloc t ∧ zeroT P t = some z0 ∧ z = z0.cells := by
 unfold cOp at hc
 split at hc
 case h_4 t ho =>
  simp only [Option.map_eq_some_iff, Cop.alloc.injEq] at hc
  obtain ⟨z0, hz, rfl⟩ := hc
  exact ⟨t, z0, ho, hz, rfl⟩
 case h_29 cl ho =>
  exfalso
  split at hc
  ·unfold cBuiltin at hc
   revert hc
   (repeat' split) <;> simp
  ·simp at hc
  ·cases hc
 case h_11 =>
  exfalso
  split at hc
  ·unfold cBin at hc
   revert hc
   (repeat' split) <;> simp
  ·cases hc
 case h_13 =>
  exfalso
  simp only [Option.bind_eq_some_iff] at hc
  obtain ⟨e, _, hc⟩ := hc
  unfold cConv at hc
  revert hc
  (repeat' split) <;> simp
 all_goals
  exfalso
  revert hc
  (repeat' split) <;> simp [Option.bind_eq_some_iff]
 all_goals
  intros
  (repeat' split) <;> simp
theorem xZZ {d : Nat} : ∀ (h : Heap) (i : Nat) (r : Option Nat) {id : Nat}, findR d h i r = some id → r = some id ∨ (i ≤ id ∧ h[id - i]? = some (.resv d))
 | [], i, r, id, h => .inl h
 | o :: h, i, r, id, hf => by
  rcases xZZ h (i + 1) _ hf with h1 | ⟨h1, h2⟩
  ·cases o <;> simp only at h1
   case resv e =>
    split at h1
    ·rename_i he
     cases h1
     subst he
     exact .inr ⟨Nat.le_refl _, by simp⟩
    ·exact .inl h1
   all_goals exact .inl h1
  ·refine .inr ⟨by omega, ?_⟩
   rw [show id - i = (id - (i + 1)) + 1 by omega, List.getElem?_cons_succ]
   exact h2
theorem taken_cells {h : Heap} (inv : Inv P B S w κ h) {id d : Nat} (hid : h[id]? = some (.resv d)) {cs : List V} {c : Array Value} (el : TypeId) (hr : RL S w κ cs c.toList) (hc : cs.all V.isCell = true) :
  Inv P B S (w.alloc (.cells c el)) (upd κ id (.blk w.heap.size)) (h.set id (.cells cs)) ∧
  Stp B S w κ S (w.alloc (.cells c el)) (upd κ id (.blk w.heap.size)) ∧
  RV S (w.alloc (.cells c el)) (upd κ id (.blk w.heap.size)) (.ptr id 0) (.pointer (some ⟨w.heap.size, 0, none⟩)) := by
 have hlt := (List.getElem?_eq_some_iff.1 hid).1
 have hno : κ id = none := inv.obs _ _ hid
 have := Inv.fresh inv id (Nat.le_of_lt hlt) (.cells c el) (.blk w.heap.size) (fun k hk => by rw [hno] at hk; cases hk) rfl (h.set id (.cells cs))
  (fun i o hi ho => by rwa [List.getElem?_set_ne (Ne.symm hi)] at ho)
  (by simp) (by simpa using hlt) (fun sle kle o ho => by
   rw [List.getElem?_set_self hlt] at ho
   cases ho
   refine ⟨w.heap.size, c, el, (0, 0), qZo _ _ _, vZt _ _, jZO _, RL.mono sle kle _ _ hr, hc, fun o ho => ?_⟩
   exact absurd (inv.sb _ _ ho) (by omega))
 refine ⟨this.1, this.2, ?_⟩
 simp only [RV]
 exact ⟨_, qZo _ _ _, rfl⟩
theorem taken_sound {h : Heap} (inv : Inv P B S w κ h) {id d : Nat} (hid : h[id]? = some (.resv d)) {t : TypeId} {z : V} (hz : zeroT P t = some z) :
  ∃ v w' S' κ', (Instr.alloc t true (.tuple #[])).run P w = .ok v w' ∧ Inv P B S' w' κ' (h.set id (.cells z.cells)) ∧ Stp B S w κ S' w' κ' ∧ RV S' w' κ' (.ptr id 0) v := by
 obtain ⟨v, hv, hrun⟩ := wZy hz
 obtain ⟨hr, hc⟩ := vZi (S := S) (w := w) (κ := κ) hv
 obtain ⟨a, b, c⟩ := taken_cells inv hid t hr hc
 exact ⟨_, _, _, _, by simp [Instr.alloc, hrun, newVar, newRow], a, b, c⟩
theorem resv_inv {h : Heap} (inv : Inv P B S w κ h) (ds : List Nat) : Inv P B S w κ (h ++ ds.map Ob.resv) := by
 refine ⟨fun i o ho => ?_, inv.dis, fun i k hk => ?_, inv.sb, inv.bw, inv.gl⟩
 ·rw [List.getElem?_append] at ho
  split at ho
  ·exact inv.obs i o ho
  ·rename_i hi
   rw [List.getElem?_map, Option.map_eq_some_iff] at ho
   obtain ⟨d, _, rfl⟩ := ho
   show κ i = none
   cases hk : κ i with
   | none => rfl
   | some k => exact absurd (inv.dom _ _ hk).1 hi
 ·obtain ⟨h1, h2⟩ := inv.dom i k hk
  exact ⟨by rw [List.length_append]; omega, h2⟩
theorem toD_eq (p : Cp) : toD p = p ∨ ∃ d z g, p = ⟨some d, .alloc z, g⟩ ∧ toD p = ⟨some d, .allocD d z, g⟩ := by
 obtain ⟨d, op, g⟩ := p
 cases op
 case alloc z =>
  cases d with
  | none => exact .inl rfl
  | some d => exact .inr ⟨d, z, g, rfl, rfl⟩
 all_goals (left; cases d <;> rfl)
theorem toD_pure {p : Cp} (h : pureOp p.op = true) : toD p = p := by
 rcases toD_eq p with h1 | ⟨d, z, g, rfl, _⟩
 ·exact h1
 ·cases h
theorem cp_soundG {call : CallF} (hcall : CallS G P call) {ops : Array Oper} {o : Oper} {p : Cp} (hp : cOper P ops o = some p) {gg : Cp → Cp} (hgg : gg = id ∨ gg = toD) {s s' : St} (he : evCp call (gg p) s = some s')
  {a : Act} (hs : SR P B S w κ s a) {ro : Option Nat} {n : Nat} {K : Act → World → Prop} {Q : Exit → Act → World → Prop}
  (hK : ∀ a' w' S' κ', SR P B S' w' κ' s' a' → Stp B S w κ S' w' κ' → K a' w') :
  if Region.wanted o (yielded ops a.tmps) then o.wpIn (Fr ro) n P a w K Q else (∀ f, o.about P w a.eval = some f → (Fr ro).fn f) ∧ K (a.put o.dst undef) w := by
 rcases hgg with rfl | rfl
 ·exact kZM hcall hp he hs hK
 rcases toD_eq p with h1 | ⟨d, z, gd, rfl, h1⟩
 ·rw [h1] at he; exact kZM hcall hp he hs hK
 rw [h1] at he
 obtain ⟨c, g, hg, hp, hc⟩ := kZL P hp
 simp only [Cp.mk.injEq] at hp
 obtain ⟨hd, rfl, rfl⟩ := hp
 replace hd := hd.symm
 replace hc := hc.resolve_right (by simp)
 obtain ⟨t, z0, ho, hz, rfl⟩ := cOp_alloc hc
 unfold evCp at he
 simp only at he
 cases hw : wanted s.env gd with
 | none => rw [hw] at he; cases he
 | some b =>
  rw [hw] at he
  rw [wZ0 hg hs.env hw]
  cases b with
  | false =>
   simp only [Option.some.injEq] at he
   subst he
   simp only [Bool.false_eq_true, if_false]
   rw [hd]
   exact ⟨fun f _ => trivial, hK _ _ _ _ (jZs hs hs.inv (.refl _ _ _ _) jZr (some d)) (.refl _ _ _ _)⟩
  | true =>
   simp only [if_true]
   refine ⟨fun f _ => trivial, ?_⟩
   have hnd : ∀ c', o.op ≠ .defer c' := by
    intro c' e
    rw [ho] at e
    cases e
   rw [Oper.semAt_eq _ _ _ hnd]
   simp only [evOp, evAllocD] at he
   cases hf : findR d s.heap 0 none with
   | none => rw [hf] at he; cases he
   | some id =>
    rw [hf] at he
    simp only [qZ5, qZW, fS_eq, Option.some.injEq] at he
    subst he
    rcases xZZ _ _ _ hf with h2 | ⟨_, h2⟩
    ·cases h2
    rw [Nat.sub_zero] at h2
    have hgood : Good P B S w κ (s.heap.set id (.cells z0.cells)) (.ptr id 0) (execOp a.eval o) := Good.ex (by simp only [execOp, ho]) (Good.ret (taken_sound hs.inv h2 hz))
    obtain ⟨v', w', S', κ', hrun, inv', st', hv⟩ := hgood
    have hK' := hK _ _ _ _ (jZs hs inv' st' hv (some d)) st'
    rw [← hd] at hK'
    rcases hrun with hrun | ⟨rfl, hrun⟩
    ·rw [hrun]; exact hK'
    ·rw [hrun]; exact hK'
end
end Go.Ev
