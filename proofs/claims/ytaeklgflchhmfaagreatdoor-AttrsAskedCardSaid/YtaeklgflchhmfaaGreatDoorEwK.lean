/- Functions that are told of by hand: the numbers of sync/atomic, sync.Once. Stepping through code by hand, beside the evaluator. No conditions. -/
import Derived.Test.YtaeklgflchhmfaaGreatDoorEwH
import Derived.Laws.LoneSync
import Derived.Conc.MuLone
set_option maxHeartbeats 16000000
set_option maxRecDepth 100000
set_option linter.unusedVariables false
set_option linter.unusedSimpArgs false
set_option linter.unusedSectionVars false
namespace Go.Ev
open Go.RowKit
section
variable {P : Program} {G : Glob} {B : Base G} {S : Cells} {w : World} {κ : Kap} {h : Heap}
theorem store_ptr (inv : Inv P B S w κ h) {id off : Nat} {x z : V} {u v : Value} {h' : Heap} (hp : RV S w κ (.ptr id off) u) (hx : RV S w κ x v) (hc : x.isCell = true)
  (hh : evStoreV h 1 (.ptr id off) x = some (z, h')) :
  ∃ b κ', κ id = some (.blk b) ∧ u = .pointer (some ⟨b, off, none⟩) ∧ (∃ o, w.cell? ⟨b, off, none⟩ = some o) ∧ w.frozen? ⟨b, off, none⟩ = false ∧ z = V.non ∧
   Inv P B S (w.setCell ⟨b, off, none⟩ v) κ' h' ∧ Stp B S w κ S (w.setCell ⟨b, off, none⟩ v) κ' := by
 have hcells : x.cells = [x] := by cases x <;> first | rfl | simp [V.isCell] at hc
 unfold evStoreV at hh
 obtain ⟨⟨hlen, hall⟩, hq⟩ := zZN hh
 clear hh
 rw [hcells] at hq
 unfold evStore at hq
 simp only at hq
 split at hq
 case h_2 => cases hq
 rename_i cs hi
 split at hq
 case h_2 => cases hq
 rename_i cs' hset
 simp only [qZW, Option.some.injEq, Prod.mk.injEq] at hq
 obtain ⟨rfl, rfl⟩ := hq
 obtain ⟨s1, rfl⟩ := vZ6 hset
 obtain ⟨b, c, el, fr, h1, h2, h3, h4, h5, h6⟩ := inv.obs _ _ hi
 simp only [RV] at hp
 obtain ⟨b', k1, rfl⟩ := hp
 rw [h1] at k1; cases k1
 have hcl := qZS h4
 simp only [Array.length_toList] at hcl
 simp only [List.length_cons, List.length_nil] at s1
 have hb := (Array.getElem?_eq_some_iff.1 h2).1
 have hoff : off < c.size := by omega
 have hW := Inv.write inv h1 (.cells (c.setIfInBounds off v) el fr) (.blk b) (.refl _) rfl
  (.cells (cs.take off ++ [x] ++ cs.drop (off + [x].length))) (fun o hs => absurd hs (h6 o)) (fun sle kle => by
   refine ⟨b, _, el, fr, qZo _ _ _, qZH _ _ _ hb, by simpa using h3, ?_, ?_, h6⟩
   ·have : (c.setIfInBounds off v).toList = c.toList.take off ++ [v] ++ c.toList.drop (off + 1) := by
     rw [Array.toList_setIfInBounds, List.set_eq_take_append_cons_drop]
     simp [hoff]
    rw [this]
    exact vZd (vZd (wZA _ (RL.mono sle kle _ _ h4)) (RL_one.2 (RV.mono sle kle _ _ hx))) (wZz _ (RL.mono sle kle _ _ h4))
   ·simp only [List.all_append, Bool.and_eq_true]
    refine ⟨⟨?_, by simp [hc]⟩, ?_⟩
    ·exact List.all_eq_true.2 fun y hy => List.all_eq_true.1 h5 y (List.mem_of_mem_take hy)
    ·exact List.all_eq_true.2 fun y hy => List.all_eq_true.1 h5 y (List.mem_of_mem_drop hy))
 refine ⟨b, upd κ id (.blk b), h1, rfl, ⟨c[off], by rw [wZi w b _ h2]; simp [hoff]⟩, ?_, rfl, ?_, ?_⟩
 ·simp only [World.frozen?, h2]
  have := h3 off hoff
  simp only [Bool.and_eq_false_iff, decide_eq_false_iff_not]
  omega
 ·rw [wZI w b off v h2]; exact hW.1
 ·rw [wZI w b off v h2]; exact hW.2
theorem evAtadd_some {k : IntKind} {p d z : V} {h' : Heap} (hh : evAtadd h k p d = some (z, h')) :
  ∃ id off m n c, p = .ptr id off ∧ d = .int k n ∧ cellsAt h (.ptr id off) = some (.int k m :: c) ∧ z = .int k (k.wrap (m + n)) ∧ ∃ u, evStoreV h 1 (.ptr id off) (.int k (k.wrap (m + n))) = some (u, h') := by
 unfold evAtadd at hh
 split at hh
 case h_2 => cases hh
 rename_i id off
 split at hh
 case h_2 => cases hh
 rename_i q n
 split at hh
 case h_2 => cases hh
 rename_i r m c hc
 obtain ⟨⟨rfl, rfl⟩, hh⟩ := zZN hh
 split at hh
 case h_2 => cases hh
 rename_i u h1 hs
 simp only [Option.some.injEq, Prod.mk.injEq] at hh
 obtain ⟨rfl, rfl⟩ := hh
 exact ⟨id, off, m, n, c, rfl, rfl, hc, rfl, u, hs⟩
theorem vZV {call : CallF} {lf nt : Nat} {rs : List Rv} {ops : List Cp} {pure : Bool} {args : List V} {x : V} {h' : Heap} (he : evBody call lf ⟨nt, rs, .region ops, pure⟩ args h = some (x, h')) :
  args.length ≤ nt ∧ ∃ s, evOps call ops { env := args ++ List.replicate (nt - args.length) V.non, marks := [], heap := h } = some s ∧ ∃ vs, takeMarks s.heap s.marks = some h' ∧ evRes s.env h' rs = some vs ∧ x = pack vs := by
 unfold evBody at he
 obtain ⟨hn, he⟩ := vZn he
 refine ⟨by simpa using hn, ?_⟩
 simp only [evCode] at he
 split at he
 ·cases he
 ·rename_i e s hne hev
  simp only [Option.map_eq_some_iff, Prod.mk.injEq] at hev
  obtain ⟨s', hs, rfl, rfl⟩ := hev
  refine ⟨s', hs, ?_⟩
  split at he
  ·cases he
  ·rename_i h1 ht
   split at he
   ·rename_i v hv
    simp only [Option.some.injEq, Prod.mk.injEq] at he
    obtain ⟨rfl, rfl⟩ := he
    exact ⟨_, ht, hv, rfl⟩
   ·rename_i vs hn hv
    simp only [Option.some.injEq, Prod.mk.injEq] at he
    obtain ⟨rfl, rfl⟩ := he
    refine ⟨_, ht, hv, ?_⟩
    unfold pack
    split
    ·exact absurd rfl (hn _)
    ·rfl
   ·cases he
 ·cases he
theorem args2 {args : List V} {as : Array Value} (hr : RL S w κ args as.toList) (hl : args.length ≤ 2) (h1 : eget (args ++ List.replicate (2 - args.length) V.non) 1 ≠ V.non) :
  ∃ p d pv dv, args = [p, d] ∧ as = #[pv, dv] ∧ RV S w κ p pv ∧ RV S w κ d dv := by
 match args with
 | [] => exact absurd rfl h1
 | [p] => exact absurd rfl h1
 | [p, d] =>
  have hl := qZS hr
  rcases as with ⟨as⟩
  match as with
  | [pv, dv] => simp only [RL] at hr; exact ⟨p, d, pv, dv, rfl, rfl, hr.1, hr.2.1⟩
  | [] => simp at hl
  | [_] => simp at hl
  | _ :: _ :: _ :: _ => simp at hl
 | _ :: _ :: _ :: _ => simp at hl
theorem args1 {args : List V} {as : Array Value} (hr : RL S w κ args as.toList) (hl : args.length ≤ 1) (h1 : eget (args ++ List.replicate (1 - args.length) V.non) 0 ≠ V.non) :
  ∃ p pv, args = [p] ∧ as = #[pv] ∧ RV S w κ p pv := by
 match args with
 | [] => exact absurd rfl h1
 | [p] =>
  have hl := qZS hr
  rcases as with ⟨as⟩
  match as with
  | [pv] => simp only [RL] at hr; exact ⟨p, pv, rfl, rfl, hr.1⟩
  | [] => simp at hl
  | _ :: _ :: _ => simp at hl
 | _ :: _ :: _ => simp at hl
def primAdd (k : IntKind) : Cf := ⟨2, [.tmp 0], .region [⟨some 0, .atadd k (.t 0) (.t 1), none⟩], false⟩
def primStore (k : IntKind) : Cf := ⟨2, [], .region [⟨none, .atst k (.t 0) (.t 1), none⟩], false⟩
def primLoad (k : IntKind) : Cf := ⟨1, [.tmp 0], .region [⟨some 0, .atld k (.t 0), none⟩], false⟩
def primYes : Cf := ⟨1, [.tmp 0], .region [⟨some 0, .atld .u32 (.t 0), none⟩, ⟨some 0, .bin .neq (.t 0) (.c (.int .u32 0)), none⟩], false⟩
def primSlow : Cf := ⟨2, [], .region [⟨none, .onceIn (.t 0) (.t 1), none⟩, ⟨none, .call (.t 1) [], none⟩, ⟨none, .onceOut (.t 0), none⟩], false⟩
theorem primAdd_body {k : IntKind} {f : FuncId} (hm : ∀ (b off : Nat) (m n : Int) (w : World), w.cell? ⟨b, off, none⟩ = some (.int k m) → w.frozen? ⟨b, off, none⟩ = false →
  Calls P f #[.pointer (some ⟨b, off, none⟩), .int k n] w fun e w' => e = .returned (.int k (k.wrap (m + n))) ∧ w' = w.setCell ⟨b, off, none⟩ (.int k (k.wrap (m + n)))) : BodyS G P f (primAdd k) := by
 intro call hcall lf args as x h h' he B S w κ inv hr n
 obtain ⟨hl, s, hs, vs, ht, hv, rfl⟩ := vZV he
 simp only [evOps, evCp, wanted] at hs
 split at hs
 case h_2 => cases hs
 rename_i s' hs'
 cases hs
 split at hs'
 case h_2 => cases hs'
 rename_i z h1 hop
 rw [fS_eq] at hs'
 cases hs'
 simp only [evOp, Od.ev] at hop
 obtain ⟨id, off, m, d, c, e0, e1, hcell, rfl, u, hst⟩ := evAtadd_some hop
 obtain ⟨p, q, pv, dv, rfl, rfl, hp, hq⟩ := args2 hr hl (by rw [e1]; intro e; cases e)
 simp only [eget, List.length_cons, List.length_nil, Nat.sub_self, List.replicate_zero, List.append_nil, List.getD_cons_zero, List.getD_cons_succ] at e0 e1
 subst e0 e1
 simp only [takeMarks, Option.some.injEq] at ht
 subst ht
 simp [evRes, putV, eget] at hv
 subst hv
 have hq' := hq
 simp only [RV] at hq
 subst hq
 obtain ⟨b, κ', hk, rfl, ⟨o, hco⟩, hf, _, inv', st'⟩ := store_ptr inv hp (x := .int k (k.wrap (m + d))) (v := .int k (k.wrap (m + d))) (by simp only [RV]) rfl hst
 obtain ⟨b', o', hb', hcel⟩ := vZF inv hp hcell
 cases hb'
 obtain ⟨v, h2, h3⟩ := hcel 0 _ rfl
 simp only [RV] at h3
 subst h3
 refine callsIn_wide.2 ((hm b off m d w h2 hf).mono fun e w' he' => ?_)
 obtain ⟨rfl, rfl⟩ := he'
 exact ⟨_, S, κ', rfl, inv', st', by simp only [pack, RV]⟩
theorem primStore_body {k : IntKind} {f : FuncId} (hm : ∀ (b off : Nat) (o : Value) (n : Int) (w : World), w.cell? ⟨b, off, none⟩ = some o → w.frozen? ⟨b, off, none⟩ = false →
  Calls P f #[.pointer (some ⟨b, off, none⟩), .int k n] w fun e w' => e = .returned (.tuple #[]) ∧ w' = w.setCell ⟨b, off, none⟩ (.int k n)) : BodyS G P f (primStore k) := by
 intro call hcall lf args as x h h' he B S w κ inv hr n
 obtain ⟨hl, s, hs, vs, ht, hv, rfl⟩ := vZV he
 simp only [evOps, evCp, wanted] at hs
 split at hs
 case h_2 => cases hs
 rename_i s' hs'
 cases hs
 split at hs'
 case h_2 => cases hs'
 rename_i z h1 hop
 rw [fS_eq] at hs'
 cases hs'
 simp only [evOp, Od.ev] at hop
 unfold evAtst at hop
 split at hop
 case h_2 => cases hop
 rename_i id off e0
 split at hop
 case h_2 => cases hop
 rename_i q d e1
 obtain ⟨rfl, hst⟩ := zZN hop
 obtain ⟨p, q', pv, dv, rfl, rfl, hp, hq⟩ := args2 hr hl (by rw [e1]; intro e; cases e)
 simp only [eget, List.length_cons, List.length_nil, Nat.sub_self, List.replicate_zero, List.append_nil, List.getD_cons_zero, List.getD_cons_succ] at e0 e1
 subst e0 e1
 simp only [takeMarks, Option.some.injEq] at ht
 subst ht
 simp [evRes] at hv
 subst hv
 have hq' := hq
 simp only [RV] at hq
 subst hq
 obtain ⟨b, κ', hk, rfl, ⟨o, hco⟩, hf, _, inv', st'⟩ := store_ptr inv hp hq' rfl hst
 refine callsIn_wide.2 ((hm b off o d w hco hf).mono fun e w' he' => ?_)
 obtain ⟨rfl, rfl⟩ := he'
 exact ⟨_, S, κ', rfl, inv', st', by simp [pack, RV, RL]⟩
theorem kZ4 {k : IntKind} {p z : V} {h' : Heap} (hh : evAtld h k p = some (z, h')) : ∃ m c, cellsAt h p = some (.int k m :: c) ∧ z = .int k m ∧ h' = h := by
 unfold evAtld at hh
 split at hh
 case h_2 => cases hh
 rename_i r m c hc
 obtain ⟨rfl, hh⟩ := zZN hh
 simp only [Option.some.injEq, Prod.mk.injEq] at hh
 obtain ⟨rfl, rfl⟩ := hh
 exact ⟨m, c, hc, rfl, rfl⟩
theorem primLoad_body {k : IntKind} {f : FuncId} (hm : ∀ (b off : Nat) (m : Int) (w : World), w.cell? ⟨b, off, none⟩ = some (.int k m) →
  Calls P f #[.pointer (some ⟨b, off, none⟩)] w fun e w' => e = .returned (.int k m) ∧ w' = w) : BodyS G P f (primLoad k) := by
 intro call hcall lf args as x h h' he B S w κ inv hr n
 obtain ⟨hl, s, hs, vs, ht, hv, rfl⟩ := vZV he
 simp only [evOps, evCp, wanted] at hs
 split at hs
 case h_2 => cases hs
 rename_i s' hs'
 cases hs
 split at hs'
 case h_2 => cases hs'
 rename_i z h1 hop
 rw [fS_eq] at hs'
 cases hs'
 simp only [evOp, Od.ev] at hop
 obtain ⟨m, c, hcell, rfl, rfl⟩ := kZ4 hop
 obtain ⟨p, pv, rfl, rfl, hp⟩ := args1 hr hl (by intro e; rw [e] at hcell; cases hcell)
 simp only [takeMarks, Option.some.injEq] at ht
 subst ht
 simp [evRes, putV, eget] at hv
 subst hv
 obtain ⟨b, o, rfl, hcel⟩ := vZF inv hp hcell
 obtain ⟨v, h2, h3⟩ := hcel 0 _ rfl
 simp only [RV] at h3
 subst h3
 refine callsIn_wide.2 ((hm b o m w h2).mono fun e w' he' => ?_)
 obtain ⟨rfl, rfl⟩ := he'
 exact ⟨_, S, κ, rfl, inv, .refl _ _ _ _, by simp only [pack, RV]⟩
theorem primYes_body {f : FuncId} (hm : ∀ (b off : Nat) (m : Int) (w : World), w.cell? ⟨b, off, none⟩ = some (.int .u32 m) →
  Calls P f #[.pointer (some ⟨b, off, none⟩)] w fun e w' => e = .returned (.bool (m != 0)) ∧ w' = w) : BodyS G P f primYes := by
 intro call hcall lf args as x h h' he B S w κ inv hr n
 obtain ⟨hl, s, hs, vs, ht, hv, rfl⟩ := vZV he
 simp only [evOps] at hs
 split at hs
 case h_2 => cases hs
 rename_i s1 hs1
 split at hs
 case h_2 => cases hs
 rename_i s2 hs2
 cases hs
 simp only [evCp, wanted] at hs1
 split at hs1
 case h_2 => cases hs1
 rename_i z h1 hop
 rw [fS_eq] at hs1
 cases hs1
 simp only [evOp, Od.ev] at hop
 obtain ⟨m, c, hcell, rfl, rfl⟩ := kZ4 hop
 obtain ⟨p, pv, rfl, rfl, hp⟩ := args1 hr hl (by intro e; rw [e] at hcell; cases hcell)
 simp [evCp, wanted, evOp, Od.ev, putV, eget, binV, intCmp, okV, fV_eq, fS_eq] at hs2
 subst hs2
 simp only [takeMarks, Option.some.injEq] at ht
 subst ht
 simp [evRes, putV, eget] at hv
 subst hv
 obtain ⟨b, o, rfl, hcel⟩ := vZF inv hp hcell
 obtain ⟨v, h2, h3⟩ := hcel 0 _ rfl
 simp only [RV] at h3
 subst h3
 refine callsIn_wide.2 ((hm b o m w h2).mono fun e w' he' => ?_)
 obtain ⟨rfl, rfl⟩ := he'
 exact ⟨_, S, κ, rfl, inv, .refl _ _ _ _, by simp [pack, RV]⟩
end
open Go.RowKit
section
variable {P : Program} {G : Glob} {B : Base G} {S : Cells} {w : World} {κ : Kap} {h : Heap}
theorem ops_part {call : CallF} (hcall : CallS G P call) {ops : Array Oper} {n : Nat} {Q : Exit → Act → World → Prop} {rest : List Nat} :
  ∀ (is : List Nat) (cps : List Cp), is.map (fun i => (ops[i]?).bind (cOper P ops)) = cps.map some → ∀ {S : Cells} {w : World} {κ : Kap} {s : St} {a : Act} {q : St → Prop}, WO call cps s q → SR P B S w κ s a →
  (∀ s' a' w' S' κ', q s' → SR P B S' w' κ' s' a' → Stp B S w κ S' w' κ' → wpOpsIn (Fr none) n P ops Q rest a' w') → wpOpsIn (Fr none) n P ops Q (is ++ rest) a w
 | [], [], _, S, w, κ, s, a, q, hw, hs, hk => by
  obtain ⟨s', h1, h2⟩ := hw
  simp only [evOps, Option.some.injEq] at h1
  subst h1
  exact hk _ _ _ _ _ h2 hs (.refl _ _ _ _)
 | [], _ :: _, hm, _, _, _, _, _, _, _, _, _ => by simp at hm
 | _ :: _, [], hm, _, _, _, _, _, _, _, _, _ => by simp at hm
 | i :: is, c :: cps, hm, S, w, κ, s, a, q, hw, hs, hk => by
  simp only [List.map_cons, List.cons.injEq, Option.bind_eq_some_iff] at hm
  obtain ⟨⟨o, ho, hc⟩, hm⟩ := hm
  obtain ⟨s', h1, h2⟩ := hw
  simp only [evOps] at h1
  split at h1
  case h_2 => cases h1
  rename_i s1 hs1
  rw [List.cons_append, wpOpsIn_cons]
  refine wpOpIn_step ho (fun K' hK' => kZM hcall hc hs1 hs (fun a' w' S' κ' hs' st => hK' _ _ ?_))
  exact ops_part hcall is cps hm ⟨s', h1, h2⟩ hs' (fun s2 a2 w2 S2 κ2 q2 r2 st2 => hk s2 a2 w2 S2 κ2 q2 r2 (st.trans st2))
theorem op_hand {ops : Array Oper} {n : Nat} {Q : Exit → Act → World → Prop} {rest : List Nat} {i : Nat} {o : Oper} (ho : ops[i]? = some o) (hg : o.guard = none) (hnd : ∀ c, o.op ≠ .defer c)
  {a : Act} {w w' : World} {v : Value} (hrun : (execOp a.eval o).run P w = .ok (.value v) w') (hk : wpOpsIn (Fr none) n P ops Q rest (a.put o.dst v) w') : wpOpsIn (Fr none) n P ops Q (i :: rest) a w := by
 rw [wpOpsIn_cons]
 refine wpOpIn_step ho (fun K' hK' => ?_)
 have : Region.wanted o (yielded ops a.tmps) = true := by
  unfold Region.wanted
  rw [hg]
 rw [if_pos this]
 refine ⟨fun f _ => trivial, ?_⟩
 rw [Oper.semAt_eq _ _ _ hnd, hrun]
 exact hK' _ _ hk
theorem fin_ret {F : Fence} {n : Nat} {fn : Func} {R : Ending → World → Prop} {s : St} {a : Act} (hs : SR P B S w κ s a) (hm : s.marks = []) {cr : List Rv} (hc : fn.results.toList.mapM (cRes P) = some cr)
  {vs : List V} (he : evRes s.env s.heap cr = some vs) (hR : ∀ v, RV S w κ (pack vs) v → R (.returned v) w) : bodyPostM F n P fn R .ret a w := by
 have hk := hs.mks
 rw [hm] at hk
 have hd : a.defers = [] := by
  cases hd : a.defers with
  | nil => rfl
  | cons d ds => rw [hd] at hk; exact hk.elim
 show LeavesInM F n P fn a.tmps R a.defers .returning w
 rw [hd]
 obtain ⟨v, h1, h2⟩ := xZp hs.inv hs.env hc he rfl
 exact ⟨v, h1, hR v h2⟩
theorem RL_of {xs : List V} {vs : List Value} (hl : xs.length = vs.length) (hh : ∀ (i : Nat) (x : V) (v : Value), xs[i]? = some x → vs[i]? = some v → RV S w κ x v) : RL S w κ xs vs := by
 induction xs generalizing vs with
 | nil => cases vs with
  | nil => simp [RL]
  | cons v vs => simp at hl
 | cons x xs ih =>
  cases vs with
  | nil => simp at hl
  | cons v vs =>
   simp only [RL]
   exact ⟨hh 0 x v rfl rfl, ih (by simpa using hl) (fun i y u hy hu => hh (i + 1) y u (by simpa using hy) (by simpa using hu))⟩
theorem RV_scal {κ' : Kap} {x : V} {v : Value} (hx : scal x = true) (h : RV S w κ x v) : RV S w κ' x v := by
 cases x <;> simp [scal] at hx <;> simpa [RV] using h
theorem RL_scal {κ' : Kap} : ∀ {xs : List V} {vs : List Value}, xs.all scal = true → RL S w κ xs vs → RL S w κ' xs vs
 | [], [], _, _ => by simp [RL]
 | [], _ :: _, _, h => by simp [RL] at h
 | _ :: _, [], _, h => by simp [RL] at h
 | x :: xs, v :: vs, hx, h => by
  simp only [List.all_cons, Bool.and_eq_true] at hx
  simp only [RL] at h ⊢
  exact ⟨RV_scal hx.1 h.1, RL_scal hx.2 h.2⟩
theorem Inv.still (inv : Inv P B S w κ h) {id sz : Nat} {xs : List (List V)} {ep : Nat} {wr : Bool} (hi : h[id]? = some (.row sz xs ep wr)) : Inv P B S w κ (h.set id (.row sz xs ep false)) := by
 have hlt : id < h.length := (List.getElem?_eq_some_iff.1 hi).1
 refine ⟨fun i o ho => ?_, inv.dis, fun i k hk => by rw [List.length_set]; exact inv.dom i k hk, inv.sb, inv.bw, inv.gl⟩
 by_cases e : i = id
 ·subst e
  rw [List.getElem?_set_self hlt] at ho
  cases ho
  obtain ⟨b, st, cp, c, el, fr, g1, g2, g3, g4, g5, g6, g7, g8, g9, g10, g11⟩ := vZk inv hi
  exact ⟨b, st, cp, c, el, fr, g1, g2, g3, g4, g5, g6, g7, g8, g9, g10, fun h => by cases h⟩
 ·rw [List.getElem?_set_ne (Ne.symm e)] at ho
  exact inv.obs i o ho
theorem Inv.bump (inv : Inv P B S w κ h) {id sz : Nat} {xs : List (List V)} {ep : Nat} {wr : Bool} (hi : h[id]? = some (.row sz xs ep wr)) {b st cp : Nat} (hk : κ id = some (.row ep b st cp sz)) :
  Inv P B S w (upd κ id (.row (ep + 1) b st cp sz)) (h.set id (.row sz xs (ep + 1) wr)) ∧ Stp B S w κ S w (upd κ id (.row (ep + 1) b st cp sz)) := by
 obtain ⟨b', st', cp', c, el, fr, g1, g2, g3, g4, g5, g6, g7, g8, g9, g10, g11⟩ := vZk inv hi
 rw [hk] at g1
 cases g1
 have hW := Inv.write inv hk (.cells c el fr) (.row (ep + 1) b st cp sz) (.later _ _ _ _ _ _ _ _ _ (by omega)) rfl (.row sz xs (ep + 1) wr) (fun o _ => by
   show (World.withBlock w b (.cells c el fr)).cell? ⟨b, o, none⟩ = w.cell? ⟨b, o, none⟩
   rw [vZS w b _ g2]) (fun sle kle => ⟨b, st, cp, c, el, fr, qZo _ _ _, qZH _ _ _ (Array.getElem?_eq_some_iff.1 g2).1, g3, g4, g5, g6, g7, g8, fun i e hi he => RL.mono sle kle _ _ (g9 i e hi he), g10, g11⟩)
 have e : World.withBlock w (Ko.block (.row ep b st cp sz)) (.cells c el fr) = w := vZS w b _ g2
 rw [e] at hW
 exact hW
theorem sl_sound (inv : Inv P B S w κ h) {id sz off len : Nat} {xs : List (List V)} {ep : Nat} {wr : Bool} (hi : h[id]? = some (.row sz xs ep wr)) {u : Value} (hx : RV S w κ (.sl id ep off len) u) :
  ∃ b st cp a, κ id = some (.row ep b st cp sz) ∧ u = .slice (some a) len (st + cp - off) ∧ st ≤ off ∧ off + len ≤ st + cp ∧ (st + cp - off = 0 ∨ a = ⟨b, (off - st) * sz, none⟩) := by
 obtain ⟨b, st, cp, c, el, fr, g1, g2, g3, g4, g5, g6, g7, g8, g9, g10, g11⟩ := vZk inv hi
 simp only [RV] at hx
 obtain ⟨e', b', st', cp', sz', a, cc, k1, k2, rfl, kl, k3⟩ := hx
 rw [g1] at k1; cases k1
 obtain ⟨k4, k5, k6, k7⟩ := k3 rfl
 subst k6
 exact ⟨b, st, cp, a, g1, rfl, k4, k5, k7⟩
theorem cap_run {t e T : TypeId} (ht : P.underlying t = some (.slice e)) {a : Option Addr} {n c : Nat} : (Builtin.cap_ #[t] T #[.slice a n c]).run P w = .ok (.int .i64 c) w := by
 simp [Builtin.cap_, run_underlying ht, goInt]
theorem zapp_grows {t u T e : TypeId} {q : Nat × Nat × List V} (ht : P.underlying t = some (.slice e)) {ik : IntKind} (hu : P.underlying u = some (.int ik)) (hq : elemT P e = some q)
  {base : Option Addr} {sLen sCap k : Nat} {os : List Value} (ho : (Builtin.firstCells q.1 sLen (.slice base sLen sCap)).run P w.drew = .ok os.toArray w.drew)
  (hle : sLen ≤ sCap) (hc : ¬ sLen + k ≤ sCap) (hroom : (sLen + k) * q.2.1 ≤ roomB) :
  ∃ cap c zs, sLen + k ≤ cap ∧ RL S w κ q.2.2 zs ∧ c.toList = os ++ (List.replicate (cap - sLen) zs).flatten ∧
  (Builtin.append_ #[t, u] T #[.slice base sLen sCap, .int .i64 k]).run P w = .ok (.slice (some ⟨w.heap.size, 0, none⟩) (sLen + k) cap) (w.drew.alloc (.cells c e)) := by
 obtain ⟨i, zv, z0, hi, hv, hz, rfl, n1, n2, n3, r1, r2, r3⟩ := vZl hq
 obtain ⟨hrz, hcz⟩ := vZi (S := S) (w := w) (κ := κ) hz
 simp only at hroom ho
 have hfit := growslice_fits (need := sLen + k) (old := sCap) (bytes := i.bytes) (by omega) hroom
 let cap := (Question.appendCap (sLen + k) sCap e).cut (w.tape w.drawn (.appendCap (sLen + k) sCap e))
 have hcap : sLen + k ≤ cap := by simp only [cap, Question.cut]; omega
 have hroom' : (sLen + k) * i.bytes ≤ 140737488355328 := hroom
 have hk1 : k ≤ 140737488355328 := by
  have h1 : k * 1 ≤ (sLen + k) * i.bytes := Nat.mul_le_mul (by omega) (by omega)
  omega
 have hk2 : k * i.bytes ≤ 140737488355328 := Nat.le_trans (Nat.mul_le_mul_right _ (by omega)) hroom'
 have hwr : IntKind.i64.wrap (k : Int) = k := by
  simp only [IntKind.wrap, IntKind.bits, IntKind.signed, Bool.true_and, decide_eq_true_eq, ge_iff_le]
  split <;> omega
 have hk3 : ((k : Int) * (i.bytes : Int)) ≤ 140737488355328 := by
  rw [← Int.natCast_mul]
  omega
 have h0 : ¬ k * i.size = 0 := by
  intro h
  rcases Nat.mul_eq_zero.1 h with h | h
  ·subst h; exact hc (by simpa using hle)
  ·exact n1 h
 refine ⟨cap, os.toArray ++ Builtin.zeroCells zv.cells k ++ Builtin.zeroCells zv.cells (cap - (sLen + k)), zv.cells.toList, hcap, hrz, ?_, ?_⟩
 ·simp only [Array.toList_append, kZp _ _ _ n3 n1]
  rw [List.append_assoc, ← List.flatten_append, List.replicate_append_replicate]
  congr 4
  omega
 ·simp only [Builtin.append_, List.getElem?_toArray, List.getElem?_cons_zero, List.getElem?_cons_succ, Sem.run_bind, run_underlying ht, run_underlying hu, Result.andThen_ok, r2]
  simp only [Sem.run_bind, run_underlying hu, Result.andThen_ok, Sem.run_pure, if_true, asInt, asIntOf, hwr, r3]
  rw [if_neg (by omega)]
  simp only [Sem.run_bind, Sem.run_pure, Result.andThen_ok, r3]
  rw [if_neg (by
   have : (2 : Int) ^ 48 = 281474976710656 := by decide
   omega)]
  simp only [Sem.run_bind, Sem.run_pure, Result.andThen_ok, Int.toNat_natCast, if_neg hc, r3]
  rw [if_neg (by
   rintro ⟨h2, _⟩
   have : IntKind.i64.max = 9223372036854775807 := by decide
   have h1 : (sLen + k) * 1 ≤ (sLen + k) * i.bytes := Nat.mul_le_mul_left _ (by omega)
   omega)]
  simp only [Sem.run_bind, Sem.run_pure, Result.andThen_ok, r3]
  rw [if_neg (by
   have : (2 : Nat) ^ 48 = 281474976710656 := by decide
   omega)]
  simp only [Sem.run_bind, Sem.run_pure, Result.andThen_ok, r3, run_choose, Question.forced, Bool.false_eq_true, if_false, run_askRoom]
  have ho1 : (Builtin.firstCells i.size sLen (.slice base sLen sCap)).run P { w with drawn := w.drawn + 1 } = .ok os.toArray { w with drawn := w.drawn + 1 } := ho
  rw [ho1]
  simp only [Result.andThen_ok, Bool.not_true, Bool.false_eq_true, if_false, if_neg h0, Sem.run_bind, r1, Sem.run_pure, newRow, run_newObj]
  rfl
theorem elems_len {x : V} {es : List (List V)} {m : Nat} (he : elemsOf h x = some es) (hm : lenV .l h x = some m) : es.length = m := by
 cases x <;> simp only [lenV, Option.some.injEq, reduceCtorEq] at hm
 case nils => simp only [elemsOf, Option.some.injEq] at he; subst he; exact hm
 case nile => simp only [elemsOf, Option.some.injEq] at he; subst he; exact hm
 case arr => simp only [elemsOf, Option.some.injEq] at he; subst he; exact hm
 case sl =>
  simp only [elemsOf] at he
  split at he
  ·obtain ⟨hc, rfl⟩ := qZR he
   simp; omega
  ·cases he
theorem evIns_some {sz by_ : Nat} {s i x z : V} {h' : Heap} (hh : evIns h sz by_ s i x = some (z, h')) : ∃ (n : Int) (l : Nat), i = .int .i64 n ∧ lenV .l h s = some l ∧
    ((n = l ∧ (∃ m, lenV .l h x = some (m + 1)) ∧ evApp h sz by_ s x = some (z, h')) ∨
     (n ≠ l ∧ ∃ id ep off len xs jd cj oj ys zj wj e, s = .sl id ep off len ∧ h[id]? = some (.row sz xs ep true) ∧ x = .sl jd cj oj 1 ∧ h[jd]? = some (.row zj ys cj wj) ∧ ys[oj]? = some e ∧
       0 ≤ n ∧ n < len ∧ off + len ≤ xs.length ∧ (len + 1) * by_ ≤ roomB ∧ e.length = sz ∧ jd ≠ id ∧ (∀ e ∈ xs, e.all scal = true) ∧ (∀ e ∈ ys, e.all scal = true) ∧
       z = .sl id (ep + 1) off (len + 1) ∧ h' = (h.set jd (.row zj ys cj false)).set id (.row sz (xs.take (off + n.toNat) ++ [e] ++ (xs.drop (off + n.toNat)).take (len - n.toNat)) (ep + 1) true))) := by
  unfold evIns at hh
  split at hh
  case h_2 => cases hh
  rename_i n
  split at hh
  case h_2 => cases hh
  rename_i l hl
  refine ⟨n, l, rfl, hl, ?_⟩
  split at hh
  · rename_i hn
    split at hh
    · rename_i m hm
      exact .inl ⟨hn, ⟨m, hm⟩, hh⟩
    · cases hh
  · rename_i hn
    right
    refine ⟨hn, ?_⟩
    split at hh
    case h_2 => cases hh
    rename_i id ep off len
    split at hh
    case h_2 => cases hh
    rename_i zz xs cur hi
    split at hh
    case h_2 => cases hh
    rename_i jd ej oj
    split at hh
    case h_2 => cases hh
    rename_i zj ys cj wj hj
    split at hh
    case h_2 => cases hh
    rename_i e he
    obtain ⟨⟨⟨c1, c2, c3, c4, c5, c6⟩, c7, c8, c9, c10, c11⟩, hh2⟩ := zZN hh
    clear hh
    subst c3; subst c4; subst c9
    simp only [qZW, Option.some.injEq, Prod.mk.injEq] at hh2
    obtain ⟨rfl, rfl⟩ := hh2
    simp only [List.all_eq_true] at c10 c11
    exact ⟨id, ep, off, len, xs, jd, ej, oj, ys, zj, wj, e, rfl, hi, rfl, hj, he, c1, c2, c5, c6, c7, c8, fun e he => List.all_eq_true.2 (c10 e he), fun e he => List.all_eq_true.2 (c11 e he), rfl, rfl⟩
theorem args3 {args : List V} {us : Array Value} (hr : RL S w κ args us.toList) (hl : args.length ≤ 3) (h1 : eget (args ++ List.replicate (3 - args.length) V.non) 2 ≠ V.non) :
  ∃ p d r pv dv rv, args = [p, d, r] ∧ us = #[pv, dv, rv] ∧ RV S w κ p pv ∧ RV S w κ d dv ∧ RV S w κ r rv := by
 match args with
 | [] => exact absurd rfl h1
 | [p] => exact absurd rfl h1
 | [p, d] => exact absurd rfl h1
 | [p, d, r] =>
  have hl := qZS hr
  rcases us with ⟨us⟩
  match us with
  | [pv, dv, rv] => simp only [RL] at hr; exact ⟨p, d, r, pv, dv, rv, rfl, rfl, hr.1, hr.2.1, hr.2.2.1⟩
  | [] => simp at hl
  | [_] => simp at hl
  | [_, _] => simp at hl
  | _ :: _ :: _ :: _ :: _ => simp at hl
 | _ :: _ :: _ :: _ :: _ => simp at hl
theorem prim3 {call : CallF} {lf : Nat} {op : Cop} {args : List V} {us : Array Value} {x : V} {h' : Heap} (hr : RL S w κ args us.toList) (hn : ∀ f as, op ≠ .call f as)
  (h1 : evOp (args ++ List.replicate (3 - args.length) V.non) h op = none ∨ eget (args ++ List.replicate (3 - args.length) V.non) 2 ≠ V.non)
  (he : evBody call lf ⟨3, [.tmp 0], .region [⟨some 0, op, none⟩], false⟩ args h = some (x, h')) :
  ∃ p d r pv dv rv, args = [p, d, r] ∧ us = #[pv, dv, rv] ∧ RV S w κ p pv ∧ RV S w κ d dv ∧ RV S w κ r rv ∧ evOp [p, d, r] h op = some (x, h') := by
 obtain ⟨hl, s, hs, vs, ht, hv, rfl⟩ := vZV he
 simp only [evOps] at hs
 split at hs
 case h_2 => cases hs
 rename_i s1 hs'
 simp only [Option.some.injEq] at hs
 subst hs
 have key : (match evOp (args ++ List.replicate (3 - args.length) V.non) h op with
   | some (v, h) => fS (putV (args ++ List.replicate (3 - args.length) V.non) (some 0) v) fun env => some ({ env, marks := [], heap := h } : St)
   | none => none) = some s1 := by
  simp only [evCp, wanted] at hs'
  cases op <;> first | exact absurd rfl (hn _ _) | exact hs'
 split at key
 case h_2 => cases key
 rename_i z h2 hop
 rcases h1 with h1 | h1
 ·rw [h1] at hop; cases hop
 obtain ⟨p, d, r, pv, dv, rv, rfl, rfl, hp, hq, hz⟩ := args3 hr hl h1
 rw [fS_eq] at key
 cases key
 simp only [takeMarks, Option.some.injEq] at ht
 subst ht
 simp [evRes, putV, eget] at hv
 subst hv
 exact ⟨p, d, r, pv, dv, rv, rfl, rfl, hp, hq, hz, by simpa [pack] using hop⟩
theorem draw_part (hP : P.follows .mixedOrders = true) {call : CallF} (hcall : CallS G P call) {id : Nat} {ops : Array Oper} {n : Nat} {Q : Exit → Act → World → Prop} (cps : List Cp) (hm : ops.toList.mapM (cOper P ops) = some cps)
  (l : List Nat) (ho : order cps.length (ops.toList.map afterL) (flOf ops cps) cps.length (List.replicate cps.length false) = some l) {cps' : List Cp} (h2 : l.filterMap (cps[·]?) = cps')
  {s : St} {a : Act} {q : St → Prop} (hw : WO call cps' s q) (hs : SR P B S w κ s a)
  (hk : ∀ s' a' w' S' κ', q s' → SR P B S' w' κ' s' a' → Stp B S w κ S' w' κ' → Q .normal a' w') (hfl : floats cps = false := by rfl) : (Code.region id ops true).wpIn (Fr none) n P Q a w := by
 have hc : cCode P (.region id ops true) = some (.draw cps (ops.toList.map afterL) (flOf ops cps)) := by simp [cCode, hm, hfl]
 have hW : WC call none (.draw cps (ops.toList.map afterL) (flOf ops cps)) s (fun e s' => e = .normal ∧ q s') := by
  rw [rDraw ho h2]
  obtain ⟨s', h3, h4⟩ := hw
  exact ⟨s', h3, rfl, h4⟩
 obtain ⟨e, s', h3, rfl, h4⟩ := hW
 exact wZ3 hP hcall 0 _ _ hc none none s .normal s' h3 n hs trivial Q (fun a' w' S' κ' h5 h6 => hk s' a' w' S' κ' h4 h5 h6)
theorem Inv.cut (inv : Inv P B S w κ h) {id sz : Nat} {xs : List (List V)} {ep : Nat} (hi : h[id]? = some (.row sz xs ep true)) {b st cp : Nat} (hk : κ id = some (.row ep b st cp sz)) {k : Nat} (hst : st ≤ k) (hkl : k ≤ xs.length) :
  Inv P B S w κ (h.set id (.row sz (xs.take k) ep true)) := by
 have hlt : id < h.length := (List.getElem?_eq_some_iff.1 hi).1
 refine ⟨fun i o ho => ?_, inv.dis, fun i k hk => by rw [List.length_set]; exact inv.dom i k hk, inv.sb, inv.bw, inv.gl⟩
 by_cases e : i = id
 ·subst e
  rw [List.getElem?_set_self hlt] at ho
  cases ho
  obtain ⟨b', st', cp', c, el, fr, g1, g2, g3, g4, g5, g6, g7, g8, g9, g10, g11⟩ := vZk inv hi
  rw [hk] at g1; cases g1
  refine ⟨b, st, cp, c, el, fr, hk, g2, g3, g4, g5, by simp; omega, by simp; omega, fun e he => g8 e (List.mem_of_mem_take he), fun j e hj he => ?_, fun o _ => g11 rfl o, g11⟩
  rw [List.getElem?_take] at he
  split at he
  ·exact g9 j e hj he
  ·cases he
 ·rw [List.getElem?_set_ne (Ne.symm e)] at ho
  exact inv.obs i o ho
theorem rebase {S3 : Cells} {w3 : World} {κ3 : Kap} (inv : Inv P B S w κ h) {id sz : Nat} {xs : List (List V)} {cur : Nat} {wr : Bool} (hi : h[id]? = some (.row sz xs cur wr))
  {ys zs : List (List V)} (inv3 : Inv P (⟨w.heap.size, Nat.le_trans B.le inv.bw⟩ : Base G) S3 w3 κ3 [.row sz ys 0 true]) (st3 : Stp (⟨w.heap.size, Nat.le_trans B.le inv.bw⟩ : Base G) S w noK S3 w3 κ3) (hys : ∀ e ∈ ys, e.all scal = true) (hzs : ∀ e ∈ zs, e.length = sz ∧ e.all V.isCell = true) {len : Nat} {v : Value}
  (hv : RV S3 w3 κ3 (.sl 0 0 0 len) v) (hlen : len = ys.length) (hpos : 0 < len) :
  ∃ κ', Inv P B S3 w3 κ' (h.set id (.row sz (zs ++ ys) (cur + 1) true)) ∧ Stp B S w κ S3 w3 κ' ∧ RV S3 w3 κ' (.sl id (cur + 1) zs.length len) v := by
 obtain ⟨b0, st0, cp0, _, _, _, g1, _⟩ := vZk inv hi
 obtain ⟨b, st, cp, a, k1, rfl, k2, k3, k4⟩ := sl_sound inv3 (id := 0) rfl hv
 obtain ⟨b', st', cp', c, el, fr, f1, f2, f3, f4, f5, f6, f7, f8, f9, f10, f11⟩ := vZk inv3 (id := 0) rfl
 rw [k1] at f1; cases f1
 obtain rfl : st = 0 := by omega
 have hbB := (inv3.dom _ _ k1).2.1
 have hbw := (inv3.dom _ _ k1).2.2
 simp only [Ko.block] at hbB hbw
 have hlt : id < h.length := (List.getElem?_eq_some_iff.1 hi).1
 have hkle : Kle κ (upd κ id (.row (cur + 1) b zs.length cp sz)) := kle_upd (fun k0 h0 => by rw [g1] at h0; cases h0; exact .later _ _ _ _ _ _ _ _ _ (by omega))
 have hgrow : w.heap.size ≤ w3.heap.size := st3.below.size
 have hsame : ∀ b, b < w.heap.size → w3.heap[b]? = w.heap[b]? := fun b hb => st3.below.block b hb
 refine ⟨upd κ id (.row (cur + 1) b zs.length cp sz), ⟨fun i o ho => ?_, fun i j k k' hk hk' hbl => ?_, fun i k hk => ?_, inv3.sb, by have := inv.bw; omega, inv3.gl⟩, ⟨st3.below.mono inv.bw, st3.sle, hkle, fun b o h => ?_⟩, ?_⟩
 ·by_cases e : i = id
  ·subst e
   rw [List.getElem?_set_self hlt] at ho
   cases ho
   refine ⟨b, zs.length, cp, c, el, fr, qZo _ _ _, f2, f3, f4, f5, by simp, by simp; omega, fun e he => ?_, fun j e hj he => ?_, fun o _ => f11 rfl o, f11⟩
   ·rcases List.mem_append.1 he with he | he
    ·exact hzs e he
    ·exact f8 e he
   ·rw [List.getElem?_append_right hj] at he
    have := f9 (j - zs.length) e (by omega) he
    rw [Nat.sub_zero] at this
    exact RL_scal (hys e (List.mem_of_getElem? he)) this
  ·rw [List.getElem?_set_ne (Ne.symm e)] at ho
   refine OI.mono st3.sle hkle st3.new (fun k hk => ?_) (fun ha => (vZz _ _ _ _ e).trans ha) (inv.obs i o ho)
   have := (inv.dom _ _ hk).2.2
   exact ⟨by rw [vZz _ _ _ _ e]; exact hk, hsame _ this, this⟩
 ·by_cases e : i = id
  ·by_cases e' : j = id
   ·rw [e, e']
   ·subst e
    rw [qZo] at hk
    rw [vZz _ _ _ _ e'] at hk'
    cases hk
    have := (inv.dom _ _ hk').2.2
    change b = Ko.block _ at hbl
    omega
  ·by_cases e' : j = id
   ·subst e'
    rw [qZo] at hk'
    rw [vZz _ _ _ _ e] at hk
    cases hk'
    have := (inv.dom _ _ hk).2.2
    change Ko.block _ = b at hbl
    omega
   ·rw [vZz _ _ _ _ e] at hk
    rw [vZz _ _ _ _ e'] at hk'
    exact inv.dis _ _ _ _ hk hk' hbl
 ·rw [List.length_set]
  by_cases e : i = id
  ·subst e
   rw [qZo] at hk
   cases hk
   refine ⟨hlt, ?_, hbw⟩
   have := inv.bw
   simp only [Ko.block]
   omega
  ·rw [vZz _ _ _ _ e] at hk
   have := inv.dom _ _ hk
   exact ⟨this.1, this.2.1, by omega⟩
 ·rcases st3.new b o h with h | h
  ·exact .inl h
  ·exact .inr (Nat.le_trans inv.bw h)
 ·simp only [RV]
  refine ⟨cur + 1, b, zs.length, cp, sz, a, cp, qZo _ _ _, Nat.le_refl _, by simp, by omega, fun _ => ⟨Nat.le_refl _, by omega, by omega, ?_⟩⟩
  rcases k4 with k4 | rfl
  ·omega
  ·right; simp
end
end Go.Ev
