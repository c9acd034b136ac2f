/- slices.Clone, told of by hand: what is empty, and may be nil, has no room behind it. Functions of Go's library that are told of by hand: what their contracts say. No conditions. -/
import Derived.Test.YtcfgiajpbjbdpaaGreatDoorEwO
import Derived.Test.YtcfgiajpbjbdpaaGreatDoorEwK
import Derived.Lib.AppendIntMem
import Derived.Lib.AtoiErrMem
set_option maxHeartbeats 16000000
set_option maxRecDepth 100000
set_option linter.unusedVariables false
set_option linter.unusedSimpArgs false
set_option linter.unusedSectionVars false
namespace Go.Ev
open Go.RowKit
section
variable {P : Program} {G : Glob} {B : Base G} {S : Cells} {w : World} {κ : Kap} {h : Heap}
theorem Inv.junk (inv : Inv P B S w κ h) (obj : Obj) : Inv P B S (w.alloc obj) κ h ∧ Stp B S w κ S (w.alloc obj) κ := by
 have sle : Sle S w S (w.alloc obj) := ⟨fun _ _ x => x, fun b o x => vZM o (Below.heap_alloc _ _ _ (inv.sb b o x))⟩
 refine ⟨⟨fun i o hi => OI.mono sle (.refl _) (fun _ _ x => .inl x) (fun a ha => ?_) (inv.obs i o hi), inv.dis, fun i a ha => ?_, fun b o x => ?_, ?_, inv.gl.below (B := B) ((Below.refl _ _).alloc inv.bw _)⟩, (Below.refl _ _).alloc inv.bw _, sle, .refl _, fun _ _ x => .inl x⟩
 ·have := (inv.dom _ _ ha).2.2
  exact ⟨ha, Below.heap_alloc _ _ _ this, this⟩
 ·rw [vZx]
  have := inv.dom i a ha
  omega
 ·rw [vZx]; have := inv.sb b o x; omega
 ·rw [vZx]; have := inv.bw; omega
def primClone (sz by_ : Nat) : Cf := ⟨1, [.tmp 0], .region [⟨some 0, .cln sz by_ (.t 0), none⟩], false⟩
def cloneCf (zero : List V) (sz by_ : Nat) : Cf := ⟨8, [.tmp 2], (.seq (.region [⟨some 2, .mov (.c .nils), none⟩]) (.seq (.seq (.region [⟨some 3, .mov (.t 0), none⟩, ⟨some 4, .eqn .l false (.t 3) (.c .nils), none⟩]) (.cond (.t 4) (.seq (.region [⟨some 2, .mov (.c .nils), none⟩]) .ret) .skip)) (.seq (.region [⟨some 5, .bslice zero 0 sz [], none⟩, ⟨some 6, .mov (.t 0), none⟩, ⟨some 7, .app sz by_ (.t 5) (.t 6), none⟩, ⟨some 2, .mov (.t 7), none⟩]) .ret))), false⟩
theorem wZP {x : V} (he : elemsOf h x = some []) (hs : ∀ s, x ≠ .str s) : lenV .l h x = some 0 := by
 cases x <;> simp only [elemsOf, reduceCtorEq] at he
 case nils => rfl
 case nile => rfl
 case arr xs => simp only [Option.some.injEq] at he; subst he; rfl
 case str s => exact absurd rfl (hs s)
 case sl id ep off len =>
  split at he
  ·obtain ⟨hc, he⟩ := zZL he
   simp only [Option.some.injEq] at he
   have := congrArg List.length he
   simp at this
   simp only [lenV, Option.some.injEq]
   omega
  ·cases he
theorem clone_more {call : CallF} {lf : Nat} {zero : List V} {sz by_ : Nat} {x z : V} {h' : Heap} {e : List V} {es : List (List V)} (he : elemsOf h x = some (e :: es)) (hh : evCln h sz by_ x = some (z, h')) : evBody call lf (cloneCf zero sz by_) [x] h = some (z, h') := by
 have hns : ∀ s, x ≠ .str s := by rintro s rfl; unfold evCln at hh; rw [he] at hh; cases hh
 unfold evCln at hh
 rw [he] at hh
 have hh2 : (if (e :: es).length * by_ ≤ roomB ∧ szOk sz (e :: es) then fNat (e :: es).length fun n => newOb h (.sl h.length 1 0 n) (.row sz (e :: es) 1 true) else none) = some (z, h') := by
  cases x <;> first | exact absurd rfl (hns _) | exact hh
 obtain ⟨⟨h1, h2⟩, h3⟩ := zZL hh2
 simp only [qZ0, qZ5, Option.some.injEq, Prod.mk.injEq] at h3
 obtain ⟨rfl, rfl⟩ := h3
 have hn : nilOf .l x = some false := by
  cases x <;> simp only [elemsOf, reduceCtorEq, Option.some.injEq] at he
  case arr xs => subst he; rfl
  case str s => exact absurd rfl (hns s)
  case sl => rfl
  all_goals cases he
 have hq : eqnV .l x .nils = some false := by unfold eqnV; rw [hn]; rfl
 have hpush : elemsOf (h ++ [Ob.row sz [] 0 true]) x = some (e :: es) := by
  cases x <;> simp only [elemsOf, reduceCtorEq] at he ⊢
  case arr => exact he
  case str => exact he
  case nils => cases he
  case nile => cases he
  case sl id ep off len =>
   cases hi : h[id]? with
   | none => rw [hi] at he; cases he
   | some o => rw [List.getElem?_append_left (List.getElem?_eq_some_iff.1 hi).1, hi]; rw [hi] at he; exact he
 have happ : evApp (h ++ [Ob.row sz [] 0 true]) sz by_ (.sl h.length 0 0 0) x = some (.sl h.length 1 0 (e :: es).length, h ++ [.row sz (e :: es) 1 true]) := by
  have hr : (h ++ [Ob.row sz [] 0 true])[h.length]? = some (.row sz [] 0 true) := by simp
  have hset : (h ++ [Ob.row sz [] 0 true]).set h.length (.row sz (e :: es) 1 true) = h ++ [.row sz (e :: es) 1 true] := by simp [List.set_append]
  simp only [evApp, hpush, hr, Nat.zero_add, h1, h2, and_self, if_true, List.length_nil, qZ0, qZX, List.nil_append, hset]
 have hbs : evBslice h zero 0 sz [] = some (.sl h.length 0 0 0, h ++ [Ob.row sz [] 0 true]) := by simp [evBslice, placeParts, chunks, qZ5]
 have hev : evEqn h .l false x .nils = some (.bool false, h) := by simp [evEqn, hq, okV, fV_eq]
 simp [evBody, cloneCf, evCode, evOps, evCp, wanted, evOp, hev, hbs, happ, eget, putV, evRes, takeMarks, Od.ev, fS_eq]
theorem clone_nils {call : CallF} {lf : Nat} {zero : List V} {sz by_ : Nat} : evBody call lf (cloneCf zero sz by_) [.nils] h = some (.nils, h) := by
 have hev : evEqn h .l false .nils .nils = some (.bool true, h) := rfl
 simp [evBody, cloneCf, evCode, evOps, evCp, wanted, evOp, hev, eget, putV, evRes, takeMarks, Od.ev, fS_eq]
theorem clone_body (hP : P.follows .mixedOrders = true) {f : FuncId} {fn : Func} {zero : List V} {sz by_ : Nat} (hf : P.funcs[f]? = some fn) (hc : cFunc P false fn = some (cloneCf zero sz by_))
  (hm : ∀ (a : Option Addr) (cap : Nat) (w : World), Calls P f #[.slice a 0 cap] w fun e w' => ∃ b, e = .returned (.slice b 0 0) ∧ (w' = w ∨ ∃ obj, w' = w.alloc obj)) : BodyS G P f (primClone sz by_) := by
 intro call hcall lf args as x h h' he B S w κ inv hr n
 have he0 := he
 obtain ⟨hl, s, hs, vs, ht, hv, rfl⟩ := vZD he
 simp only [evOps, evCp, wanted] at hs
 split at hs
 case h_2 => cases hs
 rename_i s' hs'
 cases hs
 split at hs'
 case h_2 => cases hs'
 rename_i z h1 hop
 rw [fS_eq] at hs'
 cases hs'
 simp only [evOp, Od.ev] at hop
 obtain ⟨p, pv, rfl, rfl, hp⟩ := args1 hr hl (by intro e; rw [e] at hop; simp [evCln, elemsOf] at hop)
 have e0 : eget ([p] ++ List.replicate (1 - [p].length) V.non) 0 = p := rfl
 rw [e0] at hop
 simp only [takeMarks, Option.some.injEq] at ht
 subst ht
 simp [evRes, putV, eget] at hv
 subst hv
 simp only [pack]
 have hop0 := hop
 unfold evCln at hop
 split at hop
 ·cases hop
 ·rename_i he1
  have rest : (∀ s, p ≠ .str s) → z = .nile → h1 = h → CallsIn Fence.wide n P f #[pv] w (Ends P B S w κ z h1) := by
   intro hns hz hh1
   subst hz hh1
   obtain ⟨a, cap, rfl⟩ := kZT hp (wZP he1 hns)
   refine callsIn_wide.2 ((hm a cap w).mono fun e w' he' => ?_)
   obtain ⟨b, rfl, hw⟩ := he'
   rcases hw with rfl | ⟨obj, rfl⟩
   ·exact ⟨_, S, κ, rfl, inv, .refl _ _ _ _, by simp [RV]⟩
   ·obtain ⟨i1, i2⟩ := inv.junk obj
    exact ⟨_, S, κ, rfl, i1, i2, by simp [RV]⟩
  split at hop
  ·simp only [Option.some.injEq, Prod.mk.injEq] at hop
   obtain ⟨rfl, rfl⟩ := hop
   exact wZ0 hP hcall hf hc (clone_nils (lf := lf)) inv hr n
  ·cases hop
  ·rename_i hn1 hn2
   simp only [Option.some.injEq, Prod.mk.injEq] at hop
   exact rest (fun s e => hn2 s e) hop.1.symm hop.2.symm
 ·rename_i e es he1
  exact wZ0 hP hcall hf hc (clone_more (lf := lf) he1 hop0) inv hr n
end
open Go.RowKit
section
variable {P : Program} {G : Glob} {B : Base G} {S : Cells} {w : World} {κ : Kap} {h : Heap}
theorem Inv.grown (inv : Inv P B S w κ h) {w' : World} (hb : Below w.heap.size w w') : Inv P B S w' κ h ∧ Stp B S w κ S w' κ := by
 have sle : Sle S w S w' := ⟨fun _ _ x => x, fun b o x => vZM o (hb.block b (inv.sb b o x))⟩
 have hbw : Below B w w' := hb.mono inv.bw
 refine ⟨⟨fun i o hi => OI.mono sle (.refl _) (fun _ _ x => .inl x) (fun a ha => ?_) (inv.obs i o hi), inv.dis, fun i a ha => ?_, fun b o x => ?_, ?_, inv.gl.below (B := B) hbw⟩, hbw, sle, .refl _, fun _ _ x => .inl x⟩
 ·have := (inv.dom _ _ ha).2.2
  exact ⟨ha, hb.block _ this, this⟩
 ·have := inv.dom i a ha
  have := hb.size
  omega
 ·have := inv.sb b o x
  have := hb.size
  omega
 ·have := inv.bw
  have := hb.size
  omega
theorem Kept.cell (hk : Kept G w) {a : Addr} {v : Value} (h : G.cell? a = some v) : w.cell? a = some v := by
 have := Lib.lt_of_cell h
 rw [← h]
 simp only [World.cell?, hk _ this]
theorem Kept.var (hk : Kept G w) {n : String} {cs : Array Value} (h : G.var? P n = some cs) : w.var? P n = some cs := by
 unfold World.var? at h ⊢
 cases hg : P.globalNamed n with
 | none => rw [hg] at h; cases h
 | some g =>
  rw [hg] at h
  simp only [Option.bind_some] at h ⊢
  have hlt : g < G.heap.size := by
   by_cases hn : g < G.heap.size
   ·exact hn
   ·rw [Array.getElem?_eq_none (by omega)] at h
    cases h
  rw [hk g hlt]
  exact h
def primF1 (p : Pr) : Cf := ⟨1, [.tmp 0], .region [⟨some 0, .prim p [.t 0], none⟩], false⟩
def primF2 (p : Pr) : Cf := ⟨2, [.tmp 0], .region [⟨some 0, .prim p [.t 0, .t 1], none⟩], false⟩
theorem kZU {p : Pr} {f : FuncId} (hm : ∀ {B : Base G} {S : Cells} {w : World} {κ : Kap} {h : Heap} {a : V} {v : Value} {z : V} {h' : Heap}, Inv P B S w κ h → RV S w κ a v → evPrim h p [a] = some (z, h') →
   h' = h ∧ Calls P f #[v] w fun e w' => ∃ u, e = .returned u ∧ Below w.heap.size w w' ∧ RV S w' κ z u) : BodyS G P f (primF1 p) := by
 intro call hcall lf args as x h h' he B S w κ inv hr n
 obtain ⟨hl, s, hs, vs, ht, hv, rfl⟩ := vZD he
 simp only [evOps, evCp, wanted] at hs
 split at hs
 case h_2 => cases hs
 rename_i s' hs'
 cases hs
 split at hs'
 case h_2 => cases hs'
 rename_i z h1 hop
 rw [fS_eq] at hs'
 cases hs'
 simp only [evOp, evs, List.map_cons, List.map_nil, Od.ev] at hop
 obtain ⟨q, pv, rfl, rfl, hp⟩ := args1 hr hl (by intro e; rw [e] at hop; cases p <;> simp [evPrim] at hop)
 have e0 : eget ([q] ++ List.replicate (1 - [q].length) V.non) 0 = q := rfl
 rw [e0] at hop
 simp only [takeMarks, Option.some.injEq] at ht
 subst ht
 simp [evRes, putV, eget] at hv
 subst hv
 simp only [pack]
 obtain ⟨rfl, hc⟩ := hm inv hp hop
 refine callsIn_wide.2 (hc.mono fun e w' he' => ?_)
 obtain ⟨u, rfl, hb, hz⟩ := he'
 obtain ⟨i1, i2⟩ := inv.grown hb
 exact ⟨u, S, κ, rfl, i1, i2, hz⟩
theorem jZe {p : Pr} {f : FuncId} (hm : ∀ {B : Base G} {S : Cells} {w : World} {κ : Kap} {h : Heap} {a b : V} {v v2 : Value} {z : V} {h' : Heap}, Inv P B S w κ h → RV S w κ a v → RV S w κ b v2 → evPrim h p [a, b] = some (z, h') →
   h' = h ∧ Calls P f #[v, v2] w fun e w' => ∃ u, e = .returned u ∧ Below w.heap.size w w' ∧ RV S w' κ z u) : BodyS G P f (primF2 p) := by
 intro call hcall lf args as x h h' he B S w κ inv hr n
 obtain ⟨hl, s, hs, vs, ht, hv, rfl⟩ := vZD he
 simp only [evOps, evCp, wanted] at hs
 split at hs
 case h_2 => cases hs
 rename_i s' hs'
 cases hs
 split at hs'
 case h_2 => cases hs'
 rename_i z h1 hop
 rw [fS_eq] at hs'
 cases hs'
 simp only [evOp, evs, List.map_cons, List.map_nil, Od.ev] at hop
 obtain ⟨q, q2, pv, pv2, rfl, rfl, hp, hp2⟩ := args2 hr hl (by
  intro e
  rw [e] at hop
  generalize eget (args ++ List.replicate (2 - args.length) V.non) 0 = y at hop
  cases p <;> cases y <;> simp [evPrim] at hop)
 have e0 : eget ([q, q2] ++ List.replicate (2 - [q, q2].length) V.non) 0 = q := rfl
 have e1 : eget ([q, q2] ++ List.replicate (2 - [q, q2].length) V.non) 1 = q2 := rfl
 rw [e0, e1] at hop
 simp only [takeMarks, Option.some.injEq] at ht
 subst ht
 simp [evRes, putV, eget] at hv
 subst hv
 simp only [pack]
 obtain ⟨rfl, hc⟩ := hm inv hp hp2 hop
 refine callsIn_wide.2 (hc.mono fun e w' he' => ?_)
 obtain ⟨u, rfl, hb, hz⟩ := he'
 obtain ⟨i1, i2⟩ := inv.grown hb
 exact ⟨u, S, κ, rfl, i1, i2, hz⟩
theorem itoa_body {f : FuncId} {n : String} (ht : Lib.TabIs P G n .u64 Lib.pow10Tab)
  (hm : ∀ (n' : Int) (h0 : -9223372036854775808 ≤ n') (h1 : n' ≤ 9223372036854775807) (w : World) (htab : Lib.TabIs P w n .u64 Lib.pow10Tab),
   Calls P f #[.int .i64 n'] w fun e w' => e = .returned (.string ⟨(Lib.itoa n').toArray⟩) ∧ ∃ k os, w' = Go.Sort.grow (w.drewN k) os) : BodyS G P f (primF1 .itoa) :=
 kZU fun {B S w κ h a v z h'} inv hv he => by
  simp only [evPrim] at he
  split at he
  case h_2 => cases he
  rename_i n' hx
  cases hx
  obtain ⟨⟨h0, h1⟩, he⟩ := zZL he
  obtain ⟨e1, e2⟩ := qZL he
  cases e1
  simp only [RV] at hv
  subst hv
  refine ⟨e2, (hm n' h0 h1 w (inv.gl.var ht)).mono fun e w' he' => ?_⟩
  obtain ⟨rfl, k, os, rfl⟩ := he'
  exact ⟨_, rfl, Lib.below_grow _ w (Nat.le_refl _) k os, by simp only [RV]⟩
theorem atoi_body {f : FuncId} {t t5 : TypeId} {a1 a2 : Addr} {v1 v2 : Value} (g1 : G.cell? a1 = some v1) (k1 : v1 = .nilIface ∨ ∃ te pe, v1 = .iface te pe) (g2 : G.cell? a2 = some v2) (k2 : v2 = .nilIface ∨ ∃ te pe, v2 = .iface te pe)
  (m0 : ∀ (s : ByteArray) (hmax : s.size ≤ 9223372036854775806) (v : Int) (h : Lib.atoiAll s.data.toList = .ok v) (w : World),
   Calls P f #[.string s] w fun e w' => e = .returned (.tuple #[.int .i64 v, .nilIface]) ∧ (w' = w ∨ ∃ t, w' = Lib.bytesWorld w t5 t))
  (m1 : ∀ (s : ByteArray) (hlim : s.size ≤ 281474976710656) (h : ∀ v, Lib.atoiAll s.data.toList ≠ .ok v) (h2 : Lib.atoiAll s.data.toList ≠ .range) (ev : Value) (w : World) (hv : w.cell? a1 = some ev) (hev : ev = .nilIface ∨ ∃ te pe, ev = .iface te pe),
   ∃ Q : Nat → World → Prop, Calls P f #[.string s] w fun e w' => ∃ N, e = .returned (.tuple #[.int .i64 (0), .iface t (.pointer (some ⟨N, 0, none⟩))]) ∧ w.heap.size ≤ N ∧ Q N w' ∧ Below w.heap.size w w')
  (m2 : ∀ (s : ByteArray) (hlim : s.size ≤ 281474976710656) (h : Lib.atoiAll s.data.toList = .range) (ev : Value) (w : World) (hv : w.cell? a2 = some ev) (hev : ev = .nilIface ∨ ∃ te pe, ev = .iface te pe),
   ∃ Q : Nat → World → Prop, Calls P f #[.string s] w fun e w' => ∃ N, e = .returned (.tuple #[.int .i64 (Lib.atoiSat s.data.toList), .iface t (.pointer (some ⟨N, 0, none⟩))]) ∧ w.heap.size ≤ N ∧ Q N w' ∧ Below w.heap.size w w') : BodyS G P f (primF1 (.atoi t)) :=
 kZU fun {B S w κ h a v z h'} inv hv he => by
  simp only [evPrim] at he
  split at he
  case h_2 => cases he
  rename_i s hx
  cases hx
  obtain ⟨hlim, he⟩ := zZL he
  simp only [RV] at hv
  subst hv
  split at he
  ·rename_i n hn
   obtain ⟨e1, e2⟩ := qZL he
   cases e1
   refine ⟨e2, (m0 s (by unfold maxA at hlim; omega) n hn w).mono fun e w' he' => ?_⟩
   obtain ⟨rfl, hw⟩ := he'
   refine ⟨_, rfl, ?_, by simp [RV, RL]⟩
   rcases hw with rfl | ⟨t', rfl⟩
   ·exact .refl _ _
   ·exact Lib.bytesWorld_below _ _ _
  ·rename_i hn
   obtain ⟨e1, e2⟩ := qZL he
   cases e1
   obtain ⟨Q, hc⟩ := m2 s hlim hn v2 w (inv.gl.cell g2) k2
   refine ⟨e2, hc.mono fun e w' he' => ?_⟩
   obtain ⟨N, rfl, _, _, hb⟩ := he'
   exact ⟨_, rfl, hb, by simp [RV, RL, RC]⟩
  ·rename_i hn1 hn2
   obtain ⟨e1, e2⟩ := qZL he
   cases e1
   obtain ⟨Q, hc⟩ := m1 s hlim (fun v hv => hn1 v hv) (fun hv => hn2 hv) v1 w (inv.gl.cell g1) k1
   refine ⟨e2, hc.mono fun e w' he' => ?_⟩
   obtain ⟨N, rfl, _, _, hb⟩ := he'
   exact ⟨_, rfl, hb, by simp [RV, RL, RC]⟩
theorem sidx_body {f : FuncId} (hm : ∀ (s : ByteArray) (c : UInt8) (w : World), Calls P f #[.string s, .string ⟨#[c]⟩] w fun e w' => e = .returned (.int .i64 (Lib.indexByte s.data.toList c)) ∧ w' = w) : BodyS G P f (primF2 .sidx) :=
 jZe fun {B S w κ h a b v v2 z h'} inv hv hv2 he => by
  simp only [evPrim] at he
  split at he
  case h_2 => cases he
  rename_i s u hx
  cases hx
  split at he
  case h_2 => cases he
  rename_i c hc
  obtain ⟨e1, e2⟩ := qZL he
  cases e1
  simp only [RV] at hv hv2
  subst hv hv2
  have hu : u = ⟨#[c]⟩ := by
   cases u with
   | mk d => cases d with
    | mk l => simp only at hc; subst hc; rfl
  subst hu
  refine ⟨e2, (hm s c w).mono fun e w' he' => ?_⟩
  obtain ⟨rfl, rfl⟩ := he'
  exact ⟨_, rfl, .refl _ _, by simp only [RV]⟩
theorem sbyte_body {f : FuncId} (hm : ∀ (s : ByteArray) (c : Int) (w : World), Calls P f #[.string s, .int .u8 c] w fun e w' => e = .returned (.int .i64 (Lib.indexByte s.data.toList c.toNat.toUInt8)) ∧ w' = w) : BodyS G P f (primF2 .sbyte) :=
 jZe fun {B S w κ h a b v v2 z h'} inv hv hv2 he => by
  simp only [evPrim] at he
  split at he
  case h_2 => cases he
  rename_i s n hx
  cases hx
  obtain ⟨e1, e2⟩ := qZL he
  cases e1
  simp only [RV] at hv hv2
  subst hv hv2
  refine ⟨e2, (hm s n w).mono fun e w' he' => ?_⟩
  obtain ⟨rfl, rfl⟩ := he'
  exact ⟨_, rfl, .refl _ _, by simp only [RV]⟩
theorem sl_cells (inv : Inv P B S w κ h) {x : V} {u : Value} {e : List V} {es : List (List V)} (hx : RV S w κ x u) (hh : elemsOf h x = some (e :: es)) (hs : ∀ s, x ≠ .str s) (hsz : ∀ y ∈ e :: es, y.length = 1) :
  ∃ b o cap, u = .slice (some ⟨b, o, none⟩) (e :: es).length cap ∧ (e :: es).length ≤ cap ∧ Cel S w κ b o (e :: es).flatten := by
 cases x <;> simp only [elemsOf, reduceCtorEq, Option.some.injEq] at hh
 case str s => exact absurd rfl (hs s)
 case arr xs =>
  subst hh
  simp only [RV] at hx
  obtain ⟨a, cap, rfl, hcap, hx⟩ := hx
  rcases hx with hx | ⟨b, o, sz', rfl, hre⟩
  ·cases hx
  ·refine ⟨b, o, cap, rfl, hcap, vZL (sz := sz') _ o (fun i y hy => ?_)⟩
   obtain ⟨k1, k2⟩ := jZQ hre hy
   exact ⟨k1, wZJ k2⟩
 case sl id ep off len =>
  split at hh
  case h_2 => cases hh
  rename_i z xs cur wr hi
  obtain ⟨⟨rfl, hle⟩, hh2⟩ := zZL hh
  clear hh
  have hh : (xs.drop off).take len = e :: es := Option.some.inj hh2
  have hlen : len = (e :: es).length := by
   rw [← hh]
   simp
   omega
  obtain ⟨b, st, cp, a, k1, rfl, k2, k3, k4⟩ := sl_sound inv hi hx
  obtain ⟨b', st', cp', c, el, fr, f1, f2, f3, f4, f5, f6, f7, f8, f9, f10, f11⟩ := qZ6 inv hi
  rw [k1] at f1; cases f1
  have hz1 : z = 1 := by
   have he : e ∈ xs := by
    have : e ∈ (xs.drop off).take len := by rw [hh]; simp
    exact List.mem_of_mem_drop (List.mem_of_mem_take this)
   rw [← (f8 e he).1]
   exact hsz e (by simp)
  subst hz1
  have hpos : 0 < len := by rw [hlen]; simp
  have ha : a = ⟨b, (off - st) * 1, none⟩ := by
   rcases k4 with k4 | k4
   ·omega
   ·exact k4
  subst ha
  refine ⟨b, (off - st) * 1, _, by rw [hlen], by rw [← hlen]; omega, vZL (sz := 1) _ _ (fun i y hy => ⟨hsz y (List.mem_of_getElem? hy), ?_⟩)⟩
  have hyx : xs[off + i]? = some y := by
   have : ((xs.drop off).take len)[i]? = some y := by rw [hh]; exact hy
   rw [List.getElem?_take] at this
   split at this
   ·rwa [List.getElem?_drop] at this
   ·cases this
  have hrl := f9 (off + i) y (by omega) hyx
  intro j v hj
  have hl1 := hsz y (List.mem_of_getElem? hy)
  have hj0 : j = 0 := by
   have := (List.getElem?_eq_some_iff.1 hj).1
   omega
  subst hj0
  match y, hl1, hj with
  | [y0], _, hj =>
   simp only [List.getElem?_cons_zero, Option.some.injEq] at hj
   subst hj
   have hcl := qZQ hrl
   simp only [List.length_cons, List.length_nil, Nat.mul_one] at hcl
   obtain ⟨c0, hc0⟩ : ∃ c0, (c.toList.drop ((off + i - st) * 1)).take 1 = [c0] := by
    match hd : (c.toList.drop ((off + i - st) * 1)).take 1, hcl with
    | [c0], _ => exact ⟨c0, rfl⟩
    | [], hcl => rw [Nat.mul_one] at hd; rw [hd] at hcl; cases hcl
    | _ :: _ :: _, hcl => rw [Nat.mul_one] at hd; rw [hd] at hcl; simp at hcl
   rw [hc0] at hrl
   refine ⟨c0, ?_, RL_one.1 hrl⟩
   rw [vZQ w b _ f2]
   have : (c.toList.drop ((off + i - st) * 1))[0]? = some c0 := by
    have h2 := congrArg (·[0]?) hc0
    simpa using h2
   rw [List.getElem?_drop] at this
   rw [← Array.getElem?_toList]
   rw [← this]
   congr 1
   omega
theorem kZW : ∀ {es : List (List V)} {l : List ByteArray}, strsOf es = some l → es = l.map fun s => [V.str s]
 | [], l, h => by simp only [strsOf, Option.some.injEq] at h; subst h; rfl
 | e :: es, l, h => by
  unfold strsOf at h
  split at h
  ·rename_i heq; cases heq
  ·rename_i s r heq
   cases heq
   simp only [Option.map_eq_some_iff] at h
   obtain ⟨l', h1, rfl⟩ := h
   rw [kZW h1]
   rfl
  ·cases h
theorem flat1 : ∀ l : List ByteArray, (l.map fun s => [V.str s]).flatten = l.map V.str
 | [] => rfl
 | q :: l => by simp only [List.map_cons, List.flatten_cons, flat1 l, List.cons_append, List.nil_append]
theorem join_body {f : FuncId}
  (m0 : ∀ (a : Option Addr) (c : Nat) (sep : ByteArray) (w : World), Calls P f #[.slice a 0 c, .string sep] w fun e w' => e = .returned (.string ⟨#[]⟩) ∧ w' = w)
  (m1 : ∀ (bk o c : Nat) (xs : List ByteArray) (sep : ByteArray) (w : World) (hcells : ∀ (j : Nat) x, xs[j]? = some x → w.cell? ⟨bk, o + j, none⟩ = some (.string x)) (hbk : bk < w.heap.size) (hN : xs.length ≤ 140737488355328) (hcap : xs.length ≤ c)
   (hlen : (Lib.join (xs.map (·.data.toList)) sep.data.toList).length ≤ 140737488355328),
   Calls P f #[.slice (some ⟨bk, o, none⟩) xs.length c, .string sep] w fun e w' => e = .returned (.string ⟨(Lib.join (xs.map (·.data.toList)) sep.data.toList).toArray⟩) ∧ Below w.heap.size w w') : BodyS G P f (primF2 .join) :=
 jZe fun {B S w κ h a b v v2 z h'} inv hv hv2 he => by
  simp only [evPrim] at he
  split at he
  case h_2 => cases he
  rename_i x s hx
  cases hx
  split at he
  case h_2 => cases he
  rename_i es hes
  split at he
  case h_2 => cases he
  rename_i l hl
  obtain ⟨⟨hN, hlen⟩, he⟩ := zZL he
  obtain ⟨e1, e2⟩ := qZL he
  cases e1
  simp only [RV] at hv2
  subst hv2
  have hns : ∀ s, a ≠ .str s := fun s e => by subst e; simp [bytesIn] at hes
  have hes' : elemsOf h a = some es := by
   cases a <;> simp only [bytesIn, reduceCtorEq] at hes <;> exact hes
  have hel := kZW hl
  refine ⟨e2, ?_⟩
  cases l with
  | nil =>
   simp only [List.map_nil] at hel
   subst hel
   obtain ⟨ad, c, rfl⟩ := kZT hv (wZP hes' hns)
   refine (m0 ad c s w).mono fun e w' he' => ?_
   obtain ⟨rfl, rfl⟩ := he'
   exact ⟨_, rfl, .refl _ _, by simp [RV, Lib.join]⟩
  | cons y l =>
   simp only [List.map_cons] at hel
   subst hel
   obtain ⟨bk, o, cap, rfl, hcap, hcel⟩ := sl_cells inv hv hes' hns (by
    intro q hq
    rcases List.mem_cons.1 hq with rfl | hq
    ·rfl
    ·obtain ⟨_, _, rfl⟩ := List.mem_map.1 hq
     rfl)
   have hfl : ([V.str y] :: l.map fun s => [V.str s]).flatten = (y :: l).map V.str := by
    simp only [List.flatten_cons, List.map_cons, List.cons_append, List.nil_append, List.cons.injEq, true_and]
    exact flat1 l
   rw [hfl] at hcel
   have hcells : ∀ (j : Nat) q, (y :: l)[j]? = some q → w.cell? ⟨bk, o + j, none⟩ = some (.string q) := fun j q hj => by
    obtain ⟨c, h1, h2⟩ := hcel j (.str q) (by simp only [List.getElem?_map, hj, Option.map_some])
    simp only [RV] at h2
    rw [h1, h2]
   have hbk : bk < w.heap.size := Lib.lt_of_cell (hcells 0 y rfl)
   have := m1 bk o cap (y :: l) s w hcells hbk (by unfold maxJ at hN; exact hN) (by simpa using hcap) (by unfold maxJ at hlen; exact hlen)
   simp only [List.length_cons, List.length_map] at this ⊢
   refine this.mono fun e w' he' => ?_
   obtain ⟨rfl, hb⟩ := he'
   exact ⟨_, rfl, hb, by simp only [RV]⟩
end
end Go.Ev
