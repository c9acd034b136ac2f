/- slices.Clone, told of by hand: what is empty, and may be nil, has no room behind it. Functions of Go's library that are told of by hand: what their contracts say. Runs by few of the orders, what a frame holds told by what was last put there: for the kernel to work out. No conditions. -/
import Derived.Test.YtaeklgflchhmfaaGreatDoorEwO
import Derived.Test.YtaeklgflchhmfaaGreatDoorEwK
import Derived.Lib.AppendIntMem
import Derived.Lib.AtoiErrMem
import Derived.Test.YtaeklgflchhmfaaGreatDoorEwM
set_option maxHeartbeats 16000000
set_option maxRecDepth 100000
set_option linter.unusedVariables false
set_option linter.unusedSimpArgs false
set_option linter.unusedSectionVars false
namespace Go.Ev
open Go.RowKit
section
variable {P : Program} {G : Glob} {B : Base G} {S : Cells} {w : World} {κ : Kap} {h : Heap}
theorem Inv.junk (inv : Inv P B S w κ h) (obj : Obj) : Inv P B S (w.alloc obj) κ h ∧ Stp B S w κ S (w.alloc obj) κ := by
 have sle : Sle S w S (w.alloc obj) := ⟨fun _ _ x => x, fun b o x => wZb o (Below.heap_alloc _ _ _ (inv.sb b o x))⟩
 refine ⟨⟨fun i o hi => OI.mono sle (.refl _) (fun _ _ x => .inl x) (fun a ha => ?_) id (inv.obs i o hi), inv.dis, fun i a ha => ?_, fun b o x => ?_, ?_, inv.gl.below (B := B) ((Below.refl _ _).alloc inv.bw _)⟩, (Below.refl _ _).alloc inv.bw _, sle, .refl _, fun _ _ x => .inl x⟩
 ·have := (inv.dom _ _ ha).2.2
  exact ⟨ha, Below.heap_alloc _ _ _ this, this⟩
 ·rw [vZM]
  have := inv.dom i a ha
  omega
 ·rw [vZM]; have := inv.sb b o x; omega
 ·rw [vZM]; have := inv.bw; omega
def primClone (sz by_ : Nat) : Cf := ⟨1, [.tmp 0], .region [⟨some 0, .cln sz by_ (.t 0), none⟩], false⟩
def cloneCf (zero : List V) (sz by_ : Nat) : Cf := ⟨8, [.tmp 2], (.seq (.region [⟨some 2, .mov (.c .nils), none⟩]) (.seq (.seq (.region [⟨some 3, .mov (.t 0), none⟩, ⟨some 4, .eqn .l false (.t 3) (.c .nils), none⟩]) (.cond (.t 4) (.seq (.region [⟨some 2, .mov (.c .nils), none⟩]) .ret) .skip)) (.seq (.region [⟨some 5, .bslice zero 0 sz [], none⟩, ⟨some 6, .mov (.t 0), none⟩, ⟨some 7, .app sz by_ (.t 5) (.t 6), none⟩, ⟨some 2, .mov (.t 7), none⟩]) .ret))), false⟩
theorem jZA {x : V} (he : elemsOf h x = some []) (hs : ∀ s, x ≠ .str s) : lenV .l h x = some 0 := by
 cases x <;> simp only [elemsOf, reduceCtorEq] at he
 case nils => rfl
 case nile => rfl
 case arr xs => simp only [Option.some.injEq] at he; subst he; rfl
 case str s => exact absurd rfl (hs s)
 case sl id ep off len =>
  split at he
  ·obtain ⟨hc, he⟩ := zZN he
   simp only [Option.some.injEq] at he
   have := congrArg List.length he
   simp at this
   simp only [lenV, Option.some.injEq]
   omega
  ·cases he
theorem clone_more {call : CallF} {lf : Nat} {zero : List V} {sz by_ : Nat} {x z : V} {h' : Heap} {e : List V} {es : List (List V)} (he : elemsOf h x = some (e :: es)) (hh : evCln h sz by_ x = some (z, h')) : evBody call lf (cloneCf zero sz by_) [x] h = some (z, h') := by
 have hns : ∀ s, x ≠ .str s := by rintro s rfl; unfold evCln at hh; rw [he] at hh; cases hh
 unfold evCln at hh
 rw [he] at hh
 have hh2 : (if (e :: es).length * by_ ≤ roomB ∧ szOk sz (e :: es) then fNat (e :: es).length fun n => newOb h (.sl h.length 1 0 n) (.row sz (e :: es) 1 true) else none) = some (z, h') := by
  cases x <;> first | exact absurd rfl (hns _) | exact hh
 obtain ⟨⟨h1, h2⟩, h3⟩ := zZN hh2
 simp only [qZ5, qZ4, Option.some.injEq, Prod.mk.injEq] at h3
 obtain ⟨rfl, rfl⟩ := h3
 have hn : nilOf .l x = some false := by
  cases x <;> simp only [elemsOf, reduceCtorEq, Option.some.injEq] at he
  case arr xs => subst he; rfl
  case str s => exact absurd rfl (hns s)
  case sl => rfl
  all_goals cases he
 have hq : eqnV .l x .nils = some false := by unfold eqnV; rw [hn]; rfl
 have hpush : elemsOf (h ++ [Ob.row sz [] 0 true]) x = some (e :: es) := by
  cases x <;> simp only [elemsOf, reduceCtorEq] at he ⊢
  case arr => exact he
  case str => exact he
  case nils => cases he
  case nile => cases he
  case sl id ep off len =>
   cases hi : h[id]? with
   | none => rw [hi] at he; cases he
   | some o => rw [List.getElem?_append_left (List.getElem?_eq_some_iff.1 hi).1, hi]; rw [hi] at he; exact he
 have happ : evApp (h ++ [Ob.row sz [] 0 true]) sz by_ (.sl h.length 0 0 0) x = some (.sl h.length 1 0 (e :: es).length, h ++ [.row sz (e :: es) 1 true]) := by
  have hr : (h ++ [Ob.row sz [] 0 true])[h.length]? = some (.row sz [] 0 true) := by simp
  have hset : (h ++ [Ob.row sz [] 0 true]).set h.length (.row sz (e :: es) 1 true) = h ++ [.row sz (e :: es) 1 true] := by simp [List.set_append]
  simp only [evApp, hpush, hr, Nat.zero_add, h1, h2, and_self, if_true, List.length_nil, qZ5, qZW, List.nil_append, hset]
 have hbs : evBslice h zero 0 sz [] = some (.sl h.length 0 0 0, h ++ [Ob.row sz [] 0 true]) := by simp [evBslice, placeParts, chunks, qZ4]
 have hev : evEqn h .l false x .nils = some (.bool false, h) := by simp [evEqn, hq, okV, fV_eq]
 simp [evBody, cloneCf, evCode, evOps, evCp, wanted, evOp, hev, hbs, happ, eget, putV, evRes, takeMarks, Od.ev, fS_eq]
theorem clone_nils {call : CallF} {lf : Nat} {zero : List V} {sz by_ : Nat} : evBody call lf (cloneCf zero sz by_) [.nils] h = some (.nils, h) := by
 have hev : evEqn h .l false .nils .nils = some (.bool true, h) := rfl
 simp [evBody, cloneCf, evCode, evOps, evCp, wanted, evOp, hev, eget, putV, evRes, takeMarks, Od.ev, fS_eq]
theorem jZ0 (hP : P.follows .mixedOrders = true) {f : FuncId} {fn : Func} {zero : List V} {sz by_ : Nat} (hf : P.funcs[f]? = some fn) (hc : cFunc P false fn = some (cloneCf zero sz by_))
  (hm : ∀ (a : Option Addr) (cap : Nat) (w : World), Calls P f #[.slice a 0 cap] w fun e w' => ∃ b, e = .returned (.slice b 0 0) ∧ (w' = w ∨ ∃ obj, w' = w.alloc obj)) : BodyS G P f (primClone sz by_) := by
 intro call hcall lf args as x h h' he B S w κ inv hr n
 have he0 := he
 obtain ⟨hl, s, hs, vs, ht, hv, rfl⟩ := vZV he
 simp only [evOps, evCp, wanted] at hs
 split at hs
 case h_2 => cases hs
 rename_i s' hs'
 cases hs
 split at hs'
 case h_2 => cases hs'
 rename_i z h1 hop
 rw [fS_eq] at hs'
 cases hs'
 simp only [evOp, Od.ev] at hop
 obtain ⟨p, pv, rfl, rfl, hp⟩ := args1 hr hl (by intro e; rw [e] at hop; simp [evCln, elemsOf] at hop)
 have e0 : eget ([p] ++ List.replicate (1 - [p].length) V.non) 0 = p := rfl
 rw [e0] at hop
 simp only [takeMarks, Option.some.injEq] at ht
 subst ht
 simp [evRes, putV, eget] at hv
 subst hv
 simp only [pack]
 have hop0 := hop
 unfold evCln at hop
 split at hop
 ·cases hop
 ·rename_i he1
  have rest : (∀ s, p ≠ .str s) → z = .nile → h1 = h → CallsIn Fence.wide n P f #[pv] w (Ends P B S w κ z h1) := by
   intro hns hz hh1
   subst hz hh1
   obtain ⟨a, cap, rfl⟩ := xZ3 hp (jZA he1 hns)
   refine callsIn_wide.2 ((hm a cap w).mono fun e w' he' => ?_)
   obtain ⟨b, rfl, hw⟩ := he'
   rcases hw with rfl | ⟨obj, rfl⟩
   ·exact ⟨_, S, κ, rfl, inv, .refl _ _ _ _, by simp [RV]⟩
   ·obtain ⟨i1, i2⟩ := inv.junk obj
    exact ⟨_, S, κ, rfl, i1, i2, by simp [RV]⟩
  split at hop
  ·simp only [Option.some.injEq, Prod.mk.injEq] at hop
   obtain ⟨rfl, rfl⟩ := hop
   exact jZR hP hcall hf hc (clone_nils (lf := lf)) inv hr n
  ·cases hop
  ·rename_i hn1 hn2
   simp only [Option.some.injEq, Prod.mk.injEq] at hop
   exact rest (fun s e => hn2 s e) hop.1.symm hop.2.symm
 ·rename_i e es he1
  exact jZR hP hcall hf hc (clone_more (lf := lf) he1 hop0) inv hr n
end
open Go.RowKit
section
variable {P : Program} {G : Glob} {B : Base G} {S : Cells} {w : World} {κ : Kap} {h : Heap}
theorem Inv.grown (inv : Inv P B S w κ h) {w' : World} (hb : Below w.heap.size w w') : Inv P B S w' κ h ∧ Stp B S w κ S w' κ := by
 have sle : Sle S w S w' := ⟨fun _ _ x => x, fun b o x => wZb o (hb.block b (inv.sb b o x))⟩
 have hbw : Below B w w' := hb.mono inv.bw
 refine ⟨⟨fun i o hi => OI.mono sle (.refl _) (fun _ _ x => .inl x) (fun a ha => ?_) id (inv.obs i o hi), inv.dis, fun i a ha => ?_, fun b o x => ?_, ?_, inv.gl.below (B := B) hbw⟩, hbw, sle, .refl _, fun _ _ x => .inl x⟩
 ·have := (inv.dom _ _ ha).2.2
  exact ⟨ha, hb.block _ this, this⟩
 ·have := inv.dom i a ha
  have := hb.size
  omega
 ·have := inv.sb b o x
  have := hb.size
  omega
 ·have := inv.bw
  have := hb.size
  omega
theorem Kept.cell (hk : Kept G w) {a : Addr} {v : Value} (h : G.cell? a = some v) : w.cell? a = some v := by
 have := Lib.lt_of_cell h
 rw [← h]
 simp only [World.cell?, hk _ this]
theorem Kept.var (hk : Kept G w) {n : String} {cs : Array Value} (h : G.var? P n = some cs) : w.var? P n = some cs := by
 unfold World.var? at h ⊢
 cases hg : P.globalNamed n with
 | none => rw [hg] at h; cases h
 | some g =>
  rw [hg] at h
  simp only [Option.bind_some] at h ⊢
  have hlt : g < G.heap.size := by
   by_cases hn : g < G.heap.size
   ·exact hn
   ·rw [Array.getElem?_eq_none (by omega)] at h
    cases h
  rw [hk g hlt]
  exact h
def primF1 (p : Pr) : Cf := ⟨1, [.tmp 0], .region [⟨some 0, .prim p [.t 0], none⟩], false⟩
def primF2 (p : Pr) : Cf := ⟨2, [.tmp 0], .region [⟨some 0, .prim p [.t 0, .t 1], none⟩], false⟩
theorem xZ5 {p : Pr} {f : FuncId} (hm : ∀ {B : Base G} {S : Cells} {w : World} {κ : Kap} {h : Heap} {a : V} {v : Value} {z : V} {h' : Heap}, Inv P B S w κ h → RV S w κ a v → evPrim h p [a] = some (z, h') →
   h' = h ∧ Calls P f #[v] w fun e w' => ∃ u, e = .returned u ∧ Below w.heap.size w w' ∧ RV S w' κ z u) : BodyS G P f (primF1 p) := by
 intro call hcall lf args as x h h' he B S w κ inv hr n
 obtain ⟨hl, s, hs, vs, ht, hv, rfl⟩ := vZV he
 simp only [evOps, evCp, wanted] at hs
 split at hs
 case h_2 => cases hs
 rename_i s' hs'
 cases hs
 split at hs'
 case h_2 => cases hs'
 rename_i z h1 hop
 rw [fS_eq] at hs'
 cases hs'
 simp only [evOp, evs, List.map_cons, List.map_nil, Od.ev] at hop
 obtain ⟨q, pv, rfl, rfl, hp⟩ := args1 hr hl (by intro e; rw [e] at hop; cases p <;> simp [evPrim] at hop)
 have e0 : eget ([q] ++ List.replicate (1 - [q].length) V.non) 0 = q := rfl
 rw [e0] at hop
 simp only [takeMarks, Option.some.injEq] at ht
 subst ht
 simp [evRes, putV, eget] at hv
 subst hv
 simp only [pack]
 obtain ⟨rfl, hc⟩ := hm inv hp hop
 refine callsIn_wide.2 (hc.mono fun e w' he' => ?_)
 obtain ⟨u, rfl, hb, hz⟩ := he'
 obtain ⟨i1, i2⟩ := inv.grown hb
 exact ⟨u, S, κ, rfl, i1, i2, hz⟩
theorem kZd {p : Pr} {f : FuncId} (hm : ∀ {B : Base G} {S : Cells} {w : World} {κ : Kap} {h : Heap} {a b : V} {v v2 : Value} {z : V} {h' : Heap}, Inv P B S w κ h → RV S w κ a v → RV S w κ b v2 → evPrim h p [a, b] = some (z, h') →
   h' = h ∧ Calls P f #[v, v2] w fun e w' => ∃ u, e = .returned u ∧ Below w.heap.size w w' ∧ RV S w' κ z u) : BodyS G P f (primF2 p) := by
 intro call hcall lf args as x h h' he B S w κ inv hr n
 obtain ⟨hl, s, hs, vs, ht, hv, rfl⟩ := vZV he
 simp only [evOps, evCp, wanted] at hs
 split at hs
 case h_2 => cases hs
 rename_i s' hs'
 cases hs
 split at hs'
 case h_2 => cases hs'
 rename_i z h1 hop
 rw [fS_eq] at hs'
 cases hs'
 simp only [evOp, evs, List.map_cons, List.map_nil, Od.ev] at hop
 obtain ⟨q, q2, pv, pv2, rfl, rfl, hp, hp2⟩ := args2 hr hl (by
  intro e
  rw [e] at hop
  generalize eget (args ++ List.replicate (2 - args.length) V.non) 0 = y at hop
  cases p <;> cases y <;> simp [evPrim] at hop)
 have e0 : eget ([q, q2] ++ List.replicate (2 - [q, q2].length) V.non) 0 = q := rfl
 have e1 : eget ([q, q2] ++ List.replicate (2 - [q, q2].length) V.non) 1 = q2 := rfl
 rw [e0, e1] at hop
 simp only [takeMarks, Option.some.injEq] at ht
 subst ht
 simp [evRes, putV, eget] at hv
 subst hv
 simp only [pack]
 obtain ⟨rfl, hc⟩ := hm inv hp hp2 hop
 refine callsIn_wide.2 (hc.mono fun e w' he' => ?_)
 obtain ⟨u, rfl, hb, hz⟩ := he'
 obtain ⟨i1, i2⟩ := inv.grown hb
 exact ⟨u, S, κ, rfl, i1, i2, hz⟩
theorem itoa_body {f : FuncId} {n : String} (ht : Lib.TabIs P G n .u64 Lib.pow10Tab)
  (hm : ∀ (n' : Int) (h0 : -9223372036854775808 ≤ n') (h1 : n' ≤ 9223372036854775807) (w : World) (htab : Lib.TabIs P w n .u64 Lib.pow10Tab),
   Calls P f #[.int .i64 n'] w fun e w' => e = .returned (.string ⟨(Lib.itoa n').toArray⟩) ∧ ∃ k os, w' = Go.Sort.grow (w.drewN k) os) : BodyS G P f (primF1 .itoa) :=
 xZ5 fun {B S w κ h a v z h'} inv hv he => by
  simp only [evPrim] at he
  split at he
  case h_2 => cases he
  rename_i n' hx
  cases hx
  obtain ⟨⟨h0, h1⟩, he⟩ := zZN he
  obtain ⟨e1, e2⟩ := qZQ he
  cases e1
  simp only [RV] at hv
  subst hv
  refine ⟨e2, (hm n' h0 h1 w (inv.gl.var ht)).mono fun e w' he' => ?_⟩
  obtain ⟨rfl, k, os, rfl⟩ := he'
  exact ⟨_, rfl, Lib.below_grow _ w (Nat.le_refl _) k os, by simp only [RV]⟩
theorem atoi_body {f : FuncId} {t t5 : TypeId} {a1 a2 : Addr} {v1 v2 : Value} (g1 : G.cell? a1 = some v1) (k1 : v1 = .nilIface ∨ ∃ te pe, v1 = .iface te pe) (g2 : G.cell? a2 = some v2) (k2 : v2 = .nilIface ∨ ∃ te pe, v2 = .iface te pe)
  (m0 : ∀ (s : ByteArray) (hmax : s.size ≤ 9223372036854775806) (v : Int) (h : Lib.atoiAll s.data.toList = .ok v) (w : World),
   Calls P f #[.string s] w fun e w' => e = .returned (.tuple #[.int .i64 v, .nilIface]) ∧ (w' = w ∨ ∃ t, w' = Lib.bytesWorld w t5 t))
  (m1 : ∀ (s : ByteArray) (hlim : s.size ≤ 281474976710656) (h : ∀ v, Lib.atoiAll s.data.toList ≠ .ok v) (h2 : Lib.atoiAll s.data.toList ≠ .range) (ev : Value) (w : World) (hv : w.cell? a1 = some ev) (hev : ev = .nilIface ∨ ∃ te pe, ev = .iface te pe),
   ∃ Q : Nat → World → Prop, Calls P f #[.string s] w fun e w' => ∃ N, e = .returned (.tuple #[.int .i64 (0), .iface t (.pointer (some ⟨N, 0, none⟩))]) ∧ w.heap.size ≤ N ∧ Q N w' ∧ Below w.heap.size w w')
  (m2 : ∀ (s : ByteArray) (hlim : s.size ≤ 281474976710656) (h : Lib.atoiAll s.data.toList = .range) (ev : Value) (w : World) (hv : w.cell? a2 = some ev) (hev : ev = .nilIface ∨ ∃ te pe, ev = .iface te pe),
   ∃ Q : Nat → World → Prop, Calls P f #[.string s] w fun e w' => ∃ N, e = .returned (.tuple #[.int .i64 (Lib.atoiSat s.data.toList), .iface t (.pointer (some ⟨N, 0, none⟩))]) ∧ w.heap.size ≤ N ∧ Q N w' ∧ Below w.heap.size w w') : BodyS G P f (primF1 (.atoi t)) :=
 xZ5 fun {B S w κ h a v z h'} inv hv he => by
  simp only [evPrim] at he
  split at he
  case h_2 => cases he
  rename_i s hx
  cases hx
  obtain ⟨hlim, he⟩ := zZN he
  simp only [RV] at hv
  subst hv
  split at he
  ·rename_i n hn
   obtain ⟨e1, e2⟩ := qZQ he
   cases e1
   refine ⟨e2, (m0 s (by unfold maxA at hlim; omega) n hn w).mono fun e w' he' => ?_⟩
   obtain ⟨rfl, hw⟩ := he'
   refine ⟨_, rfl, ?_, by simp [RV, RL]⟩
   rcases hw with rfl | ⟨t', rfl⟩
   ·exact .refl _ _
   ·exact Lib.bytesWorld_below _ _ _
  ·rename_i hn
   obtain ⟨e1, e2⟩ := qZQ he
   cases e1
   obtain ⟨Q, hc⟩ := m2 s hlim hn v2 w (inv.gl.cell g2) k2
   refine ⟨e2, hc.mono fun e w' he' => ?_⟩
   obtain ⟨N, rfl, _, _, hb⟩ := he'
   exact ⟨_, rfl, hb, by simp [RV, RL, RC]⟩
  ·rename_i hn1 hn2
   obtain ⟨e1, e2⟩ := qZQ he
   cases e1
   obtain ⟨Q, hc⟩ := m1 s hlim (fun v hv => hn1 v hv) (fun hv => hn2 hv) v1 w (inv.gl.cell g1) k1
   refine ⟨e2, hc.mono fun e w' he' => ?_⟩
   obtain ⟨N, rfl, _, _, hb⟩ := he'
   exact ⟨_, rfl, hb, by simp [RV, RL, RC]⟩
theorem sidx_body {f : FuncId} (hm : ∀ (s : ByteArray) (c : UInt8) (w : World), Calls P f #[.string s, .string ⟨#[c]⟩] w fun e w' => e = .returned (.int .i64 (Lib.indexByte s.data.toList c)) ∧ w' = w) : BodyS G P f (primF2 .sidx) :=
 kZd fun {B S w κ h a b v v2 z h'} inv hv hv2 he => by
  simp only [evPrim] at he
  split at he
  case h_2 => cases he
  rename_i s u hx
  cases hx
  split at he
  case h_2 => cases he
  rename_i c hc
  obtain ⟨e1, e2⟩ := qZQ he
  cases e1
  simp only [RV] at hv hv2
  subst hv hv2
  have hu : u = ⟨#[c]⟩ := by
   cases u with
   | mk d => cases d with
    | mk l => simp only at hc; subst hc; rfl
  subst hu
  refine ⟨e2, (hm s c w).mono fun e w' he' => ?_⟩
  obtain ⟨rfl, rfl⟩ := he'
  exact ⟨_, rfl, .refl _ _, by simp only [RV]⟩
theorem sbyte_body {f : FuncId} (hm : ∀ (s : ByteArray) (c : Int) (w : World), Calls P f #[.string s, .int .u8 c] w fun e w' => e = .returned (.int .i64 (Lib.indexByte s.data.toList c.toNat.toUInt8)) ∧ w' = w) : BodyS G P f (primF2 .sbyte) :=
 kZd fun {B S w κ h a b v v2 z h'} inv hv hv2 he => by
  simp only [evPrim] at he
  split at he
  case h_2 => cases he
  rename_i s n hx
  cases hx
  obtain ⟨e1, e2⟩ := qZQ he
  cases e1
  simp only [RV] at hv hv2
  subst hv hv2
  refine ⟨e2, (hm s n w).mono fun e w' he' => ?_⟩
  obtain ⟨rfl, rfl⟩ := he'
  exact ⟨_, rfl, .refl _ _, by simp only [RV]⟩
theorem sl_cells (inv : Inv P B S w κ h) {x : V} {u : Value} {e : List V} {es : List (List V)} (hx : RV S w κ x u) (hh : elemsOf h x = some (e :: es)) (hs : ∀ s, x ≠ .str s) (hsz : ∀ y ∈ e :: es, y.length = 1) :
  ∃ b o cap, u = .slice (some ⟨b, o, none⟩) (e :: es).length cap ∧ (e :: es).length ≤ cap ∧ Cel S w κ b o (e :: es).flatten := by
 cases x <;> simp only [elemsOf, reduceCtorEq, Option.some.injEq] at hh
 case str s => exact absurd rfl (hs s)
 case arr xs =>
  subst hh
  simp only [RV] at hx
  obtain ⟨a, cap, rfl, hcap, hx⟩ := hx
  rcases hx with hx | ⟨b, o, sz', rfl, hre⟩
  ·cases hx
  ·refine ⟨b, o, cap, rfl, hcap, wZa (sz := sz') _ o (fun i y hy => ?_)⟩
   obtain ⟨k1, k2⟩ := kZS hre hy
   exact ⟨k1, jZo k2⟩
 case sl id ep off len =>
  split at hh
  case h_2 => cases hh
  rename_i z xs cur wr hi
  obtain ⟨⟨rfl, hle⟩, hh2⟩ := zZN hh
  clear hh
  have hh : (xs.drop off).take len = e :: es := Option.some.inj hh2
  have hlen : len = (e :: es).length := by
   rw [← hh]
   simp
   omega
  obtain ⟨b, st, cp, a, k1, rfl, k2, k3, k4⟩ := sl_sound inv hi hx
  obtain ⟨b', st', cp', c, el, fr, f1, f2, f3, f4, f5, f6, f7, f8, f9, f10, f11⟩ := vZk inv hi
  rw [k1] at f1; cases f1
  have hz1 : z = 1 := by
   have he : e ∈ xs := by
    have : e ∈ (xs.drop off).take len := by rw [hh]; simp
    exact List.mem_of_mem_drop (List.mem_of_mem_take this)
   rw [← (f8 e he).1]
   exact hsz e (by simp)
  subst hz1
  have hpos : 0 < len := by rw [hlen]; simp
  have ha : a = ⟨b, (off - st) * 1, none⟩ := by
   rcases k4 with k4 | k4
   ·omega
   ·exact k4
  subst ha
  refine ⟨b, (off - st) * 1, _, by rw [hlen], by rw [← hlen]; omega, wZa (sz := 1) _ _ (fun i y hy => ⟨hsz y (List.mem_of_getElem? hy), ?_⟩)⟩
  have hyx : xs[off + i]? = some y := by
   have : ((xs.drop off).take len)[i]? = some y := by rw [hh]; exact hy
   rw [List.getElem?_take] at this
   split at this
   ·rwa [List.getElem?_drop] at this
   ·cases this
  have hrl := f9 (off + i) y (by omega) hyx
  intro j v hj
  have hl1 := hsz y (List.mem_of_getElem? hy)
  have hj0 : j = 0 := by
   have := (List.getElem?_eq_some_iff.1 hj).1
   omega
  subst hj0
  match y, hl1, hj with
  | [y0], _, hj =>
   simp only [List.getElem?_cons_zero, Option.some.injEq] at hj
   subst hj
   have hcl := qZS hrl
   simp only [List.length_cons, List.length_nil, Nat.mul_one] at hcl
   obtain ⟨c0, hc0⟩ : ∃ c0, (c.toList.drop ((off + i - st) * 1)).take 1 = [c0] := by
    match hd : (c.toList.drop ((off + i - st) * 1)).take 1, hcl with
    | [c0], _ => exact ⟨c0, rfl⟩
    | [], hcl => rw [Nat.mul_one] at hd; rw [hd] at hcl; cases hcl
    | _ :: _ :: _, hcl => rw [Nat.mul_one] at hd; rw [hd] at hcl; simp at hcl
   rw [hc0] at hrl
   refine ⟨c0, ?_, RL_one.1 hrl⟩
   rw [wZi w b _ f2]
   have : (c.toList.drop ((off + i - st) * 1))[0]? = some c0 := by
    have h2 := congrArg (·[0]?) hc0
    simpa using h2
   rw [List.getElem?_drop] at this
   rw [← Array.getElem?_toList]
   rw [← this]
   congr 1
   omega
theorem xZ9 : ∀ {es : List (List V)} {l : List ByteArray}, strsOf es = some l → es = l.map fun s => [V.str s]
 | [], l, h => by simp only [strsOf, Option.some.injEq] at h; subst h; rfl
 | e :: es, l, h => by
  unfold strsOf at h
  split at h
  ·rename_i heq; cases heq
  ·rename_i s r heq
   cases heq
   simp only [Option.map_eq_some_iff] at h
   obtain ⟨l', h1, rfl⟩ := h
   rw [xZ9 h1]
   rfl
  ·cases h
theorem flat1 : ∀ l : List ByteArray, (l.map fun s => [V.str s]).flatten = l.map V.str
 | [] => rfl
 | q :: l => by simp only [List.map_cons, List.flatten_cons, flat1 l, List.cons_append, List.nil_append]
theorem join_body {f : FuncId}
  (m0 : ∀ (a : Option Addr) (c : Nat) (sep : ByteArray) (w : World), Calls P f #[.slice a 0 c, .string sep] w fun e w' => e = .returned (.string ⟨#[]⟩) ∧ w' = w)
  (m1 : ∀ (bk o c : Nat) (xs : List ByteArray) (sep : ByteArray) (w : World) (hcells : ∀ (j : Nat) x, xs[j]? = some x → w.cell? ⟨bk, o + j, none⟩ = some (.string x)) (hbk : bk < w.heap.size) (hN : xs.length ≤ 140737488355328) (hcap : xs.length ≤ c)
   (hlen : (Lib.join (xs.map (·.data.toList)) sep.data.toList).length ≤ 140737488355328),
   Calls P f #[.slice (some ⟨bk, o, none⟩) xs.length c, .string sep] w fun e w' => e = .returned (.string ⟨(Lib.join (xs.map (·.data.toList)) sep.data.toList).toArray⟩) ∧ Below w.heap.size w w') : BodyS G P f (primF2 .join) :=
 kZd fun {B S w κ h a b v v2 z h'} inv hv hv2 he => by
  simp only [evPrim] at he
  split at he
  case h_2 => cases he
  rename_i x s hx
  cases hx
  split at he
  case h_2 => cases he
  rename_i es hes
  split at he
  case h_2 => cases he
  rename_i l hl
  obtain ⟨⟨hN, hlen⟩, he⟩ := zZN he
  obtain ⟨e1, e2⟩ := qZQ he
  cases e1
  simp only [RV] at hv2
  subst hv2
  have hns : ∀ s, a ≠ .str s := fun s e => by subst e; simp [bytesIn] at hes
  have hes' : elemsOf h a = some es := by
   cases a <;> simp only [bytesIn, reduceCtorEq] at hes <;> exact hes
  have hel := xZ9 hl
  refine ⟨e2, ?_⟩
  cases l with
  | nil =>
   simp only [List.map_nil] at hel
   subst hel
   obtain ⟨ad, c, rfl⟩ := xZ3 hv (jZA hes' hns)
   refine (m0 ad c s w).mono fun e w' he' => ?_
   obtain ⟨rfl, rfl⟩ := he'
   exact ⟨_, rfl, .refl _ _, by simp [RV, Lib.join]⟩
  | cons y l =>
   simp only [List.map_cons] at hel
   subst hel
   obtain ⟨bk, o, cap, rfl, hcap, hcel⟩ := sl_cells inv hv hes' hns (by
    intro q hq
    rcases List.mem_cons.1 hq with rfl | hq
    ·rfl
    ·obtain ⟨_, _, rfl⟩ := List.mem_map.1 hq
     rfl)
   have hfl : ([V.str y] :: l.map fun s => [V.str s]).flatten = (y :: l).map V.str := by
    simp only [List.flatten_cons, List.map_cons, List.cons_append, List.nil_append, List.cons.injEq, true_and]
    exact flat1 l
   rw [hfl] at hcel
   have hcells : ∀ (j : Nat) q, (y :: l)[j]? = some q → w.cell? ⟨bk, o + j, none⟩ = some (.string q) := fun j q hj => by
    obtain ⟨c, h1, h2⟩ := hcel j (.str q) (by simp only [List.getElem?_map, hj, Option.map_some])
    simp only [RV] at h2
    rw [h1, h2]
   have hbk : bk < w.heap.size := Lib.lt_of_cell (hcells 0 y rfl)
   have := m1 bk o cap (y :: l) s w hcells hbk (by unfold maxJ at hN; exact hN) (by simpa using hcap) (by unfold maxJ at hlen; exact hlen)
   simp only [List.length_cons, List.length_map] at this ⊢
   refine this.mono fun e w' he' => ?_
   obtain ⟨rfl, hb⟩ := he'
   exact ⟨_, rfl, hb, by simp only [RV]⟩
end
abbrev En := List (Nat × V)
structure St3 where
 n : Nat
 env : En
 marks : List Nat
 heap : Heap
def lk (i : Nat) : En → V
 | [] => V.non
 | (j, v) :: r => match Nat.beq i j with
  | true => v
  | false => lk i r
def pt (n : Nat) (e : En) (d : Option Nat) (v : V) : En :=
 match d with
 | none => e
 | some d => match Nat.blt d n with
  | true => (d, v) :: e
  | false => e
def sb (e : En) : Od → Od
 | .t i => fV (lk i e) fun v => .c v
 | .c v => .c v
def sbs (e : En) : List Od → List Od
 | [] => []
 | x :: r => sb e x :: sbs e r
def sbo (e : En) : Option Od → Option Od
 | none => none
 | some x => some (sb e x)
def sub3 (e : En) : Cop → Cop
 | .mov x => .mov (sb e x)
 | .pick c a b => .pick (sb e c) (sb e a) (sb e b)
 | .alloc z => .alloc z
 | .box x => .box (sb e x)
 | .build z ps => .build z (ps.map fun p => (p.1, p.2.1, sb e p.2.2))
 | .bslice z l s ps => .bslice z l s (ps.map fun p => (p.1, sb e p.2))
 | .load a x => .load a (sb e x)
 | .store n a x => .store n (sb e a) (sb e x)
 | .bin op x y => .bin op (sb e x) (sb e y)
 | .eqc n d x y => .eqc n d (sb e x) (sb e y)
 | .eqn k n x y => .eqn k n (sb e x) (sb e y)
 | .un op x => .un op (sb e x)
 | .conv d x => .conv d (sb e x)
 | .field o a x => .field o a (sb e x)
 | .faddr o x => .faddr o (sb e x)
 | .iaddr s x i => .iaddr s (sb e x) (sb e i)
 | .iaddrA l s x i => .iaddrA l s (sb e x) (sb e i)
 | .idxS x i => .idxS (sb e x) (sb e i)
 | .idxA l s a x i => .idxA l s a (sb e x) (sb e i)
 | .slice k s x lo hi => .slice k s (sb e x) (sbo e lo) (sbo e hi)
 | .ext x i => .ext (sb e x) i
 | .mki t x => .mki t (sb e x)
 | .mkf f a b => .mkf f (sbs e a) (sbs e b)
 | .mkm => .mkm
 | .mks z s b l c => .mks z s b (sb e l) (sb e c)
 | .look ks o z m k => .look ks o z (sb e m) (sb e k)
 | .mapup ks m k x => .mapup ks (sb e m) (sb e k) (sb e x)
 | .mapent ks z m k => .mapent ks z (sb e m) (sb e k)
 | .entst m s x => .entst (sb e m) (sb e s) (sb e x)
 | .len k x => .len k (sb e x)
 | .mx xs => .mx (sbs e xs)
 | .mn xs => .mn (sbs e xs)
 | .app s b x y => .app s b (sb e x) (sb e y)
 | .copy s d x => .copy s (sb e d) (sb e x)
 | .del ks m k => .del ks (sb e m) (sb e k)
 | .nilchk x => .nilchk (sb e x)
 | .slice3 x lo hi mx => .slice3 (sb e x) (sbo e lo) (sb e hi) (sb e mx)
 | .clr s z x => .clr s z (sb e x)
 | .ins s b x i y => .ins s b (sb e x) (sb e i) (sb e y)
 | .cln s b x => .cln s b (sb e x)
 | .atadd k x y => .atadd k (sb e x) (sb e y)
 | .atst k x y => .atst k (sb e x) (sb e y)
 | .atld k x => .atld k (sb e x)
 | .onceIn x f => .onceIn (sb e x) (sb e f)
 | .onceOut x => .onceOut (sb e x)
 | .rngs x => .rngs (sb e x)
 | .nxt x => .nxt (sb e x)
 | .inil n x => .inil n (sb e x)
 | .resv ds => .resv ds
 | .allocD d z => .allocD d z
 | .halt => .halt
 | .prim p xs => .prim p (sbs e xs)
 | .call f as => .call (sb e f) (sbs e as)
def wanted3 (e : En) (g : Option (Nat × Bool)) : Option Bool :=
 match g with
 | none => some true
 | some (j, w) =>
  match lk j e with
  | .bool b => some (b == w)
  | .tup [] => some false
  | _ => none
def evCp3 (call : CallF) (o : Cp) (s : St3) : Option St3 :=
 match wanted3 s.env o.guard with
 | some true =>
  match evOpC call [] s.heap (sub3 s.env o.op) with
  | some (v, h) => fV v fun v => fS (pt s.n s.env o.dst v) fun env => some { s with env, heap := h }
  | none => none
 | some false => fS (pt s.n s.env o.dst V.non) fun env => some { s with env }
 | none => none
def evOps3 (call : CallF) : List Cp → St3 → Option St3
 | [], s => some s
 | o :: r, s =>
  match evCp3 call o s with
  | some s' => evOps3 call r s'
  | none => none
def toL (n : Nat) (e : En) : List V := (List.range n).map fun i => lk i e
def ofL (l : List V) : En := (List.range l.length).zip l
def hk (i : Nat) : En → Bool
 | [] => false
 | (j, _) :: r => match Nat.beq i j with
  | true => true
  | false => hk i r
def same3 (k : Nat) (a b : St3) : Bool :=
 let A := a.env.take (a.env.length - k)
 let B := b.env.take (b.env.length - k)
 (A.all fun p => hk p.1 B && V.beq (lk p.1 A) (lk p.1 B)) && ((B.all fun p => hk p.1 A) && (a.marks == b.marks && beqH a.heap b.heap))
def evAny3 (call : CallF) (ops : List Cp) (af : List (List Nat)) (s : St3) : Option St3 :=
 match orders2 ops af ops.length (List.replicate ops.length false) with
 | some (l :: ls) =>
  match evOps3 call (l.filterMap (ops[·]?)) s with
  | some r => if ls.all (fun l' => match evOps3 call (l'.filterMap (ops[·]?)) s with | some r' => same3 s.env.length r' r | none => false) then some r else none
  | none => none
 | _ => none
def rounds3 (body : St3 → Option (Ex × St3)) : Nat → St3 → Option (Ex × St3)
 | 0, _ => none
 | n + 1, s =>
  match body s with
  | some (.normal, s') => rounds3 body n s'
  | r => r
def evCode3 (call : CallF) (lf : Nat) (rnd : Option Nat) : Cc → St3 → Option (Ex × St3)
 | .skip, s => some (.normal, s)
 | .region ops, s => (evOps3 call ops s).map fun s' => (.normal, s')
 | .draw ops af fl, s => (evAny3 call ops af s).map fun s' => (.normal, s')
 | .seq a b, s =>
  match evCode3 call lf rnd a s with
  | some (.normal, s') => evCode3 call lf rnd b s'
  | r => r
 | .cond c a b, s =>
  match sb s.env c with
  | .c (.bool t) => if t then evCode3 call lf rnd a s else evCode3 call lf rnd b s
  | _ => none
 | .block id c, s =>
  match evCode3 call lf rnd c s with
  | some (.exit i, s') => some (if i = id then .normal else .exit i, s')
  | r => r
 | .loop c, s => rounds3 (evCode3 call lf rnd c) lf s
 | .exit id, s => some (.exit id, s)
 | .ret, s => some (.ret, s)
 | .rfunc f ps asg body, s =>
  match sb s.env f with
  | .c (.fn (.func g) first caps) =>
   match rnd with
   | none => (evEnter call (.fn (.func g) first caps) (toL s.n s.env) ps asg body s.heap.length (s.heap ++ [Ob.defr false]) (s.heap.length :: s.marks)).map fun p => (p.1, { s with marks := p.2.marks, heap := p.2.heap })
   | some l =>
    match s.heap[l]? with
    | some (.loop _ _ _ _ _ _ df) => (evEnter call (.fn (.func g) first caps) (toL s.n s.env) ps asg body df s.heap s.marks).map fun p => (p.1, { s with marks := p.2.marks, heap := p.2.heap })
    | _ => none
  | _ => none
def evBody3 (call : CallF) (lf : Nat) (cf : Cf) (args : List V) (h : Heap) : Option (V × Heap) :=
 if cf.ntmps < args.length then none else
 match evCode3 call lf none cf.body { n := cf.ntmps, env := ofL args, marks := [], heap := h } with
 | some (.exit _, _) => none
 | some (_, s) =>
  match takeMarks s.heap s.marks with
  | none => none
  | some h1 =>
   match evRes (toL s.n s.env) h1 cf.results with
   | some [v] => some (v, h1)
   | some vs => some (.tup vs, h1)
   | none => none
 | none => none
def evCall3 (Φ : Nat → Option Cf) : Nat → CallF
 | 0, _, _, _ => none
 | n + 1, .fn (.func f) first caps, args, h =>
  match Φ f with
  | none => none
  | some cf =>
   if cf.pure then
    match mapH (fz fzDepth) h (first ++ args ++ caps) with
    | none => none
    | some (as, h1) =>
     fL as fun as => fS h1 fun h1 =>
     match evBody3 (evCall3 Φ n) n cf as [] with
     | none => none
     | some (r, h2) => (fz fzDepth h2 r).map fun p => (p.1, h1)
   else evBody3 (evCall3 Φ n) n cf (first ++ args ++ caps) h
 | n + 1, .fn (.yield l) _ _, args, h =>
  match h[l]? with
  | some (.loop .ready pend env ps asg body df) =>
   if args.length = ps.length then
    match evCode3 (evCall3 Φ n) n (some l) asg { n := (setMany env ps args).length, env := ofL (setMany env ps args), marks := [], heap := h } with
    | some (.normal, s1) =>
     match s1.heap[l]? with
     | some (.loop .ready pend' env' ps' asg' body' df') =>
      match evCode3 (evCall3 Φ n) n (some l) body { s1 with heap := s1.heap.set l (.loop .busy pend' env' ps' asg' body' df') } with
      | some (e, s2) =>
       match s2.heap[l]? with
       | some (.loop _ pend2 env2 ps2 asg2 body2 df2) =>
        match e with
        | .normal => some (.bool true, s2.heap.set l (.loop .ready none env2 ps2 asg2 body2 df2))
        | e => some (.bool false, s2.heap.set l (.loop .done (some e) env2 ps2 asg2 body2 df2))
       | _ => none
      | none => none
     | _ => none
    | _ => none
   else none
  | _ => none
 | _, _, _, _ => none
def R3 (a : St3) (s : St) : Prop := s.env.length = a.n ∧ (∀ i, eget s.env i = lk i a.env) ∧ s.marks = a.marks ∧ s.heap = a.heap
theorem sb_ev {e : En} {env : List V} (h : ∀ i, eget env i = lk i e) (x : Od) (env' : List V) : (sb e x).ev env' = x.ev env := by
 cases x with
 | t i => simp only [sb, fV_eq, Od.ev, h]
 | c v => rfl
theorem sbs_ev {e : En} {env : List V} (h : ∀ i, eget env i = lk i e) (env' : List V) : ∀ l : List Od, evs env' (sbs e l) = evs env l
 | [] => rfl
 | x :: l => by
  have := sbs_ev h env' l
  simp only [evs, sbs, List.map_cons, sb_ev h] at this ⊢
  rw [this]
theorem sbo_ev {e : En} {env : List V} (h : ∀ i, eget env i = lk i e) (env' : List V) (x : Option Od) : (sbo e x).map (·.ev env') = x.map (·.ev env) := by
 cases x with
 | none => rfl
 | some x => simp only [sbo, Option.map_some, sb_ev h]
theorem sub3_ev {call : CallF} {e : En} {env : List V} {h : Heap} (he : ∀ i, eget env i = lk i e) (op : Cop) : evOpC call [] h (sub3 e op) = evOpC call env h op := by
 cases op
 case cln => simp only [sub3, eo_cln, sb_ev he]
 case halt => rfl
 all_goals simp [-Od.ev, -evs, sub3, sb_ev he, sbs_ev he, sbo_ev he, List.map_map, Function.comp_def, evPick]
theorem wanted3_eq {e : En} {env : List V} (he : ∀ i, eget env i = lk i e) (g : Option (Nat × Bool)) : wanted env g = wanted3 e g := by
 cases g with
 | none => rfl
 | some g => obtain ⟨j, w⟩ := g; simp only [wanted, wanted3, he]; rfl
theorem pt_ev {n : Nat} {e : En} {env : List V} (hl : env.length = n) (he : ∀ i, eget env i = lk i e) (d : Option Nat) (v : V) : (putV env d v).length = n ∧ ∀ i, eget (putV env d v) i = lk i (pt n e d v) := by
 cases d with
 | none => exact ⟨hl, he⟩
 | some d =>
  simp only [putV, pt]
  refine ⟨by rw [List.length_set, hl], fun i => ?_⟩
  cases hb : Nat.blt d n with
  | true =>
   have hd : d < env.length := by rw [hl]; simpa [Nat.blt_eq] using hb
   simp only [lk]
   cases hi : Nat.beq i d with
   | true =>
    have : i = d := Nat.eq_of_beq_eq_true hi
    subst this
    simp only [eget, List.getD_eq_getElem?_getD, List.getElem?_set_self hd, Option.getD_some]
   | false =>
    have : i ≠ d := Nat.ne_of_beq_eq_false hi
    have h2 := he i
    simp only [eget, List.getD_eq_getElem?_getD, List.getElem?_set_ne (Ne.symm this)] at h2 ⊢
    exact h2
  | false =>
   have hd : ¬ d < env.length := by
    rw [hl]
    intro h
    have : Nat.blt d n = true := by simpa [Nat.blt_eq] using h
    rw [hb] at this
    cases this
   have : env.set d v = env := List.set_eq_of_length_le (by omega)
   rw [this]
   exact he i
theorem R3.env_eq {a : St3} {s : St} (h : R3 a s) : s.env = toL a.n a.env := by
 apply List.ext_getElem?
 intro i
 unfold toL
 by_cases hi : i < a.n
 ·have h2 := h.2.1 i
  rw [List.getElem?_map, List.getElem?_range hi, Option.map_some, ← h2]
  simp only [eget, List.getD_eq_getElem?_getD]
  rw [List.getElem?_eq_getElem (by rw [h.1]; exact hi)]
  rfl
 ·rw [List.getElem?_eq_none (by rw [h.1]; omega), List.getElem?_eq_none (by simp; omega)]
theorem lk_ofL (l : List V) (i : Nat) : lk i (ofL l) = eget l i := by
 unfold ofL eget
 rw [List.getD_eq_getElem?_getD]
 have : ∀ (l : List V) (o : Nat), o ≤ i → lk i ((List.range' o l.length).zip l) = (l[i - o]?).getD V.non := by
  intro l
  induction l with
  | nil => intro o _; rfl
  | cons x l ih =>
   intro o ho
   simp only [List.length_cons, List.range'_succ, List.zip_cons_cons, lk]
   cases hb : Nat.beq i o with
   | true =>
    have : i = o := Nat.eq_of_beq_eq_true hb
    subst this
    simp
   | false =>
    have hne : i ≠ o := Nat.ne_of_beq_eq_false hb
    simp only
    rw [ih (o + 1) (by omega), show i - o = (i - (o + 1)) + 1 by omega, List.getElem?_cons_succ]
 rw [List.range_eq_range']
 exact this l 0 (Nat.zero_le _)
theorem R3.of (n : Nat) (l : List V) (m : List Nat) (h : Heap) (hn : l.length ≤ n) : R3 { n, env := ofL l, marks := m, heap := h } { env := l ++ List.replicate (n - l.length) V.non, marks := m, heap := h } := by
 refine ⟨by simp; omega, fun i => ?_, rfl, rfl⟩
 rw [lk_ofL]
 simp only [eget, List.getD_eq_getElem?_getD]
 rw [List.getElem?_append]
 split
 ·rfl
 ·rename_i hi
  rw [List.getElem?_eq_none (l := l) (by omega), List.getElem?_replicate]
  split <;> rfl
section
variable {c d : CallF} (hcd : CLe c d)
include hcd
theorem cp3_of {o : Cp} {a a' : St3} {s : St} (hr : R3 a s) (h : evCp3 c o a = some a') : ∃ s', evCp d o s = some s' ∧ R3 a' s' := by
 obtain ⟨h1, h2, h3, h4⟩ := hr
 unfold evCp3 at h
 rw [← wanted3_eq h2] at h
 split at h
 ·rename_i hw
  rw [sub3_ev h2, ← h4] at h
  split at h
  ·rename_i v h' ho
   simp only [fV_eq, fS_eq, Option.some.injEq] at h
   subst h
   obtain ⟨q1, q2⟩ := pt_ev h1 h2 o.dst v
   have hcp : evCp c o s = some { s with env := putV s.env o.dst v, heap := h' } := by
    obtain ⟨od, op, og⟩ := o
    have := cp_evOpC (call := c) (s := s) (d := od) (op := op)
    rw [ho] at this
    unfold evCp at this ⊢
    simp only at hw
    rw [hw]
    simpa [wanted] using this
   exact ⟨_, cp_mono hcd hcp, q1, q2, h3, rfl⟩
  ·cases h
 ·rename_i hw
  simp only [fS_eq, Option.some.injEq] at h
  subst h
  obtain ⟨q1, q2⟩ := pt_ev h1 h2 o.dst V.non
  exact ⟨{ s with env := putV s.env o.dst V.non }, by unfold evCp; rw [hw], q1, q2, h3, h4⟩
 ·cases h
theorem ops3_of : ∀ (l : List Cp) {a a' : St3} {s : St}, R3 a s → evOps3 c l a = some a' → ∃ s', evOps d l s = some s' ∧ R3 a' s'
 | [], a, a', s, hr, h => by cases h; exact ⟨s, rfl, hr⟩
 | o :: l, a, a', s, hr, h => by
  simp only [evOps3] at h
  split at h
  ·rename_i a1 h1
   obtain ⟨s1, q1, q2⟩ := cp3_of hcd hr h1
   obtain ⟨s2, q3, q4⟩ := ops3_of l q2 h
   exact ⟨s2, by simp only [evOps, q1, q3], q4⟩
  ·cases h
omit hcd in
theorem cp3_ext {o : Cp} {a a' : St3} (h : evCp3 c o a = some a') : a'.n = a.n ∧ ∃ A, a'.env = A ++ a.env := by
 have hp : ∀ v, ∃ A, pt a.n a.env o.dst v = A ++ a.env := by
  intro v
  unfold pt
  cases o.dst with
  | none => exact ⟨[], rfl⟩
  | some d =>
   simp only
   split
   ·exact ⟨[(d, v)], rfl⟩
   ·exact ⟨[], rfl⟩
 unfold evCp3 at h
 split at h
 ·split at h
  ·simp only [fV_eq, fS_eq, Option.some.injEq] at h
   subst h
   exact ⟨rfl, hp _⟩
  ·cases h
 ·simp only [fS_eq, Option.some.injEq] at h
  subst h
  exact ⟨rfl, hp _⟩
 ·cases h
omit hcd in
theorem ops3_ext : ∀ (l : List Cp) {a a' : St3}, evOps3 c l a = some a' → a'.n = a.n ∧ ∃ A, a'.env = A ++ a.env
 | [], a, a', h => by cases h; exact ⟨rfl, [], rfl⟩
 | o :: l, a, a', h => by
  simp only [evOps3] at h
  split at h
  ·rename_i a1 h1
   obtain ⟨n1, A, e1⟩ := cp3_ext h1
   obtain ⟨n2, A', e2⟩ := ops3_ext l h
   exact ⟨n2.trans n1, A' ++ A, by rw [e2, e1, List.append_assoc]⟩
  ·cases h
omit hcd in
theorem lk_app (i : Nat) (r : En) : ∀ A : En, lk i (A ++ r) = cond (hk i A) (lk i A) (lk i r)
 | [] => rfl
 | (j, v) :: A => by
  simp only [List.cons_append, lk, hk]
  have ih := lk_app i r A
  generalize Nat.beq i j = q
  cases q
  ·exact ih
  ·rfl
omit hcd in
theorem hk_mem {i : Nat} : ∀ {A : En}, hk i A = true → ∃ v, (i, v) ∈ A
 | [], h => by cases h
 | (j, v) :: A, h => by
  simp only [hk] at h
  cases hb : Nat.beq i j with
  | true =>
   have : i = j := Nat.eq_of_beq_eq_true hb
   subst this
   exact ⟨v, by simp⟩
  | false =>
   rw [hb] at h
   obtain ⟨w, hw⟩ := hk_mem h
   exact ⟨w, by simp [hw]⟩
omit hcd in
theorem same3_eq {z a b : St3} {s t : St} (ha : R3 a s) (hb : R3 b t) (ea : a.n = z.n ∧ ∃ A, a.env = A ++ z.env) (eb : b.n = z.n ∧ ∃ A, b.env = A ++ z.env) (h : same3 z.env.length a b = true) : s = t := by
 obtain ⟨na, A, ea⟩ := ea
 obtain ⟨nb, B, eb⟩ := eb
 simp only [same3, Bool.and_eq_true, beq_iff_eq, List.all_eq_true] at h
 have hA : a.env.take (a.env.length - z.env.length) = A := by rw [ea]; simp
 have hB : b.env.take (b.env.length - z.env.length) = B := by rw [eb]; simp
 rw [hA, hB] at h
 obtain ⟨h1, h2, h3, h4⟩ := h
 have e4 := beqH_eq _ _ h4
 obtain ⟨a1, a2, a3, a4⟩ := ha
 obtain ⟨b1, b2, b3, b4⟩ := hb
 have he : s.env = t.env := by
  apply List.ext_getElem?
  intro i
  have hlk : eget s.env i = eget t.env i := by
   rw [a2, b2, ea, eb, lk_app, lk_app]
   cases hiA : hk i A with
   | true =>
    obtain ⟨v, hv⟩ := hk_mem hiA
    obtain ⟨q1, q2⟩ := h1 _ hv
    simp only at q1 q2
    rw [q1]
    exact V.beq_eq _ _ q2
   | false =>
    cases hiB : hk i B with
    | true =>
     obtain ⟨v, hv⟩ := hk_mem hiB
     have := h2 _ hv
     simp only at this
     rw [hiA] at this
     cases this
    | false => rfl
  by_cases hi : i < z.n
  ·have i1 : i < s.env.length := by omega
   have i2 : i < t.env.length := by omega
   simp only [eget, List.getD_eq_getElem?_getD, List.getElem?_eq_getElem i1, List.getElem?_eq_getElem i2, Option.getD_some] at hlk
   rw [List.getElem?_eq_getElem i1, List.getElem?_eq_getElem i2, hlk]
  ·rw [List.getElem?_eq_none (by omega), List.getElem?_eq_none (by omega)]
 cases s; cases t
 simp only [St.mk.injEq] at *
 exact ⟨he, by rw [a3, b3, h3], by rw [a4, b4, e4]⟩
theorem any3_of {ops : List Cp} {af : List (List Nat)} {fl : List Nat} {a a' : St3} {s : St} (hr : R3 a s) (h : evAny3 c ops af a = some a') : ∃ s', evAny d ops af fl ops.length (List.replicate ops.length false) s = some s' ∧ R3 a' s' := by
 unfold evAny3 at h
 split at h
 case h_2 => cases h
 rename_i l ls ho
 split at h
 case h_2 => cases h
 rename_i r0 h0
 split at h
 case isFalse => cases h
 rename_i hall
 cases h
 obtain ⟨s1, q1, q2⟩ := ops3_of hcd _ hr h0
 refine ⟨s1, any_ext _ _ s (by rw [left_rep]; exact Nat.le_refl _) (fun seq hseq => wZE _ _ _ ho (xZS _) seq s hseq (fun l' hl' => ?_)), q2⟩
 rcases List.mem_cons.1 hl' with rfl | hl'
 ·exact q1
 ·have := List.all_eq_true.1 hall l' hl'
  split at this
  ·rename_i r' h1
   obtain ⟨s2, q3, q4⟩ := ops3_of hcd _ hr h1
   rw [← same3_eq q4 q2 (ops3_ext _ h1) (ops3_ext _ h0) this]
   exact q3
  ·cases this
theorem xZ7 {b3 : St3 → Option (Ex × St3)} {b : St → Option (Ex × St)} (hb : ∀ a s e a', R3 a s → b3 a = some (e, a') → ∃ s', b s = some (e, s') ∧ R3 a' s') :
  ∀ (n : Nat) {a : St3} {s : St} {e : Ex} {a' : St3}, R3 a s → rounds3 b3 n a = some (e, a') → ∃ s', rounds b n s = some (e, s') ∧ R3 a' s'
 | 0, a, s, e, a', hr, h => by cases h
 | n + 1, a, s, e, a', hr, h => by
  simp only [rounds3] at h
  split at h
  ·rename_i a1 h1
   obtain ⟨s1, q1, q2⟩ := hb a s _ a1 hr h1
   obtain ⟨s2, q4, q5⟩ := xZ7 hb n q2 h
   exact ⟨s2, by simp only [rounds, q1, q4], q5⟩
  ·rename_i hne
   obtain ⟨s1, q1, q2⟩ := hb a s e a' hr h
   refine ⟨s1, ?_, q2⟩
   simp only [rounds, q1]
   cases e
   ·exact absurd h (hne a')
   ·rfl
   ·rfl
omit hcd in
theorem enter_env {call : CallF} {f : V} {env : List V} {ps : List Nat} {asg body : Cc} {df : Nat} {h1 : Heap} {m1 : List Nat} {e : Ex} {s : St} (h : evEnter call f env ps asg body df h1 m1 = some (e, s)) : s.env = env := by
 unfold evEnter at h
 split at h
 ·cases h
 ·split at h
  ·cases h
  ·cases h; rfl
  ·cases h
theorem vZH {lf : Nat} {rnd : Option Nat} : ∀ (x : Cc) {a : St3} {s : St} {e : Ex} {a' : St3}, R3 a s → evCode3 c lf rnd x a = some (e, a') → ∃ s', evCode d lf rnd x s = some (e, s') ∧ R3 a' s'
 | .skip, a, s, e, a', hr, h => by cases h; exact ⟨s, rfl, hr⟩
 | .region ops, a, s, e, a', hr, h => by
  simp only [evCode3, Option.map_eq_some_iff, Prod.mk.injEq] at h
  obtain ⟨a1, h1, rfl, rfl⟩ := h
  obtain ⟨s1, q1, q2⟩ := ops3_of hcd _ hr h1
  exact ⟨s1, by simp only [evCode, q1, Option.map_some], q2⟩
 | .draw ops af fl, a, s, e, a', hr, h => by
  simp only [evCode3, Option.map_eq_some_iff, Prod.mk.injEq] at h
  obtain ⟨a1, h1, rfl, rfl⟩ := h
  obtain ⟨s1, q1, q2⟩ := any3_of hcd (fl := if rnd.isNone then fl else []) hr h1
  exact ⟨s1, by simp only [evCode, q1, Option.map_some], q2⟩
 | .seq x y, a, s, e, a', hr, h => by
  simp only [evCode3] at h
  split at h
  ·rename_i a1 h1
   obtain ⟨s1, q1, q2⟩ := vZH x hr h1
   obtain ⟨s2, q3, q4⟩ := vZH y q2 h
   exact ⟨s2, by simp only [evCode, q1, q3], q4⟩
  ·rename_i hne
   obtain ⟨s1, q1, q2⟩ := vZH x hr h
   refine ⟨s1, ?_, q2⟩
   simp only [evCode, q1]
   cases e
   ·exact absurd h (hne a')
   ·rfl
   ·rfl
 | .cond o x y, a, s, e, a', hr, h => by
  simp only [evCode3] at h
  simp only [evCode]
  have ho := sb_ev hr.2.1 o []
  split at h
  ·rename_i t ht
   rw [ht] at ho
   have ho' : o.ev s.env = .bool t := ho.symm
   rw [ho']
   cases t
   ·exact vZH y hr h
   ·exact vZH x hr h
  ·cases h
 | .block id x, a, s, e, a', hr, h => by
  simp only [evCode3] at h
  split at h
  ·rename_i i a1 h1
   obtain ⟨s1, q1, q2⟩ := vZH x hr h1
   simp only [Option.some.injEq, Prod.mk.injEq] at h
   obtain ⟨rfl, rfl⟩ := h
   exact ⟨s1, by simp only [evCode, q1], q2⟩
  ·rename_i hne
   obtain ⟨s1, q1, q2⟩ := vZH x hr h
   refine ⟨s1, ?_, q2⟩
   simp only [evCode, q1]
   cases e
   ·rfl
   ·exact absurd h (hne _ a')
   ·rfl
 | .loop x, a, s, e, a', hr, h => by
  simp only [evCode3] at h
  simp only [evCode]
  exact xZ7 hcd (fun a s e a' hr hh => vZH x hr hh) lf hr h
 | .exit id, a, s, e, a', hr, h => by cases h; exact ⟨s, rfl, hr⟩
 | .ret, a, s, e, a', hr, h => by cases h; exact ⟨s, rfl, hr⟩
 | .rfunc f ps asg body, a, s, e, a', hr, h => by
  simp only [evCode3] at h
  simp only [evCode]
  have ho := sb_ev hr.2.1 f []
  have he := hr.env_eq
  obtain ⟨r1, r2, r3, r4⟩ := hr
  split at h
  ·rename_i g first caps hf
   rw [hf] at ho
   have ho' : f.ev s.env = .fn (.func g) first caps := ho.symm
   rw [ho']
   simp only
   rw [← he, ← r3, ← r4] at h
   cases rnd with
   | none =>
    simp only [Option.map_eq_some_iff, Prod.mk.injEq] at h ⊢
    obtain ⟨⟨e1, s1⟩, h1, rfl, rfl⟩ := h
    have := enter_env h1
    exact ⟨s1, wZ4 hcd h1, by rw [this]; exact r1, by rw [this]; exact r2, rfl, rfl⟩
   | some l =>
    simp only at h ⊢
    split at h
    ·rename_i hl
     rw [hl]
     simp only [Option.map_eq_some_iff, Prod.mk.injEq] at h ⊢
     obtain ⟨⟨e1, s1⟩, h1, rfl, rfl⟩ := h
     have := enter_env h1
     exact ⟨s1, wZ4 hcd h1, by rw [this]; exact r1, by rw [this]; exact r2, rfl, rfl⟩
    ·cases h
  ·cases h
theorem body3_of {lf : Nat} {cf : Cf} {args : List V} {h : Heap} {r : V × Heap} (hh : evBody3 c lf cf args h = some r) : evBody d lf cf args h = some r := by
 unfold evBody3 at hh
 unfold evBody
 split at hh
 ·cases hh
 rename_i hn
 rw [if_neg hn]
 split at hh
 ·cases hh
 ·rename_i e a hne hc
  obtain ⟨s, q1, q2⟩ := vZH hcd _ (R3.of cf.ntmps args [] h (by omega)) hc
  rw [q1]
  have he := q2.env_eq
  obtain ⟨_, _, r3, r4⟩ := q2
  rw [← he, ← r3, ← r4] at hh
  cases e
  ·exact hh
  ·exact absurd rfl (hne _)
  ·exact hh
 ·cases hh
end
theorem call3_of {Φ : Nat → Option Cf} : ∀ n, CLe (evCall3 Φ n) (evCall Φ n)
 | 0 => fun f a h r hh => by simp [evCall3] at hh
 | n + 1 => fun f a h r hh => by
  have ih := call3_of (Φ := Φ) n
  cases f
  case fn g first caps =>
   cases g
   case func f =>
    simp only [evCall3] at hh
    simp only [evCall]
    split at hh
    ·cases hh
    rename_i cf hf
    rw [hf]
    simp only
    split at hh
    ·rename_i hp
     rw [if_pos hp]
     split at hh
     ·cases hh
     rename_i as h1 hm
     simp only [fL_eq, fS_eq] at hh
     split at hh
     ·cases hh
     rename_i r1 h2 hb
     rw [hm]
     simp only
     rw [body3_of ih hb]
     exact hh
    ·rename_i hp
     rw [if_neg hp]
     exact body3_of ih hh
   case yield l =>
    simp only [evCall3] at hh
    simp only [evCall]
    split at hh
    case h_2 => cases hh
    rename_i pend env ps asg body df hl
    rw [hl]
    simp only
    split at hh
    case isFalse => cases hh
    rename_i hlen
    rw [if_pos hlen]
    split at hh
    case h_2 => cases hh
    rename_i a1 h1
    have r0 := R3.of (setMany env ps a).length (setMany env ps a) [] h (Nat.le_refl _)
    rw [Nat.sub_self, List.replicate_zero, List.append_nil] at r0
    obtain ⟨s1, q1, q2⟩ := vZH ih _ r0 h1
    rw [q1]
    simp only
    obtain ⟨t1, t2, t3, t4⟩ := q2
    rw [← t4] at hh
    split at hh
    case h_2 => cases hh
    rename_i pend' env' ps' asg' body' df' hl1
    split at hh
    case h_2 => cases hh
    rename_i e a2 h2
    rw [hl1]
    simp only
    obtain ⟨s2, q3, q4⟩ := vZH ih (a := { a1 with heap := s1.heap.set l (.loop .busy pend' env' ps' asg' body' df') }) (s := { s1 with heap := s1.heap.set l (.loop .busy pend' env' ps' asg' body' df') }) _ ⟨t1, t2, t3, rfl⟩ h2
    rw [q3]
    simp only
    rw [q4.2.2.2]
    exact hh
   all_goals (simp [evCall3] at hh)
  all_goals (simp [evCall3] at hh)
theorem callW_of3 {Φ : Nat → Option Cf} {n : Nat} {f : V} {a : List V} {h : Heap} {r : V × Heap} (hh : evCall3 Φ n f a h = some r) : callW Φ f a h = some r := jZx (call3_of n f a h r hh)
end Go.Ev
