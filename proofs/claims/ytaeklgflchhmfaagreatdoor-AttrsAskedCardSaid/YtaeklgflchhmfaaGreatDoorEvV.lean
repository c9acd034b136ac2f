/- Every operation that is no call of a function. Every operation that is no call of a function, whatever it does to memory. No conditions. -/
import Derived.Test.YtaeklgflchhmfaaGreatDoorEvS
set_option maxHeartbeats 16000000
set_option maxRecDepth 100000
set_option linter.unusedVariables false
set_option linter.unusedSimpArgs false
set_option linter.unusedSectionVars false
namespace Go.Ev
open Go.RowKit
section
variable {P : Program} {G : Glob} {B : Base G} {S : Cells} {w : World} {κ : Kap} {h : Heap}
theorem Same.exec {x : V} {o : Oper} {a : Act} {s : Sem Value} (hs : execOp a.eval o = (do pure (.value (← s)))) (hh : ∃ v, RV S w κ x v ∧ ∀ w', s.run P w' = .ok v w') :
  Same P S w κ x (execOp a.eval o) := by rw [hs]; exact Same.of hh
theorem xZL {op : BinOp} {t : TypeId} {px py : Operand} {x y z : V} {u v : Value} (hx : RV S w κ x u) (hy : RV S w κ y v) (hh : binV op x y = some z) :
  ∃ r, RV S w κ z r ∧ ∀ w', (do eqGuard op t px py u v; binOp op t u v : Sem Value).run P w' = .ok r w' := by
 obtain ⟨r, h1, h2⟩ := binV_sound (P := P) (t := t) hx hy hh
 refine ⟨r, h1, fun w' => ?_⟩
 have : u ≠ .nilIface ∧ ∀ c, u ≠ .agg c := by
  unfold binV at hh
  split at hh
  ·simp only [RV] at hx; subst hx; simp
  ·simp only [RV] at hx; subst hx; simp
  ·cases hh
 simp [xZX (P := P) (op := op) (t := t) (x := px) (y := py) (u := u) (v := v) this.1 this.2 w', h2 w']
theorem cBin_pure {op : BinOp} {t : TypeId} {x y : Od} {c : Cop} (hc : cBin P op t x y = some c) (hp : pureOp c = true) : c = .bin op x y := by
  unfold cBin at hc
  split at hc
  · split at hc
    all_goals first
      | (cases hc; rfl)
      | (split at hc
         · cases hc
         · simp only [Option.map_eq_some_iff] at hc
           obtain ⟨q, _, rfl⟩ := hc
           simp [pureOp] at hp)
      | (cases hc; simp [pureOp] at hp)
      | (split at hc
         · cases hc; simp [pureOp] at hp
         · cases hc)
      | cases hc
  · cases hc; rfl
theorem cB_pure {b : Builtin} {ts : List TypeId} {args : List Od} {c : Cop} (hc : cBuiltin P b ts args = some c) (hp : pureOp c = true) :
  ∃ t y, ∃ n : Nat, b = .len ∧ ts = [t] ∧ args = [y] ∧ c = .mov (.c (.int .i64 n)) ∧ ((∃ e, P.underlying t = some (.array n e)) ∨ ∃ p e, P.underlying t = some (.pointer p) ∧ P.underlying p = some (.array n e)) := by
 cases b
 case len =>
  obtain ⟨t, y, h1, h2, hlen⟩ := cB_len hc
  rcases hlen with ⟨ht, rfl⟩ | ⟨e, ht, rfl⟩ | ⟨k, e, ht, rfl⟩ | ⟨n, e, ht, rfl⟩ | ⟨p, n, e, ht, hq, rfl⟩
  ·simp [pureOp] at hp
  ·simp [pureOp] at hp
  ·simp [pureOp] at hp
  ·exact ⟨t, y, n, rfl, h1, h2, rfl, .inl ⟨e, ht⟩⟩
  ·exact ⟨t, y, n, rfl, h1, h2, rfl, .inr ⟨p, e, ht, hq⟩⟩
 case max => unfold cBuiltin at hc; simp at hc; subst hc; simp [pureOp] at hp
 case min => unfold cBuiltin at hc; simp at hc; subst hc; simp [pureOp] at hp
 case append =>
  obtain ⟨t, u, e, d, q, s, y, hts, rfl, h1, h2, h3, h4, rfl⟩ := cB_append hc
  simp [pureOp] at hp
 case copy =>
  obtain ⟨t, u, e, q, s, y, hts, rfl, h1, h4, rfl⟩ := cB_copy hc
  simp [pureOp] at hp
 case delete =>
  obtain ⟨t, u, kt, e, ks, s, y, hts, rfl, h1, h4, rfl⟩ := cB_delete hc
  simp [pureOp] at hp
 case clear =>
  obtain ⟨t, e, q, y, hts, rfl, h1, h4, rfl⟩ := cB_clear hc
  simp [pureOp] at hp
 all_goals (exfalso; unfold cBuiltin at hc; simp at hc)
theorem mki_run {t : TypeId} {d : TypeDesc} (ht : P.underlying t = some d) (hd : ∀ m, d ≠ .interface m) (v : Value) (w' : World) : (Instr.makeInterface t v).run P w' = .ok (.iface t v) w' := by
 unfold Instr.makeInterface
 simp [run_underlying ht]
theorem wZk {env : List V} {a : Act} (hr : RL S w κ env a.tmps.toList) {o : Option Operand} {d : Option Od} (h : optOd o = some d) : RO S w κ (d.map (·.ev env)) (o.map a.eval) := by
 cases o with
 | none =>
  simp only [optOd, Option.some.injEq] at h
  subst h
  trivial
 | some x =>
  simp only [optOd, Option.map_eq_some_iff] at h
  obtain ⟨y, hy, rfl⟩ := h
  exact zZ2 hr hy
theorem op_pure (inv : Inv P B S w κ h) {env : List V} {a : Act} (hr : RL S w κ env a.tmps.toList) {o : Oper} {c : Cop} (hc : cOp P o = some c) (hp : pureOp c = true)
  {x : V} {h' : Heap} (he : evOp env h c = some (x, h')) : h' = h ∧ Same P S w κ x (execOp a.eval o) := by
 unfold cOp at hc
 split at hc
 case h_1 y ho =>
  simp only [Option.map_eq_some_iff] at hc
  obtain ⟨d, hd, rfl⟩ := hc
  simp only [evOp, Option.some.injEq, Prod.mk.injEq] at he
  obtain ⟨rfl, rfl⟩ := he
  exact ⟨rfl, _, zZ2 hr hd, fun w' => by simp [execOp, ho]⟩
 case h_2 y ho =>
  simp only [Option.map_eq_some_iff] at hc
  obtain ⟨d, hd, rfl⟩ := hc
  simp only [evOp, Option.some.injEq, Prod.mk.injEq] at he
  obtain ⟨rfl, rfl⟩ := he
  exact ⟨rfl, _, zZ2 hr hd, fun w' => by simp [execOp, ho]⟩
 case h_3 y z1 z2 ho =>
  split at hc
  ·rename_i d e f hd he' hf
   cases hc
   simp only [evOp, evPick] at he
   split at he
   ·rename_i b hb
    have h1 := zZ2 hr hd
    rw [hb] at h1
    simp only [RV] at h1
    split at he
    ·rename_i hb; subst hb; cases he
     exact ⟨rfl, _, zZ2 hr he', fun w' => by simp [execOp, ho, h1, asBool]⟩
    ·rename_i hb; simp at hb; subst hb; cases he
     exact ⟨rfl, _, zZ2 hr hf, fun w' => by simp [execOp, ho, h1, asBool]⟩
   ·cases he
  ·cases hc
 case h_4 => simp only [Option.map_eq_some_iff] at hc; obtain ⟨d, hd, rfl⟩ := hc; simp [pureOp] at hp
 case h_5 => simp only [Option.map_eq_some_iff] at hc; obtain ⟨d, hd, rfl⟩ := hc; simp [pureOp] at hp
 case h_6 t parts ho =>
  split at hc
  ·rename_i fs z ht hz
   split at hc
   ·cases hc
   ·rename_i hf
    simp only [Option.map_eq_some_iff] at hc
    obtain ⟨l, hl, rfl⟩ := hc
    simp only [evOp] at he
    obtain ⟨e, hs⟩ := jZw hr ht hz (by simpa [Option.isSome_iff_ne_none] using hf) hl he
    exact ⟨e, Same.exec (by simp [execOp, ho]) hs⟩
  ·rename_i n e z ht hz
   simp only [Option.bind_eq_some_iff, Option.map_eq_some_iff] at hc
   obtain ⟨s, hs, l, hl, rfl⟩ := hc
   simp only [evOp] at he
   obtain ⟨e, hs⟩ := jZU hr ht hz hs hl he
   exact ⟨e, Same.exec (by simp [execOp, ho]) hs⟩
  ·cases hc
 case h_7 =>
  split at hc
  ·split at hc
   ·split at hc
    ·cases hc
    ·simp only [Option.map_eq_some_iff] at hc; obtain ⟨d, hd, rfl⟩ := hc; simp [pureOp] at hp
   ·cases hc
  ·cases hc
 case h_8 => split at hc <;> (cases hc; simp [pureOp] at hp)
 case h_9 => split at hc <;> cases hc; simp [pureOp] at hp
 case h_10 y ho =>
  simp only [Option.map_eq_some_iff] at hc
  obtain ⟨d, hd, rfl⟩ := hc
  simp only [evOp] at he
  have hy := zZ2 hr hd
  obtain ⟨rfl, rfl, q⟩ := nilchk_sound hy he
  refine ⟨rfl, _, hy, fun w' => ?_⟩
  obtain ⟨b, q⟩ := q
  rcases q with q | ⟨f, b, d, q | q⟩ <;> simp [execOp, ho, q]
 case h_11 op t px py _ ho =>
  split at hc
  ·rename_i d e hd he'
   have := cBin_pure hc hp
   subst this
   simp only [evOp] at he
   obtain ⟨e1, e2⟩ := qZQ he
   exact ⟨e2, Same.exec (s := do eqGuard op t px py (a.eval px) (a.eval py); binOp op t (a.eval px) (a.eval py)) (by simp [execOp, ho]) (xZL (zZ2 hr hd) (zZ2 hr he') e1)⟩
  ·cases hc
 case h_12 op _ y ho =>
  simp only [Option.map_eq_some_iff] at hc
  obtain ⟨d, hd, rfl⟩ := hc
  simp only [evOp] at he
  obtain ⟨e1, e2⟩ := qZQ he
  exact ⟨e2, Same.exec (by simp [execOp, ho]) (unV_sound (zZ2 hr hd) e1)⟩
 case h_13 s d y ho =>
  simp only [Option.bind_eq_some_iff] at hc
  obtain ⟨e, hd, hc⟩ := hc
  have hy := zZ2 hr hd
  unfold cConv at hc
  split at hc
  ·rename_i k1 k2 hs hdd
   cases hc
   simp only [evOp, evConv] at he
   split at he
   ·rename_i k n hx
    obtain ⟨e1, e2⟩ := qZQ he
    cases e1
    rw [hx] at hy
    simp only [RV] at hy
    exact ⟨e2, Same.exec (by simp [execOp, ho]; rfl) ⟨_, rfl, fun w' => by simp [convert, run_underlying hs, run_underlying hdd, hy, Conv.intToInt]⟩⟩
   ·cases he
  ·rename_i hs hdd
   cases hc
   simp only [evOp, evConv] at he
   split at he
   ·rename_i q hx
    simp only [Option.some.injEq, Prod.mk.injEq] at he
    obtain ⟨rfl, rfl⟩ := he
    rw [hx] at hy
    simp only [RV] at hy
    exact ⟨rfl, Same.exec (by simp [execOp, ho]; rfl) ⟨_, rfl, fun w' => by simp [convert, run_underlying hs, run_underlying hdd, hy]⟩⟩
   ·cases he
  ·split at hc <;> cases hc
   simp [pureOp] at hp
  ·split at hc <;> cases hc
   simp [pureOp] at hp
  ·cases hc; simp [pureOp] at hp
  ·cases hc
 case h_14 t y ho =>
  split at hc
  ·cases hc
  ·rename_i d hd ht
   simp only [Option.map_eq_some_iff] at hc
   obtain ⟨e, he', rfl⟩ := hc
   simp only [evOp, Option.some.injEq, Prod.mk.injEq] at he
   obtain ⟨rfl, rfl⟩ := he
   exact ⟨rfl, Same.exec (s := Instr.makeInterface t (a.eval y)) (by simp [execOp, ho]) ⟨_, ⟨_, rfl, zZ2 hr he'⟩, mki_run ht (fun m e => hd m e) _⟩⟩
  ·cases hc
 case h_15 f fi ca ho =>
  split at hc
  ·cases hc
  ·rename_i hy
   split at hc
   ·rename_i d e hd he'
    cases hc
    simp only [evOp, fS_eq, Option.some.injEq, Prod.mk.injEq] at he
    obtain ⟨rfl, rfl⟩ := he
    refine ⟨rfl, .func f (fi.map a.eval) (ca.map a.eval), ?_, fun w' => by simp [execOp, ho, Instr.makeFunc]⟩
    have e1 := vZ7 hr _ _ hd
    have e2 := vZ7 hr _ _ he'
    cases f
    case yield => simp [isYield] at hy
    all_goals exact ⟨_, _, rfl, by simpa using e1, by simpa using e2⟩
   ·cases hc
 case h_16 => cases hc; simp [pureOp] at hp
 case h_17 =>
  split at hc
  ·split at hc
   ·cases hc; simp [pureOp] at hp
   ·cases hc
  ·cases hc
 case h_18 t y lo hi ho =>
  split at hc
  ·rename_i d lo' hi' ht hd hlo hhi
   cases hc
   simp only [evOp] at he
   obtain ⟨e1, e2⟩ := qZQ he
   exact ⟨e2, Same.exec (by simp [execOp, ho]) (sliceS_sound ht (zZ2 hr hd) (wZk hr hlo) (wZk hr hhi) e1)⟩
  ·rename_i e d lo' hi' ht hd hlo hhi
   simp only [Option.map_eq_some_iff] at hc
   obtain ⟨s, hs, rfl⟩ := hc
   simp only [evOp] at he
   obtain ⟨e1, e2⟩ := qZQ he
   exact ⟨e2, Same.exec (by simp [execOp, ho]) (sliceL_sound inv ht hs (zZ2 hr hd) (wZk hr hlo) (wZk hr hhi) e1)⟩
  ·cases hc
 case h_19 t y f ho =>
  split at hc
  ·rename_i fs d ht hd
   simp only [Option.bind_eq_some_iff] at hc
   obtain ⟨g, hg, s, hs, hc⟩ := hc
   split at hc
   ·cases hc
   ·rename_i h0
    cases hc
    simp only [evOp] at he
    obtain ⟨e1, e2⟩ := qZQ he
    exact ⟨e2, Same.exec (by simp [execOp, ho]) (faddrV_sound ht hg hs h0 (zZ2 hr hd) e1)⟩
  ·cases hc
 case h_20 t y f ho =>
  split at hc
  ·rename_i fs d ht hd
   simp only [Option.bind_eq_some_iff, Option.map_eq_some_iff] at hc
   obtain ⟨g, hg, ag, ha, rfl⟩ := hc
   simp only [evOp] at he
   obtain ⟨e, hs⟩ := field_sound ht hg ha (zZ2 hr hd) he
   exact ⟨e, Same.exec (by simp [execOp, ho]) hs⟩
  ·cases hc
 case h_21 t y i ho =>
  split at hc
  ·rename_i e d j ht hd hj
   simp only [Option.bind_eq_some_iff] at hc
   obtain ⟨s, hs, hc⟩ := hc
   split at hc
   ·cases hc
   ·cases hc
    simp only [evOp] at he
    obtain ⟨e1, e2⟩ := qZQ he
    exact ⟨e2, Same.exec (by simp [execOp, ho]) (iaddrV_sound inv ht hs (zZ2 hr hd) (zZ2 hr hj) e1)⟩
  ·rename_i n e d j ht hd hj
   simp only [Option.bind_eq_some_iff] at hc
   obtain ⟨s, hs, hc⟩ := hc
   split at hc
   ·cases hc
   ·cases hc
    simp only [evOp] at he
    obtain ⟨e, hs⟩ := iaddrA_sound ht hs (zZ2 hr hd) (zZ2 hr hj) he
    exact ⟨e, Same.exec (by simp [execOp, ho]) hs⟩
  ·cases hc
 case h_22 t y i ho =>
  split at hc
  ·rename_i d j ht hd hj
   cases hc
   simp only [evOp] at he
   obtain ⟨e, hs⟩ := idxS_sound ht (zZ2 hr hd) (zZ2 hr hj) he
   exact ⟨e, Same.exec (by simp [execOp, ho]) hs⟩
  ·split at hc
   ·cases hc; simp [pureOp] at hp
   ·cases hc
  ·cases hc
 case h_23 =>
  split at hc
  ·split at hc <;> cases hc
   simp [pureOp] at hp
  ·cases hc
 case h_24 =>
  split at hc
  ·simp only [Option.map_eq_some_iff] at hc; obtain ⟨d, hd, rfl⟩ := hc; simp [pureOp] at hp
  ·cases hc
 case h_25 =>
  split at hc
  ·simp only [Option.map_eq_some_iff] at hc; obtain ⟨d, hd, rfl⟩ := hc; simp [pureOp] at hp
  ·cases hc
 case h_26 =>
  split at hc
  ·split at hc <;> cases hc
   simp [pureOp] at hp
  ·cases hc
 case h_27 => split at hc <;> cases hc; simp [pureOp] at hp
 case h_28 y i ho =>
  simp only [Option.map_eq_some_iff] at hc
  obtain ⟨d, hd, rfl⟩ := hc
  simp only [evOp] at he
  obtain ⟨e, hs⟩ := ext_sound (zZ2 hr hd) he
  exact ⟨e, Same.exec (by simp [execOp, ho]) hs⟩
 case h_29 cl ho =>
  split at hc
  ·rename_i b args hb ha
   obtain ⟨t, y, n, rfl, h1, rfl, rfl, hq⟩ := cB_pure hc hp
   simp only [evOp, Od.ev, Option.some.injEq, Prod.mk.injEq] at he
   obtain ⟨rfl, rfl⟩ := he
   obtain ⟨o1, r, hl, g1, g2⟩ := wZT ha
   have := kZK g2
   subst this
   refine ⟨rfl, Same.exec (s := Builtin.len_ #[t] o.type #[a.eval o1]) (by simp [execOp, ho, resolve, hb, invoke, builtin, arr1 h1, arr1 hl]) ⟨_, rfl, fun w' => ?_⟩⟩
   rcases hq with ⟨e, ht⟩ | ⟨p, e, ht, hq⟩
   ·simp [Builtin.len_, run_underlying ht, goInt]
   ·simp [Builtin.len_, run_underlying ht, run_underlying hq, goInt]
  ·simp only [Option.map_eq_some_iff] at hc; obtain ⟨d, hd, rfl⟩ := hc; simp [pureOp] at hp
  ·cases hc
 case h_30 t y lo hi mx ho =>
  split at hc
  ·simp only [Option.map_eq_some_iff] at hc
   obtain ⟨s, hs, rfl⟩ := hc
   simp [pureOp] at hp
  ·cases hc
 case h_31 t y ho =>
  split at hc
  ·cases hc; simp [pureOp] at hp
  ·cases hc
 case h_32 y ho =>
  simp only [Option.map_eq_some_iff] at hc
  obtain ⟨d, hd, rfl⟩ := hc
  simp [pureOp] at hp
 case h_33 => cases hc
end
open Go.RowKit
section
variable {P : Program} {G : Glob} {B : Base G} {S : Cells} {w : World} {κ : Kap} {h : Heap}
theorem optOd_sound {env : List V} {a : Act} (hr : RL S w κ env a.tmps.toList) {o : Option Operand} {d : Option Od} (h : optOd o = some d) : RO S w κ (d.map (·.ev env)) (o.map a.eval) := by
 cases o with
 | none => simp [optOd] at h; subst h; trivial
 | some x =>
  simp only [optOd, Option.map_eq_some_iff] at h
  obtain ⟨e, he, rfl⟩ := h
  exact zZ2 hr he
theorem Good.ex {x : V} {h' : Heap} {o : Oper} {a : Act} {s : Sem Next} (hs : execOp a.eval o = s) (hg : Good P B S w κ h' x s) : Good P B S w κ h' x (execOp a.eval o) := by rw [hs]; exact hg
theorem eqd_guard {t : TypeId} (h : P.eqGuardType P.depth t = false) {op : BinOp} {px py : Operand} {u v : Value} (hu : u ≠ .nilIface) (w' : World) :
  (eqGuard op t px py u v).run P w' = .ok () w' := by
 unfold eqGuard
 cases op <;> simp
 all_goals
  cases u <;> cases v <;> simp_all
def plainV : Value → Bool
 | .bool _ | .agg _ | .pointer _ | .slice _ _ _ | .map _ | .func _ _ _ | .nilFunc => true
 | _ => false
theorem binOp_eql {t : TypeId} {u v : Value} (hu : plainV u = true) : binOp .eql t u v = (do pure (.bool (← Op.equal t u v))) := by
 cases u <;> simp [plainV] at hu <;> cases v <;> rfl
theorem binOp_neq {t : TypeId} {u v : Value} (hu : plainV u = true) : binOp .neq t u v = (do pure (.bool (!(← Op.equal t u v)))) := by
 cases u <;> simp [plainV] at hu <;> cases v <;> rfl
def isNeq (op : BinOp) : Bool := op matches .neq
theorem xZ2 {op : BinOp} (h : isEq op = true) : op = .eql ∨ op = .neq := by cases op <;> simp [isEq] at h <;> simp
theorem eq_run {op : BinOp} {t : TypeId} {px py : Operand} {u v : Value} (ho : isEq op = true) (hu : plainV u = true)
  (hg : ∀ w', (eqGuard op t px py u v).run P w' = .ok () w') {r : Bool} (hr : ∀ w', (Op.equal t u v).run P w' = .ok r w') (w' : World) :
  (do eqGuard op t px py u v; binOp op t u v : Sem Value).run P w' = .ok (.bool (r != isNeq op)) w' := by
 rcases xZ2 ho with rfl | rfl
 ·simp [hg, binOp_eql hu, hr, isNeq]
 ·simp [hg, binOp_neq hu, hr, isNeq]
theorem nil_plain {k : Lk} {x : V} {u : Value} {b : Bool} (hx : RV S w κ x u) (hh : nilOf k x = some b) : plainV u = true ∧ (∀ c, u ≠ .agg c) ∧ u ≠ .nilIface := by
 have := jZk hx hh
 cases k
 ·rcases this with ⟨_, rfl⟩ | ⟨_, a, rfl⟩ <;> simp [plainV]
 ·cases x <;> simp [nilOf] at hh
  ·simp only [RV] at hx; subst hx; simp [plainV]
  ·simp only [RV] at hx; obtain ⟨a, c, rfl, _⟩ := hx; simp [plainV]
  ·simp only [RV] at hx; obtain ⟨e, b, st, cp, sz, a, c, _, _, rfl, _⟩ := hx; simp [plainV]
 ·cases x <;> simp [nilOf] at hh
  ·simp only [RV] at hx; subst hx; simp [plainV]
  ·simp only [RV] at hx; obtain ⟨b, _, rfl⟩ := hx; simp [plainV]
 ·cases x <;> simp [nilOf] at hh
  ·simp only [RV] at hx; subst hx; simp [plainV]
  ·rename_i f a c _
   cases f <;> (simp only [RV] at hx; obtain ⟨a', hx⟩ := hx; first | (obtain ⟨c', rfl, _⟩ := hx; simp [plainV]) | (obtain ⟨_, rfl, _⟩ := hx; simp [plainV]))
 ·simp [nilOf] at hh
theorem xZ1 {t : TypeId} {ms : Array (String × TypeId)} (ht : P.underlying t = some (.interface ms)) (D : Nat) (w' : World) :
  (Op.equalIn (D + 1) t .nilIface .nilIface).run P w' = .ok true w' ∧ ∀ a b, (Op.equalIn (D + 1) t (.iface a b) .nilIface).run P w' = .ok false w' :=
 ⟨by simp only [Op.equalIn, Sem.run_bind, run_underlying ht, Result.andThen_ok, Sem.run_pure], fun a b => by simp only [Op.equalIn, Sem.run_bind, run_underlying ht, Result.andThen_ok, Sem.run_pure]⟩
theorem inil_run {op : BinOp} {t : TypeId} {px : Operand} {vc u : Value} {r : Bool} (ho : isEq op = true) (hu : u = .nilIface ∨ ∃ a b, u = .iface a b) (hr : ∀ w', (Op.equal t u .nilIface).run P w' = .ok r w') (w' : World) :
  (do eqGuard op t px (.const vc) u .nilIface; binOp op t u .nilIface : Sem Value).run P w' = .ok (.bool (r != isNeq op)) w' := by
 have e1 : binOp .eql t u .nilIface = (do pure (.bool (← Op.equal t u .nilIface))) := by rcases hu with rfl | ⟨a, b, rfl⟩ <;> rfl
 have e2 : binOp .neq t u .nilIface = (do pure (.bool (!(← Op.equal t u .nilIface)))) := by rcases hu with rfl | ⟨a, b, rfl⟩ <;> rfl
 have hg : ∀ op, (eqGuard op t px (.const vc) u .nilIface).run P w' = .ok () w' := by
  intro op
  rcases hu with rfl | ⟨a, b, rfl⟩ <;> (unfold eqGuard; cases op <;> simp)
 rcases xZ2 ho with rfl | rfl
 ·simp [hg, e1, hr, isNeq]
 ·simp [hg, e2, hr, isNeq]
theorem bin_sound (inv : Inv P B S w κ h) {op : BinOp} {t : TypeId} {px py : Operand} {x y : Od} {env : List V} {a : Act} (hr : RL S w κ env a.tmps.toList) (hx : cOd px = some x) (hy : cOd py = some y)
  {c : Cop} (hc : cBin P op t x y = some c) {z : V} {h' : Heap} (he : evOp env h c = some (z, h')) :
  h' = h ∧ ∃ r, RV S w κ z r ∧ ∀ w', (do eqGuard op t px py (a.eval px) (a.eval py); binOp op t (a.eval px) (a.eval py) : Sem Value).run P w' = .ok r w' := by
 have rx := zZ2 hr hx
 have ry := zZ2 hr hy
 have hbin : evOp env h (.bin op x y) = some (z, h') → h' = h ∧ ∃ r, RV S w κ z r ∧ ∀ w', (do eqGuard op t px py (a.eval px) (a.eval py); binOp op t (a.eval px) (a.eval py) : Sem Value).run P w' = .ok r w' := by
  intro he
  simp only [evOp] at he
  obtain ⟨e1, e2⟩ := qZQ he
  exact ⟨e2, xZL rx ry e1⟩
 have heqn : ∀ k, nkT P t k → isEq op = true → evOp env h (.eqn k (isNeq op) x y) = some (z, h') →
   h' = h ∧ ∃ r, RV S w κ z r ∧ ∀ w', (do eqGuard op t px py (a.eval px) (a.eval py); binOp op t (a.eval px) (a.eval py) : Sem Value).run P w' = .ok r w' := by
  intro k hk hop he
  simp only [evOp, evEqn] at he
  split at he
  ·rename_i r hq
   obtain ⟨e1, e2⟩ := qZQ he
   cases e1
   refine ⟨e2, _, rfl, ?_⟩
   have : ∃ b, nilOf k (x.ev env) = some b := by
    unfold eqnV at hq
    split at hq
    ·exact ⟨_, by assumption⟩
    ·exact ⟨_, by assumption⟩
    ·cases hq
   obtain ⟨b, hb⟩ := this
   obtain ⟨h1, h2, h3⟩ := nil_plain rx hb
   exact eq_run hop h1 (fun w' => xZX h3 h2 w') (fun w' => eqn_sound hk rx ry hq 9999 w')
  ·cases he
 have heqc : ∀ q, isEq op = true → P.eqGuardType P.depth t = false → eqD P 20 t = some q → (q = .leaf .b ∨ ∃ a b c d, q = .cons a b c d) → evOp env h (.eqc (isNeq op) q x y) = some (z, h') →
   h' = h ∧ ∃ r, RV S w κ z r ∧ ∀ w', (do eqGuard op t px py (a.eval px) (a.eval py); binOp op t (a.eval px) (a.eval py) : Sem Value).run P w' = .ok r w' := by
  intro q hop hg hq hqc he
  simp only [evOp, evEqc] at he
  split at he
  ·rename_i r hqv
   obtain ⟨e1, e2⟩ := qZQ he
   cases e1
   refine ⟨e2, _, rfl, ?_⟩
   have : plainV (a.eval px) = true ∧ a.eval px ≠ .nilIface := by
    rcases hqc with rfl | ⟨_, _, _, _, rfl⟩
    ·obtain ⟨b1, b2, e1, _⟩ := cellEq_b (by simpa [eqdV] using hqv)
     rw [e1] at rx; simp only [RV] at rx; rw [rx]; simp [plainV]
    ·obtain ⟨xs, ys, e1, _⟩ := wZV hqv
     rw [e1] at rx; simp only [RV] at rx; obtain ⟨c, rx, _⟩ := rx; rw [rx]; simp [plainV]
   exact eq_run hop this.1 (fun w' => eqd_guard hg this.2 w') (fun w' => jZ2 20 t q hq _ _ _ _ _ rx ry hqv Op.maxDepth w' (by decide))
  ·cases he
 unfold cBin at hc
 split at hc
 ·rename_i hop
  split at hc
  ·cases hc; exact hbin he
  ·cases hc; exact hbin he
  ·rename_i ht
   split at hc
   ·cases hc
   ·rename_i hg
    simp only [Option.map_eq_some_iff] at hc
    obtain ⟨q, hq, rfl⟩ := hc
    refine heqc q hop (by simpa using hg) hq (.inl ?_) he
    unfold eqD at hq
    rw [ht] at hq
    simpa using hq.symm
  ·rename_i fs ht
   split at hc
   ·cases hc
   ·rename_i hg
    simp only [Option.map_eq_some_iff] at hc
    obtain ⟨q, hq, rfl⟩ := hc
    refine heqc q hop (by simpa using hg) hq (.inr ?_) he
    unfold eqD at hq
    rw [ht] at hq
    simp only at hq
    split at hq
    ·cases hq
    ·simp only [Option.bind_eq_some_iff] at hq
     obtain ⟨q0, _, hq⟩ := hq
     obtain ⟨rfl, h⟩ := wZX hq
     exact h
  ·rename_i n e ht
   split at hc
   ·cases hc
   ·rename_i hg
    simp only [Option.map_eq_some_iff] at hc
    obtain ⟨q, hq, rfl⟩ := hc
    refine heqc q hop (by simpa using hg) hq (.inr ?_) he
    unfold eqD at hq
    rw [ht] at hq
    simp only [Option.bind_eq_some_iff] at hq
    obtain ⟨s, _, ag, _, q0, _, hq⟩ := hq
    obtain ⟨rfl, h⟩ := wZX hq
    exact h
  ·rename_i e ht; cases hc; exact heqn .l ⟨_, ht⟩ hop he
  ·rename_i k e ht; cases hc; exact heqn .m ⟨_, _, ht⟩ hop he
  ·rename_i k e f ht; cases hc; exact heqn .f ⟨_, _, _, ht⟩ hop he
  ·rename_i e ht; cases hc; exact heqn .p ⟨_, ht⟩ hop he
  ·rename_i ms ht
   split at hc
   ·cases hc
    have hyc : ∃ v, py = .const v := by
     cases py with
     | const v => exact ⟨v, rfl⟩
     | tmp t => simp [cOd] at hy
     | func f => simp [cOd] at hy
     | global g => simp [cOd] at hy
    obtain ⟨vc, rfl⟩ := hyc
    have hv : a.eval (.const vc) = .nilIface := by simpa only [Od.ev, RV] using ry
    rw [hv]
    simp only [evOp, evInil] at he
    split at he
    ·rename_i hxe
     simp only [Option.some.injEq, Prod.mk.injEq] at he
     obtain ⟨rfl, rfl⟩ := he
     rw [hxe] at rx
     simp only [RV] at rx
     rw [rx]
     exact ⟨rfl, _, rfl, fun w' => inil_run hop (.inl rfl) (fun w' => (xZ1 ht 9999 w').1) w'⟩
    ·rename_i t' v' hxe
     simp only [Option.some.injEq, Prod.mk.injEq] at he
     obtain ⟨rfl, rfl⟩ := he
     rw [hxe] at rx
     simp only [RV] at rx
     obtain ⟨u', hu, _⟩ := rx
     rw [hu]
     exact ⟨rfl, _, rfl, fun w' => inil_run hop (.inr ⟨_, _, rfl⟩) (fun w' => (xZ1 ht 9999 w').2 _ _) w'⟩
    ·cases he
   ·cases hc
  ·cases hc
 ·cases hc; exact hbin he
end
end Go.Ev
