/- sync.Once's slow road, over whatever it calls. No conditions. -/
import Derived.Test.YtgfebbhjpgkdfaaLpPrim
namespace Go.Proofs.Lp
open Go Go.Ev
set_option linter.unusedVariables false

set_option maxRecDepth 100000 in
set_option maxHeartbeats 3200000 in
theorem slow_walk (b off g g2 : Nat) (cs cs2 : Array Value) (w : World) (R : Ending → World → Prop)
    (h0 : w.cell? ⟨b, off, none⟩ = some (.int .u32 0)) (h1 : w.cell? ⟨b, off + 1, none⟩ = some (.int .i32 0))
    (f0 : w.frozen? ⟨b, off, none⟩ = false) (f1 : w.frozen? ⟨b, off + 1, none⟩ = false)
    (hcf : (callFunc g cs).run Try.prog (w.setCell ⟨b, off + 1, none⟩ (.int .i32 1)) = .ok (.enter g2 cs2) (w.setCell ⟨b, off + 1, none⟩ (.int .i32 1)))
    (hcl : Calls Try.prog g2 cs2 (w.setCell ⟨b, off + 1, none⟩ (.int .i32 1)) fun e w2 => ∃ v, e = .returned v ∧ (∃ x, w2.cell? ⟨b, off, none⟩ = some x) ∧ w2.frozen? ⟨b, off, none⟩ = false ∧
      w2.cell? ⟨b, off + 1, none⟩ = some (.int .i32 1) ∧ w2.frozen? ⟨b, off + 1, none⟩ = false ∧ R (.returned (.tuple #[])) ((w2.drew.setCell ⟨b, off, none⟩ (.int .u32 1)).setCell ⟨b, off + 1, none⟩ (.int .i32 0))) :
    Calls Try.prog 60 #[.pointer (some ⟨b, off, none⟩), .func (.func g) #[] cs] w R := by
  have hnot : ∀ (x : Bool) (w : World), (Op.unary .not (.bool x)).run Try.prog w = .ok (.bool (!x)) w := fun _ _ => rfl
  have hl := run_call_load (P := Try.prog) Try.func62 (by kernel_rfl) (by kernel_rfl) (by kernel_rfl) .u32 (by kernel_rfl) (w := w.setCell ⟨b, off + 1, none⟩ (.int .i32 1)) (a := ⟨b, off, none⟩) (x := 0) ((World.cell?_setCell_other _ ⟨b, off + 1, none⟩ ⟨b, off, none⟩ _ (by simp)).trans h0)
  go_enter_defers Try.func60, Try.ntmps60
  go_wp2_with (go_at_call 63; refine (lock_free ⟨b, off + 1, none⟩ _ (by go_simp) (by go_simp)).mono ?_; rintro e w' ⟨rfl, rfl⟩)
  go_wp2
  refine hcl.mono ?_
  rintro e w2 ⟨v, rfl, ⟨x, c0⟩, z0, c1, z1, hR⟩
  clear hcl hl h0 h1 f0 f1 hcf
  go_wp2
  refine leaves_cons (f := 65) (args := #[.pointer (some ⟨b, off, none⟩), .bool true]) (by simp) (by simp [go_sem]) ?_
  refine (store_deferred ⟨b, off, none⟩ x .returning _ c0 z0).mono ?_
  rintro e u' w'' ⟨rfl, rfl, rfl⟩
  refine leaves_cons (f := 64) (args := #[.pointer (some ⟨b, off + 1, none⟩)]) (by simp [settle]) (by simp [go_sem]) ?_
  refine (unlock_deferred ⟨b, off + 1, none⟩ _ _ ?_ (by simp [z1])).mono ?_
  · refine (World.cell?_setCell_other _ ⟨b, off, none⟩ ⟨b, off + 1, none⟩ _ (by simp)).trans ?_
    rw [World.cell?_drew]
    exact c1
  rintro e u' w'' ⟨rfl, rfl, rfl⟩
  simp [Leaves, settle, results, Try.results60]
  exact hR

/-- What the evaluator says of the slow road is what the machine does. -/
theorem slow_prim : BodyS Try.prog 60 primSlow := by
  intro call hcall lf args us x h h' he B S w κ inv hr n
  obtain ⟨hl, s, hs, vs, ht, hv, rfl⟩ := prim_body he
  simp only [evOps] at hs
  split at hs
  case h_2 => cases hs
  rename_i s1 hs1
  split at hs
  case h_2 => cases hs
  rename_i s2 hs2
  split at hs
  case h_2 => cases hs
  rename_i s3 hs3
  simp only [Option.some.injEq] at hs
  subst hs
  -- the lock is taken
  simp only [evCp, wanted] at hs1
  split at hs1
  case h_2 => cases hs1
  rename_i z1 k1 hop1
  rw [fS_eq] at hs1
  simp only [Option.some.injEq] at hs1
  subst hs1
  simp only [evOp, Od.ev] at hop1
  unfold evOnceIn at hop1
  split at hop1
  case h_2 => cases hop1
  rename_i g caps e1
  split at hop1
  case h_2 => cases hop1
  rename_i id off e0
  split at hop1
  case h_2 => cases hop1
  rename_i cr hcell
  obtain ⟨p, q', pv, dv, rfl, rfl, hp, hq⟩ := args2 hr hl (by rw [e1]; intro e; cases e)
  simp only [eget, List.length_cons, List.length_nil, Nat.sub_self, List.replicate_zero, List.append_nil, List.getD_cons_zero, List.getD_cons_succ] at e0 e1
  subst e0 e1
  have hp1 : RV S w κ (.ptr id (off + 1)) (match pv with | .pointer (some a) => .pointer (some ⟨a.block, off + 1, none⟩) | v => v) := by
    simp only [RV] at hp ⊢
    obtain ⟨b, hb, rfl⟩ := hp
    exact ⟨b, hb, rfl⟩
  obtain ⟨b, κ1, hk, hpe, ⟨o, hco⟩, hf1, _, inv1, st1⟩ := store_ptr inv hp1 (x := .int .i32 1) (v := .int .i32 1) (by simp only [RV]) rfl hop1
  have hpv : pv = .pointer (some ⟨b, off, none⟩) := by
    simp only [RV] at hp
    obtain ⟨b', hb', rfl⟩ := hp
    rw [hk] at hb'
    cases hb'
    rfl
  subst hpv
  obtain ⟨b', o', hb', hcel⟩ := cellsAt_sound inv hp hcell
  cases hb'
  obtain ⟨v0, c0, r0⟩ := hcel 0 _ rfl
  obtain ⟨v1, c1, r1⟩ := hcel 1 _ rfl
  rw [Nat.add_zero] at c0
  simp only [RV] at r0 r1
  subst r0 r1
  have hfr0 : w.frozen? ⟨b, off, none⟩ = false := by
    have : ∃ cs, h[id]? = some (.cells cs) := by
      unfold cellsAt at hcell
      simp only at hcell
      split at hcell
      · exact ⟨_, by assumption⟩
      · cases hcell
    obtain ⟨cs, hi⟩ := this
    obtain ⟨b2, c, el, fr, q1, q2, q3, q4, q5, q6⟩ := inv.obs _ _ hi
    rw [hk] at q1
    cases q1
    have hlt : off < c.size := by
      rw [cell?_of w b off q2] at c0
      exact (Array.getElem?_eq_some_iff.1 c0).1
    simp only [World.frozen?, q2]
    have := q3 off hlt
    simp only [Bool.and_eq_false_iff, decide_eq_false_iff_not]
    omega
  -- the call
  simp only [evCp, wanted, fS_eq, putV] at hs2
  split at hs2
  case h_2 => cases hs2
  rename_i v2 k2 hop2
  simp only [Option.some.injEq] at hs2
  subst hs2
  have hop2' : call (.fn (.func g) [] caps) [] k1 = some (v2, k2) := hop2
  obtain ⟨c', hfv, hcs⟩ : ∃ c', dv = .func (.func g) #[] c' ∧ RL S w κ caps c'.toList := by
    simp only [RV] at hq
    obtain ⟨a', c', rfl, ha, hc⟩ := hq
    have : a' = #[] := by
      rcases a' with ⟨l⟩
      cases l with
      | nil => rfl
      | cons x l => simp [RL] at ha
    subst this
    exact ⟨c', rfl, hc⟩
  subst hfv
  obtain ⟨d, nx, n1, n2, n3, n4⟩ := hcall _ _ _ _ _ hop2' (vs := #[]) inv1 (RV.mono st1.sle st1.kle _ _ hq) (by simp [RL])
  obtain ⟨g', us', rfl⟩ := n4 (fun l a c e => by cases e)
  have e1 : d = { target := .fn (.func g) c', args := #[] } := by
    simp [Deferred.ofValue] at n1
    exact n1.symm
  subst e1
  have n2' : (callFunc g c').run Try.prog (w.setCell ⟨b, off + 1, none⟩ (.int .i32 1)) = .ok (.enter g' us') (w.setCell ⟨b, off + 1, none⟩ (.int .i32 1)) := by
    simpa [invoke] using n2
  refine callsIn_wide.2 (slow_walk b off g g' c' us' w _ c0 c1 hfr0 hf1 n2' ((callsIn_wide.1 (n3 0)).mono fun e w2 he2 => ?_))
  obtain ⟨v, S2, κ2, rfl, inv2, st2, hv2⟩ := he2
  -- it is done
  simp only [evCp, wanted] at hs3
  split at hs3
  case h_2 => cases hs3
  rename_i z3 k3 hop3
  rw [fS_eq] at hs3
  simp only [Option.some.injEq] at hs3
  subst hs3
  have hop3' : evOnceOut k2 (.ptr id off) = some (z3, k3) := hop3
  unfold evOnceOut at hop3'
  simp only at hop3'
  split at hop3'
  case h_2 => cases hop3'
  rename_i cr2 hcell2
  split at hop3'
  case h_2 => cases hop3'
  rename_i z4 k4 hst4
  simp only [takeMarks, Option.some.injEq] at ht
  subst ht
  simp only [evRes, Option.some.injEq] at hv
  subst hv
  have hkk : κ2 id = some (.blk b) := by
    obtain ⟨k5, q1, q2⟩ := st1.kle _ _ hk
    cases q2
    obtain ⟨k6, q3, q4⟩ := st2.kle _ _ q1
    cases q4
    exact q3
  have hp2 : ∀ (w : World) (S : Cells) o, RV S w κ2 (.ptr id o) (.pointer (some ⟨b, o, none⟩)) := fun w S o => by
    simp only [RV]
    exact ⟨b, hkk, rfl⟩
  obtain ⟨b3, o3, hb3, hcel3⟩ := cellsAt_sound inv2 (hp2 _ _ off) hcell2
  cases hb3
  obtain ⟨w0', d0, s0⟩ := hcel3 0 _ rfl
  obtain ⟨w1', d1, s1⟩ := hcel3 1 _ rfl
  rw [Nat.add_zero] at d0
  simp only [RV] at s0 s1
  subst s0 s1
  obtain ⟨inv2d, st2d⟩ := inv2.drawn
  obtain ⟨bA, κ4, hkA, hA, ⟨oA, hcA⟩, hfA, _, inv4, st4⟩ := store_ptr inv2d (hp2 _ _ off) (x := .int .u32 1) (v := .int .u32 1) (by simp only [RV]) rfl hst4
  cases hA
  obtain ⟨bB, κ5, hkB, hB, ⟨oB, hcB⟩, hfB, _, inv5, st5⟩ := store_ptr inv4 (RV.mono st4.sle st4.kle _ _ (hp2 _ _ (off + 1))) (x := .int .i32 0) (v := .int .i32 0) (by simp only [RV]) rfl hop3'
  cases hB
  have hfr : ∀ o u, w2.cell? ⟨b, o, none⟩ = some u → w2.frozen? ⟨b, o, none⟩ = false := by
    intro o u hu
    have : ∃ cs, k2[id]? = some (.cells cs) := by
      unfold cellsAt at hcell2
      simp only at hcell2
      split at hcell2
      · exact ⟨_, by assumption⟩
      · cases hcell2
    obtain ⟨cs, hi⟩ := this
    obtain ⟨b2, c, el, fr, q1, q2, q3, q4, q5, q6⟩ := inv2.obs _ _ hi
    rw [hkk] at q1
    cases q1
    have hlt : o < c.size := by
      rw [cell?_of w2 b o q2] at hu
      exact (Array.getElem?_eq_some_iff.1 hu).1
    simp only [World.frozen?, q2]
    have := q3 o hlt
    simp only [Bool.and_eq_false_iff, decide_eq_false_iff_not]
    omega
  refine ⟨v, rfl, ⟨_, d0⟩, hfr _ _ d0, d1, hfr _ _ d1, ?_⟩
  exact ⟨_, S2, κ5, rfl, inv5, st1.trans (st2.trans (st2d.trans (st4.trans st5))), by simp [pack, RV, RL]⟩
end Go.Proofs.Lp
