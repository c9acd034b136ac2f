/- LoopCalls: its first half. No conditions. -/
import Derived.Test.YtgfebbhjpgkdfaaLpFg
namespace Go.Proofs.Lp
open Go Go.Ev
set_option linter.unusedVariables false
set_option linter.unusedSimpArgs false

set_option maxHeartbeats 8000000 in
set_option maxRecDepth 8000 in
/-- Behind the fork. -/
theorem calls1b {P : V → Heap → Prop} (hP : ∀ h, P (.bool true) h) {S : List Step} (hS : S.length < 2 ^ 61) {n : Nat} (hn : n < 2 ^ 61) {hp : Heap} {a b : Nat} {L : LS} {fa fb : Nat → Option Nat}
    (ha : Rep hp a L fa) (hb : Rep hp b L fb) (hd : Dis a fa b fb) (hok : Ok n L)
    {env : List V} (he : env.length = 140) (g1 : eget env 1 = .arr (S.map cS)) (g5 : eget env 5 = .ptr a 0) (g6 : eget env 6 = .ptr b 0) :
    WK (callW Φ) none (FinX [.tmp 4] P) [.o law27_LoopCalls.r13, .c (snd (snd (snd (snd (snd law27_LoopCalls.c.body)))))] { env := env, marks := [], heap := hp } := by
  have ht : tot L < 2 ^ 40 := by have := hok.tot; omega
  obtain ⟨c, h', fc, cf, len, rc, keep, new⟩ := fork_spec ha ht hok.shut
  have hla := fun j hj => ha.lt (j := j) hj
  have hlb := fun j hj => hb.lt (j := j) hj
  have ra : Rep h' a L fa := ha.mono fun j hj => keep j (hla j hj)
  have rb : Rep h' b L fb := hb.mono fun j hj => keep j (hlb j hj)
  have dcb : Dis c fc b fb := fun j h1 h2 => by have := new j h1; have := hlb j h2; omega
  have dac : Dis a fa c fc := fun j h1 h2 => by have := new j h2; have := hla j h1; omega
  have nw := now_spec ra
  have w := waiting_spec ra ht
  simp only [snd, law27_LoopCalls.c]
  simp [law27_LoopCalls.r13, law27_LoopCalls.r14, law27_LoopCalls.r16, law27_LoopCalls.r17, g5, he, okV, fV_eq, cf, evEqn, eqnV, nilOf, nw, w, evExt]
  have := calls2 hP hS hn (L0 := L) (fa := fa) ht rc rb dcb ⟨ra, hd, dac⟩ hok (env := ?_) ?_ ?_ ?_ ?_ ?_ ?_ ?_ ?_ ?_
  · simpa only [fst, snd, law27_LoopCalls.c, kSeq, kRegion] using this
  all_goals simp [he, g1, g5, g6]
end Go.Proofs.Lp
