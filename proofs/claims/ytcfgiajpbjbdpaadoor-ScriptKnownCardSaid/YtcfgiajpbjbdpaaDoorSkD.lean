/- ScriptKnown. No conditions. -/
import Derived.Test.YtcfgiajpbjbdpaaDoorSkA
set_option maxHeartbeats 16000000
set_option maxRecDepth 100000
set_option linter.unusedVariables false
set_option linter.unusedSimpArgs false
set_option linter.unusedSectionVars false
namespace Go.Proofs.Sc
open Go Go.Ev
theorem find_nil : find [] = 0 := by decide
theorem word_inj : ∀ a b : Fin 45, a.val ≠ 0 → a ≠ b → word b.val ≠ word a.val := by decide +kernel
theorem word_some : ∀ a : Fin 45, a.val ≠ 0 → word a.val ≠ [] ∧ find (word a.val) = a.val := by decide +kernel
theorem word_other {a b : Nat} (ha : a < 45) (h0 : a ≠ 0) (hne : a ≠ b) : word b ≠ word a := by
 by_cases hb : b < 45
 ·exact word_inj ⟨a, ha⟩ ⟨b, hb⟩ h0 (fun e => hne (congrArg Fin.val e))
 ·rw [(word_out hb).1]
  exact fun e => (word_some ⟨a, ha⟩ h0).1 e.symm
theorem emptyT : V.str ⟨#[]⟩ = T [] := rfl
theorem vZi (a b : Nat) (ha : a < 256) (hb : b < 256) (H : Heap) : callW Φ zZb [.int .u8 a, .int .u8 b] H = some (.bool true, H) := by
 have : ∃ hh, evBodyW (callW Φ) zZb.c [.int .u8 a, .int .u8 b] [] = some (.bool true, hh) := by
  refine body_k (Nat.le_of_ble_eq_true rfl) (fun env he h0 => ?_)
  have g0 := h0 0 (by simp)
  change eget env 0 = .int .u8 a at g0
  have g1 := h0 1 (by simp)
  change eget env 1 = .int .u8 b at g1
  clear h0
  simp [zZb.c] at he
  have hbg := begins_spec []
  have h1 := vZh a ha []
  have h2 := vZh b hb []
  have hf := wZz (word a) []
  by_cases c0 : a = 0
  ·subst c0
   have w0 : word 0 = [] := rfl
   rw [w0] at h1 hf
   rw [find_nil] at hf
   have h1' : callW Φ zZU [V.int IntKind.u8 0] [] = some (T [], []) := h1
   have hf' : callW Φ zZg [T []] [] = some (.tup [V.int IntKind.u8 0, V.bool false], []) := hf
   have g0' : eget env 0 = V.int IntKind.u8 0 := g0
   simp [zZb.c, zZb.r0, zZb.r1, zZb.r2, zZb.r3, zZb.r4, zZb.r5, zZb.r6, zZb.r7, g0', g1, he, hbg, h1', hf', evPick, evExt, emptyT, T_beq]
  ·by_cases c1 : a < 45
   ·obtain ⟨hw, hfa⟩ := word_some ⟨a, c1⟩ c0
    have hw2 : word a ≠ [] := hw
    have hfa2 : find (word a) = a := hfa
    rw [hfa2] at hf
    have c2 : ¬ (45 ≤ (a : Int)) := by omega
    have c3 : ((a : Int) == 0) = false := by simpa using c0
    have c4 : List.isEmpty (word a) = false := by simpa using hw2
    by_cases e : a = b
    ·subst e
     simp [zZb.c, zZb.r0, zZb.r1, zZb.r2, zZb.r3, zZb.r4, zZb.r5, zZb.r6, zZb.r7, g0, g1, he, hbg, h1, hf, evPick, evExt, emptyT, T_beq, c0, c2, c3, c4, hw2]
    ·have hne := word_other c1 c0 e
     have e2 : ((a : Int) == (b : Int)) = false := by simp; omega
     simp [zZb.c, zZb.r0, zZb.r1, zZb.r2, zZb.r3, zZb.r4, zZb.r5, zZb.r6, zZb.r7, g0, g1, he, hbg, h1, h2, hf, evPick, evExt, emptyT, T_beq, c0, c2, c3, c4, hw2, e, e2, hne]
   ·obtain ⟨w1, w2⟩ := word_out c1
    rw [w1] at h1 hf
    rw [find_nil] at hf
    have c3 : ((a : Int) == 0) = false := by simpa using c0
    have hf' : callW Φ zZg [T []] [] = some (.tup [V.int IntKind.u8 0, V.bool false], []) := hf
    have c2 : (45 ≤ (a : Int)) := by omega
    simp [zZb.c, zZb.r0, zZb.r1, zZb.r2, zZb.r3, zZb.r4, zZb.r5, zZb.r6, zZb.r7, g0, g1, he, hbg, h1, hf', evPick, evExt, emptyT, T_beq, c0, c2, c3]
 obtain ⟨h', hb⟩ := this
 exact vZu (h := H) zZb.Φ rfl (args := [.int .u8 a, .int .u8 b]) rfl hb rfl
end Go.Proofs.Sc
