/- slices.Clone of this seat, told of by hand. Conditions: Laid. No conditions. -/
import Derived.Test.YtaeklgflchhmfaaGreatDoorChecked
import Derived.Test.YtaeklgflchhmfaaGreatDoorEwR
import Derived.Tactics
import Derived.Tactics2
import Derived.RegionTactic
import Derived.RegionCalls
import Derived.ChangeAlike
set_option maxHeartbeats 16000000
set_option maxRecDepth 100000
set_option linter.unusedVariables false
set_option linter.unusedSimpArgs false
set_option linter.unusedSectionVars false
namespace Go.Proofs.It
open Go Go.Ev
theorem eq_nil (a : Option Addr) (cap : Nat) (w : World) {t : TypeId} {e : TypeId} (ht : Tryz.prog.underlying t = some (.slice e)) : (binOp .eql t (.slice a 0 cap) (.slice none 0 0)).run Tryz.prog w = .ok (.bool a.isNone) w := by
 have : ∀ D, (Op.equalIn (D + 1) t (.slice a 0 cap) (.slice none 0 0)).run Tryz.prog w = .ok a.isNone w := by
  intro D
  cases a <;> simp only [Op.equalIn, Sem.run_bind, run_underlying ht, Result.andThen_ok, Option.isNone, Sem.run_pure]
 rw [Go.Ev.binOp_eql (u := .slice a 0 cap) rfl]
 have h2 : (Op.equal t (.slice a 0 cap) (.slice none 0 0)).run Tryz.prog w = .ok a.isNone w := this 9999
 simp only [Sem.run_bind, h2, Result.andThen_ok, Sem.run_pure]
def Laid (_ : Glob) : Prop := True
theorem mixedP : Tryz.prog.follows .mixedOrders = true := by kernel_rfl
theorem clone128 (a : Option Addr) (cap : Nat) (w : World) : Calls Tryz.prog 128 #[.slice a 0 cap] w fun e w' => ∃ b, e = .returned (.slice b 0 0) ∧ (w' = w ∨ ∃ obj, w' = w.alloc obj) := by
 have hq := fun w => eq_nil a cap w Tryz.underlying49
 cases a with
 | none =>
  simp only [Option.isNone] at hq
  go_enter Tryz.func128, Tryz.ntmps128
  go_wp2
  go_ret
  exact ⟨_, rfl, .inl rfl⟩
 | some a =>
  simp only [Option.isNone] at hq
  go_enter Tryz.func128, Tryz.ntmps128
  go_wp2
  go_ret
  exact ⟨_, rfl, .inr ⟨_, rfl⟩⟩
theorem clone_units {G : Glob} (_ : Laid G) : BodyS G Tryz.prog 128 (primClone 1 2) := jZ0 mixedP Tryz.func128 (show cFunc Tryz.prog false Tryz.f128 = some (cloneCf [.int .u16 0] 1 2) by kernel_rfl) clone128
theorem clone134 (a : Option Addr) (cap : Nat) (w : World) : Calls Tryz.prog 134 #[.slice a 0 cap] w fun e w' => ∃ b, e = .returned (.slice b 0 0) ∧ (w' = w ∨ ∃ obj, w' = w.alloc obj) := by
 have hq := fun w => eq_nil a cap w Tryz.underlying50
 cases a with
 | none =>
  simp only [Option.isNone] at hq
  go_enter Tryz.func134, Tryz.ntmps134
  go_wp2
  go_ret
  exact ⟨_, rfl, .inl rfl⟩
 | some a =>
  simp only [Option.isNone] at hq
  go_enter Tryz.func134, Tryz.ntmps134
  go_wp2
  go_ret
  exact ⟨_, rfl, .inr ⟨_, rfl⟩⟩
theorem clone_attrs {G : Glob} (_ : Laid G) : BodyS G Tryz.prog 134 (primClone 4 64) := jZ0 mixedP Tryz.func134 (show cFunc Tryz.prog false Tryz.f134 = some (cloneCf [.str ⟨#[]⟩, .str ⟨#[]⟩, .str ⟨#[]⟩, .str ⟨#[]⟩] 4 64) by kernel_rfl) clone134
theorem clone135 (a : Option Addr) (cap : Nat) (w : World) : Calls Tryz.prog 135 #[.slice a 0 cap] w fun e w' => ∃ b, e = .returned (.slice b 0 0) ∧ (w' = w ∨ ∃ obj, w' = w.alloc obj) := by
 have hq := fun w => eq_nil a cap w Tryz.underlying51
 cases a with
 | none =>
  simp only [Option.isNone] at hq
  go_enter Tryz.func135, Tryz.ntmps135
  go_wp2
  go_ret
  exact ⟨_, rfl, .inl rfl⟩
 | some a =>
  simp only [Option.isNone] at hq
  go_enter Tryz.func135, Tryz.ntmps135
  go_wp2
  go_ret
  exact ⟨_, rfl, .inr ⟨_, rfl⟩⟩
theorem clone_ints {G : Glob} (_ : Laid G) : BodyS G Tryz.prog 135 (primClone 1 8) := jZ0 mixedP Tryz.func135 (show cFunc Tryz.prog false Tryz.f135 = some (cloneCf [.int .i64 0] 1 8) by kernel_rfl) clone135
end Go.Proofs.It
