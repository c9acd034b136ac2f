/- slices.Clone of this seat, told of by hand. Conditions: Laid. No conditions. -/
import Derived.Test.YtphigbmaimineabGreatChecked
import Derived.Test.YtphigbmaimineabGreatEwR
import Derived.Tactics
import Derived.Tactics2
import Derived.RegionTactic
import Derived.RegionCalls
import Derived.ChangeAlike
set_option maxHeartbeats 16000000
set_option maxRecDepth 100000
set_option linter.unusedVariables false
set_option linter.unusedSimpArgs false
set_option linter.unusedSectionVars false
namespace Go.Proofs.Ob
open Go Go.Ev
theorem eq_nil (a : Option Addr) (cap : Nat) (w : World) {t : TypeId} {e : TypeId} (ht : Tryz.prog.underlying t = some (.slice e)) : (binOp .eql t (.slice a 0 cap) (.slice none 0 0)).run Tryz.prog w = .ok (.bool a.isNone) w := by
 have : ∀ D, (Op.equalIn (D + 1) t (.slice a 0 cap) (.slice none 0 0)).run Tryz.prog w = .ok a.isNone w := by
  intro D
  cases a <;> simp only [Op.equalIn, Sem.run_bind, run_underlying ht, Result.andThen_ok, Option.isNone, Sem.run_pure]
 rw [Go.Ev.binOp_eql (u := .slice a 0 cap) rfl]
 have h2 : (Op.equal t (.slice a 0 cap) (.slice none 0 0)).run Tryz.prog w = .ok a.isNone w := this 9999
 simp only [Sem.run_bind, h2, Result.andThen_ok, Sem.run_pure]
def Laid (_ : Glob) : Prop := True
theorem mixedP : Tryz.prog.follows .mixedOrders = true := by kernel_rfl
theorem clone45 (a : Option Addr) (cap : Nat) (w : World) : Calls Tryz.prog 45 #[.slice a 0 cap] w fun e w' => ∃ b, e = .returned (.slice b 0 0) ∧ (w' = w ∨ ∃ obj, w' = w.alloc obj) := by
 have hq := fun w => eq_nil a cap w Tryz.underlying22
 cases a with
 | none =>
  simp only [Option.isNone] at hq
  go_enter Tryz.func45, Tryz.ntmps45
  go_wp2
  go_ret
  exact ⟨_, rfl, .inl rfl⟩
 | some a =>
  simp only [Option.isNone] at hq
  go_enter Tryz.func45, Tryz.ntmps45
  go_wp2
  go_ret
  exact ⟨_, rfl, .inr ⟨_, rfl⟩⟩
theorem clone_regs {G : Glob} (_ : Laid G) : BodyS G Tryz.prog 45 (primClone 12 72) := wZ1 mixedP Tryz.func45 (show cFunc Tryz.prog false Tryz.f45 = some (cloneCf [.int .i64 0, .int .i64 0, .int .i64 0, .bool false, .bool false, .int .u8 0, .int .u8 0, .int .u8 0, .int .u8 0, .nils, .bool false, .int .i64 0] 12 72) by kernel_rfl) clone45
theorem clone71 (a : Option Addr) (cap : Nat) (w : World) : Calls Tryz.prog 71 #[.slice a 0 cap] w fun e w' => ∃ b, e = .returned (.slice b 0 0) ∧ (w' = w ∨ ∃ obj, w' = w.alloc obj) := by
 have hq := fun w => eq_nil a cap w Tryz.underlying53
 cases a with
 | none =>
  simp only [Option.isNone] at hq
  go_enter Tryz.func71, Tryz.ntmps71
  go_wp2
  go_ret
  exact ⟨_, rfl, .inl rfl⟩
 | some a =>
  simp only [Option.isNone] at hq
  go_enter Tryz.func71, Tryz.ntmps71
  go_wp2
  go_ret
  exact ⟨_, rfl, .inr ⟨_, rfl⟩⟩
theorem clone_units {G : Glob} (_ : Laid G) : BodyS G Tryz.prog 71 (primClone 1 2) := wZ1 mixedP Tryz.func71 (show cFunc Tryz.prog false Tryz.f71 = some (cloneCf [.int .u16 0] 1 2) by kernel_rfl) clone71
theorem clone72 (a : Option Addr) (cap : Nat) (w : World) : Calls Tryz.prog 72 #[.slice a 0 cap] w fun e w' => ∃ b, e = .returned (.slice b 0 0) ∧ (w' = w ∨ ∃ obj, w' = w.alloc obj) := by
 have hq := fun w => eq_nil a cap w Tryz.underlying57
 cases a with
 | none =>
  simp only [Option.isNone] at hq
  go_enter Tryz.func72, Tryz.ntmps72
  go_wp2
  go_ret
  exact ⟨_, rfl, .inl rfl⟩
 | some a =>
  simp only [Option.isNone] at hq
  go_enter Tryz.func72, Tryz.ntmps72
  go_wp2
  go_ret
  exact ⟨_, rfl, .inr ⟨_, rfl⟩⟩
theorem clone_attrs {G : Glob} (_ : Laid G) : BodyS G Tryz.prog 72 (primClone 4 64) := wZ1 mixedP Tryz.func72 (show cFunc Tryz.prog false Tryz.f72 = some (cloneCf [.str ⟨#[]⟩, .str ⟨#[]⟩, .str ⟨#[]⟩, .str ⟨#[]⟩] 4 64) by kernel_rfl) clone72
theorem clone73 (a : Option Addr) (cap : Nat) (w : World) : Calls Tryz.prog 73 #[.slice a 0 cap] w fun e w' => ∃ b, e = .returned (.slice b 0 0) ∧ (w' = w ∨ ∃ obj, w' = w.alloc obj) := by
 have hq := fun w => eq_nil a cap w Tryz.underlying58
 cases a with
 | none =>
  simp only [Option.isNone] at hq
  go_enter Tryz.func73, Tryz.ntmps73
  go_wp2
  go_ret
  exact ⟨_, rfl, .inl rfl⟩
 | some a =>
  simp only [Option.isNone] at hq
  go_enter Tryz.func73, Tryz.ntmps73
  go_wp2
  go_ret
  exact ⟨_, rfl, .inr ⟨_, rfl⟩⟩
theorem clone_ints {G : Glob} (_ : Laid G) : BodyS G Tryz.prog 73 (primClone 1 8) := wZ1 mixedP Tryz.func73 (show cFunc Tryz.prog false Tryz.f73 = some (cloneCf [.int .i64 0] 1 8) by kernel_rfl) clone73
end Go.Proofs.Ob
