/- slices.Clone of this seat, told of by hand. Conditions: Laid. No conditions. -/
import Derived.Test.YtoakkanklhfpmaaGreatDoorChecked
import Derived.Test.YtoakkanklhfpmaaGreatDoorEwR
import Derived.Test.YtoakkanklhfpmaaGreatDoorTryzPlain
import Derived.Tactics
import Derived.Tactics2
import Derived.RegionTactic
import Derived.RegionCalls
import Derived.ChangeAlike
set_option maxHeartbeats 16000000
set_option maxRecDepth 100000
set_option linter.unusedVariables false
set_option linter.unusedSimpArgs false
set_option linter.unusedSectionVars false
namespace Go.Proofs.Rc
open Go Go.Ev
theorem eq_nil (a : Option Addr) (cap : Nat) (w : World) {t : TypeId} {e : TypeId} (ht : Tryz.prog.underlying t = some (.slice e)) : (binOp .eql t (.slice a 0 cap) (.slice none 0 0)).run Tryz.prog w = .ok (.bool a.isNone) w := by
 have : ∀ D, (Op.equalIn (D + 1) t (.slice a 0 cap) (.slice none 0 0)).run Tryz.prog w = .ok a.isNone w := by
  intro D
  cases a <;> simp only [Op.equalIn, Sem.run_bind, run_underlying ht, Result.andThen_ok, Option.isNone, Sem.run_pure]
 rw [Go.Ev.binOp_eql (u := .slice a 0 cap) rfl]
 have h2 : (Op.equal t (.slice a 0 cap) (.slice none 0 0)).run Tryz.prog w = .ok a.isNone w := this 9999
 simp only [Sem.run_bind, h2, Result.andThen_ok, Sem.run_pure]
def Laid (_ : Glob) : Prop := True
theorem mixedP : Tryz.prog.follows .mixedOrders = true := by kernel_rfl
theorem clone29 (a : Option Addr) (cap : Nat) (w : World) : Calls Tryz.prog 29 #[.slice a 0 cap] w fun e w' => ∃ b, e = .returned (.slice b 0 0) ∧ (w' = w ∨ ∃ obj, w' = w.alloc obj) := by
 have hq := fun w => eq_nil a cap w Tryz.underlying24
 cases a with
 | none =>
  simp only [Option.isNone] at hq
  go_enter Tryz.func29, Tryz.ntmps29
  go_wp2
  go_ret
  exact ⟨_, rfl, .inl rfl⟩
 | some a =>
  simp only [Option.isNone] at hq
  go_enter Tryz.func29, Tryz.ntmps29
  go_wp2
  go_ret
  exact ⟨_, rfl, .inr ⟨_, rfl⟩⟩
theorem clone_ints {G : Glob} (_ : Laid G) : BodyS G Tryz.prog 29 (primClone 1 8) := wZX mixedP Tryz.func29 (show cFunc Tryz.prog false Tryz.f29 = some (cloneCf [.int .i64 0] 1 8) by kernel_rfl) clone29
theorem clone30 (a : Option Addr) (cap : Nat) (w : World) : Calls Tryz.prog 30 #[.slice a 0 cap] w fun e w' => ∃ b, e = .returned (.slice b 0 0) ∧ (w' = w ∨ ∃ obj, w' = w.alloc obj) := by
 have hq := fun w => eq_nil a cap w Tryz.underlying44
 cases a with
 | none =>
  simp only [Option.isNone] at hq
  go_enter Tryz.func30, Tryz.ntmps30
  go_wp2
  go_ret
  exact ⟨_, rfl, .inl rfl⟩
 | some a =>
  simp only [Option.isNone] at hq
  go_enter Tryz.func30, Tryz.ntmps30
  go_wp2
  go_ret
  exact ⟨_, rfl, .inr ⟨_, rfl⟩⟩
theorem clone_rx {G : Glob} (_ : Laid G) : BodyS G Tryz.prog 30 (primClone 12 128) := wZX mixedP Tryz.func30 (show cFunc Tryz.prog false Tryz.f30 = some (cloneCf [.int .i64 0, .int .u8 0, .int .i64 0, .str ⟨#[]⟩, .str ⟨#[]⟩, .str ⟨#[]⟩, .str ⟨#[]⟩, .str ⟨#[]⟩, .bool false, .bool false, .int .i64 0, .int .i64 0] 12 128) by kernel_rfl) clone30
theorem clone105 (a : Option Addr) (cap : Nat) (w : World) : Calls Tryz.prog 105 #[.slice a 0 cap] w fun e w' => ∃ b, e = .returned (.slice b 0 0) ∧ (w' = w ∨ ∃ obj, w' = w.alloc obj) := by
 have hq := fun w => eq_nil a cap w Tryz.underlying67
 cases a with
 | none =>
  simp only [Option.isNone] at hq
  go_enter Tryz.func105, Tryz.ntmps105
  go_wp2
  go_ret
  exact ⟨_, rfl, .inl rfl⟩
 | some a =>
  simp only [Option.isNone] at hq
  go_enter Tryz.func105, Tryz.ntmps105
  go_wp2
  go_ret
  exact ⟨_, rfl, .inr ⟨_, rfl⟩⟩
theorem clone_units {G : Glob} (_ : Laid G) : BodyS G Tryz.prog 105 (primClone 1 2) := wZX mixedP Tryz.func105 (show cFunc Tryz.prog false Tryz.f105 = some (cloneCf [.int .u16 0] 1 2) by kernel_rfl) clone105
theorem clone106 (a : Option Addr) (cap : Nat) (w : World) : Calls Tryz.prog 106 #[.slice a 0 cap] w fun e w' => ∃ b, e = .returned (.slice b 0 0) ∧ (w' = w ∨ ∃ obj, w' = w.alloc obj) := by
 have hq := fun w => eq_nil a cap w Tryz.underlying71
 cases a with
 | none =>
  simp only [Option.isNone] at hq
  go_enter Tryz.func106, Tryz.ntmps106
  go_wp2
  go_ret
  exact ⟨_, rfl, .inl rfl⟩
 | some a =>
  simp only [Option.isNone] at hq
  go_enter Tryz.func106, Tryz.ntmps106
  go_wp2
  go_ret
  exact ⟨_, rfl, .inr ⟨_, rfl⟩⟩
theorem clone_attrs {G : Glob} (_ : Laid G) : BodyS G Tryz.prog 106 (primClone 4 64) := wZX mixedP Tryz.func106 (show cFunc Tryz.prog false Tryz.f106 = some (cloneCf [.str ⟨#[]⟩, .str ⟨#[]⟩, .str ⟨#[]⟩, .str ⟨#[]⟩] 4 64) by kernel_rfl) clone106
theorem clone164 (a : Option Addr) (cap : Nat) (w : World) : Calls Tryz.prog 164 #[.slice a 0 cap] w fun e w' => ∃ b, e = .returned (.slice b 0 0) ∧ (w' = w ∨ ∃ obj, w' = w.alloc obj) := by
 have hq := fun w => eq_nil a cap w Tryz.underlying85
 cases a with
 | none =>
  simp only [Option.isNone] at hq
  go_enter Tryz.func164, Tryz.ntmps164
  go_wp2
  go_ret
  exact ⟨_, rfl, .inl rfl⟩
 | some a =>
  simp only [Option.isNone] at hq
  go_enter Tryz.func164, Tryz.ntmps164
  go_wp2
  go_ret
  exact ⟨_, rfl, .inr ⟨_, rfl⟩⟩
theorem clone_strs {G : Glob} (_ : Laid G) : BodyS G Tryz.prog 164 (primClone 1 16) := wZX mixedP Tryz.func164 (show cFunc Tryz.prog false Tryz.f164 = some (cloneCf [.str ⟨#[]⟩] 1 16) by kernel_rfl) clone164
theorem sbyte_told {G : Glob} (_ : Laid G) : BodyS G Tryz.prog 198 (primF2 .sbyte) := sbyte_body Tryz.stringslite_IndexByte
end Go.Proofs.Rc
