/- Readings of steps. No conditions. -/
import Derived.Test.YtgfebbhjpgkdfaaLpQ
import Derived.Test.YtgfebbhjpgkdfaaLpW
namespace Go.Proofs.Lp
open Go Go.Ev Go.ChangeShapes Go.WideShapes Go.ChangeAt Go.RowKit
set_option linter.unusedVariables false
set_option linter.unusedSimpArgs false

noncomputable def stepF : Array Field :=
  match Try.prog.underlying 42 with
  | some (.struct fs) => fs
  | _ => #[]
theorem u42 : Try.prog.underlying 42 = some (.struct stepF) := by kernel_rfl
theorem u38 : Try.prog.underlying 38 = some (.slice 42) := by kernel_rfl
theorem stepF_kinds : stepF.toList.map (fun f => Try.prog.underlying f.type) = [some (.int .u8), some (.int .i64), some (.int .i64), some (.int .i64), some (.int .i64), some (.int .i64)] := by kernel_rfl

set_option maxRecDepth 100000 in
/-- Whole numbers in fields, as they read. -/
theorem f2_ints {H : Type} : ∀ {ps : List (DataW H)} {fs : List Field} {ks : List IntKind}, F2 (fun (x : DataW H) (g : Field) => DT Try.prog 1 g.type x) ps fs → fs.map (fun f => Try.prog.underlying f.type) = ks.map (fun k => some (.int k)) →
    ∃ zs : List Int, zs.length = ks.length ∧ dVc ps = (ks.zip zs).map fun p => V.int p.1 p.2
  | [], [], ks, _, h => by
    cases ks with
    | nil => exact ⟨[], rfl, rfl⟩
    | cons k ks => simp at h
  | [], f :: fs, ks, h, _ => by simp [F2] at h
  | p :: ps, [], ks, h, _ => by simp [F2] at h
  | p :: ps, f :: fs, ks, h, hk => by
    cases ks with
    | nil => simp at hk
    | cons k ks =>
      simp only [List.map_cons, List.cons.injEq] at hk
      simp only [F2, DT, hk.1] at h
      obtain ⟨⟨n, rfl, _⟩, h2⟩ := h
      obtain ⟨zs, h3, h4⟩ := f2_ints h2 hk.2
      exact ⟨n :: zs, by simp [h3], by simp [dVc, dV, h4]⟩

set_option maxRecDepth 100000 in
theorem step_of {H : Type} {d : DataW H} (h : DT Try.prog 2 42 d) : ∃ x : Step, dV d = cS x := by
  simp only [DT, u42] at h
  obtain ⟨ps, rfl, hF⟩ := h
  obtain ⟨zs, h1, h2⟩ := f2_ints (ks := [.u8, .i64, .i64, .i64, .i64, .i64]) hF (by rw [stepF_kinds]; rfl)
  match zs, h1, h2 with
  | [a, b, c, d, e, f], _, h2 => exact ⟨⟨a, b, c, d, e, f⟩, by rw [dV, h2]; rfl⟩
set_option maxRecDepth 100000 in
theorem steps_of {H : Type} : ∀ {es : List (DataW H)}, (∀ x ∈ es, DT Try.prog 2 42 x) → ∃ S : List Step, dVs es = S.map cS ∧ S.length = es.length
  | [], _ => ⟨[], rfl, rfl⟩
  | x :: es, h => by
    obtain ⟨s, hs⟩ := step_of (h x (by simp))
    obtain ⟨S, h1, h2⟩ := steps_of (es := es) fun y hy => h y (by simp [hy])
    exact ⟨s :: S, by rw [dVs, hs, h1]; rfl, by simp [h2]⟩
set_option maxRecDepth 100000 in
theorem arg_steps {H : Type} {d : DataW H} (h : DT Try.prog 3 38 d) (hsz : ∀ es sp, d = .slice es sp → es.length < 2 ^ 62) :
    flatN2 (dT Try.prog 38 d) = true ∧ ∃ S : List Step, nz2 (dT Try.prog 38 d) = .arr (S.map cS) ∧ S.length < 2 ^ 62 := by
  simp only [DT, u38] at h
  rcases h with rfl | ⟨es, sp, rfl, hl, hx⟩
  · refine ⟨by simp [dT, u38, dV, flatN2, flatN, scalN], [], by simp [dT, u38, dV, nz2, nz1, nz], by simp⟩
  · obtain ⟨S, h1, h2⟩ := steps_of (H := H) (es := es) hx
    have := hsz es sp rfl
    refine ⟨?_, S, ?_, by omega⟩
    · simp [dT, u38, dV, h1, flatN2, flatN, scalN, scal, cS]
    · simp [dT, u38, dV, h1, nz2, nz1, nz]

end Go.Proofs.Lp
