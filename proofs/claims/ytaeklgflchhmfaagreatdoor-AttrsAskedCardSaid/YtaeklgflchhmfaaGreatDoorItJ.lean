/- Nodes by themselves: the document's answer, whole. No conditions. -/
import Derived.Test.YtaeklgflchhmfaaGreatDoorItIa
set_option maxHeartbeats 16000000
set_option maxRecDepth 100000
set_option linter.unusedVariables false
set_option linter.unusedSimpArgs false
set_option linter.unusedSectionVars false
namespace Go.Proofs.It
open Go Go.Ev
theorem kNormal {call : CallF} {rnd : Option Nat} {Q : Ex → St → Prop} {s : St} {k : List It} {x : Cc} {I : St → Prop} (h : WK call rnd (fun e s' => e = .normal ∧ I s') [.c x] s) (hk : ∀ s', I s' → WK call rnd Q k s') : WK call rnd Q (.c x :: k) s := by
 simp only [WK]
 refine WC.mono (wZ2 h) fun e s' hq => ?_
 obtain ⟨rfl, hi⟩ := hq
 exact hk s' hi
theorem kNormalO {call : CallF} {rnd : Option Nat} {Q : Ex → St → Prop} {s : St} {k : List It} {l : List Cp} {I : St → Prop} (h : WK call rnd (fun e s' => e = .normal ∧ I s') [.c (.region l)] s) (hk : ∀ s', I s' → WK call rnd Q k s') : WK call rnd Q (.o l :: k) s := by
 rw [← kRegion]
 exact kNormal h hk
def snd' : Cc → Cc
 | .seq _ b => b
 | x => x
def mdN (n : Nd) : Bool :=
 if n.kind == 1 then named n.name
 else if n.kind == 10 || n.kind == 7 then beqS n.name.sp ⟨#[]⟩ && beqS n.name.pr ⟨#[]⟩ && !beqS n.name.lo ⟨#[]⟩ && decide (n.name.lo.size ≤ 1024)
 else beqS n.name.sp ⟨#[]⟩ && beqS n.name.pr ⟨#[]⟩ && beqS n.name.lo ⟨#[]⟩
def mdD (n : Nd) : Bool := if n.kind == 12 then n.mode == 1 || n.mode == 2 else n.mode == 0 && !n.manual && n.host == 0
def mdE (n : Nd) : Bool := n.parent == 0 || (n.kind != 9 && n.kind != 11 && n.kind != 12)
def made (n : Nd) : Bool := mdA n && mdN n && mdB n && mdC n && mdD n && mdE n
theorem xZk (n : Nd) (hl : n.attrs.length < 2 ^ 50) (H : Heap) : callW Φ zZg [eN n] H = some (.bool (made n), H) := by
 have : ∃ hh, evBodyW (callW Φ) zZg.c [eN n] [] = some (.bool (made n), hh) := by
  obtain ⟨K, hK⟩ : ∃ K : Heap, K = [Ob.cells (cN n)] := ⟨_, rfl⟩
  have hb : evBox [] (cN n) = some (.ptr 0 0, K) := by rw [hK]; exact cellsN [] n
  have c0 : cellsAt K (.ptr 0 0) = some (cN n) := by rw [hK]; rfl
  have c1 : cellsAt K (.ptr 0 1) = some ((cN n).drop 1) := by rw [hK]; rfl
  have e21 : ∀ e : List V, e.length = 164 → eget e 1 = .ptr 0 0 → eget e 3 = .int .u8 n.kind → mdA n = true → mdN n = true → mdB n = true → mdC n = true → mdD n = true →
    WK (callW Φ) none (FinV [.tmp 2] (.bool (made n))) [.o zZg.r21, .c .ret] { env := e, marks := [], heap := K } := by
   intro e he g1 g3 a1 a2 a3 a4 a5
   refine kNormalO (made_r21 hK he g1 g3) ?_
   rintro ⟨e', mk, H'⟩ ⟨he', k1, k3, hm, hh, k2⟩
   simp only at he' k1 k3 hm hh k2
   obtain rfl := hm
   have : made n = mdE n := by simp [made, a1, a2, a3, a4, a5]
   rw [this]
   simp [k2, mdE]
  have e16 : ∀ e : List V, e.length = 164 → eget e 1 = .ptr 0 0 → eget e 3 = .int .u8 n.kind → mdA n = true → mdN n = true → mdB n = true → mdC n = true →
    WK (callW Φ) none (FinV [.tmp 2] (.bool (made n))) [.c (.seq (xS zZg.r16 (.cond (.t 128) (xS zZg.r17 (.cond (.t 136) (xS zZg.r18 .ret) .skip)) (xS zZg.r19 (.cond (.t 148) (xS zZg.r20 .ret) .skip)))) (xS zZg.r21 .ret))] { env := e, marks := [], heap := K } := by
   intro e he g1 g3 a1 a2 a3 a4
   cases k12 : (n.kind == 12) with
   | true =>
    simp [zZg.r16, g3, he, k12]
    refine kNormalO (made_r17 hK (by simp [he]) (by simp [g1]) (by simp [g3])) ?_
    rintro ⟨e', mk, H'⟩ ⟨he', j1, j3, hm, hh, j⟩
    simp only at he' j1 j3 hm hh j
    obtain rfl := hm
    obtain rfl := hh
    have hD : mdD n = (n.mode == 1 || n.mode == 2) := by simp [mdD, k12]
    rw [← hD] at j
    cases hd : mdD n with
    | true =>
     rw [hd] at j
     simp [j]
     exact e21 e' he' j1 j3 a1 a2 a3 a4 hd
    | false =>
     rw [hd] at j
     simp [j, zZg.r18, he', made, hd]
   | false =>
    simp [zZg.r16, g3, he, k12]
    refine kNormalO (made_r19 hK (by simp [he]) (by simp [g1]) (by simp [g3])) ?_
    rintro ⟨e', mk, H'⟩ ⟨he', j1, j3, hm, hh, j⟩
    simp only at he' j1 j3 hm hh j
    obtain rfl := hm
    obtain rfl := hh
    have hD : mdD n = (n.mode == 0 && !n.manual && n.host == 0) := by simp [mdD, k12]
    rw [← hD] at j
    cases hd : mdD n with
    | true =>
     rw [hd] at j
     simp [j]
     exact e21 e' he' j1 j3 a1 a2 a3 a4 hd
    | false =>
     rw [hd] at j
     simp [j, zZg.r20, he', made, hd]
  have e12 : ∀ e : List V, e.length = 164 → eget e 1 = .ptr 0 0 → eget e 3 = .int .u8 n.kind → mdA n = true → mdN n = true →
    WK (callW Φ) none (FinV [.tmp 2] (.bool (made n))) [.c (.seq (xS zZg.r12 (.cond (.t 105) (xS zZg.r13 .ret) .skip)) (.seq (xS zZg.r14 (.cond (.t 126) (xS zZg.r15 .ret) .skip)) (.seq (xS zZg.r16 (.cond (.t 128) (xS zZg.r17 (.cond (.t 136) (xS zZg.r18 .ret) .skip)) (xS zZg.r19 (.cond (.t 148) (xS zZg.r20 .ret) .skip)))) (xS zZg.r21 .ret))))] { env := e, marks := [], heap := K } := by
   intro e he g1 g3 a1 a2
   simp only [kSeq, kRegion]
   refine kNormalO (made_r12 hK he g1 g3) ?_
   rintro ⟨e', mk, H'⟩ ⟨he', j1, j3, hm, hh, j⟩
   simp only at he' j1 j3 hm hh j
   obtain rfl := hm
   obtain rfl := hh
   cases hd : mdB n with
   | false =>
    rw [hd] at j
    simp [j, zZg.r13, he', made, hd]
   | true =>
    rw [hd] at j
    simp [j]
    refine kNormalO (made_r14 hK he' j1 j3) ?_
    rintro ⟨e2, mk, H'⟩ ⟨he2, i1, i3, hm, hh, i⟩
    simp only at he2 i1 i3 hm hh i
    obtain rfl := hm
    obtain rfl := hh
    cases hc : mdC n with
    | false =>
     rw [hc] at i
     simp [i, zZg.r15, he2, made, hc]
    | true =>
     rw [hc] at i
     have e16' := e16 e2 he2 i1 i3 a1 a2 hd hc
     simp only [kSeq, kRegion] at e16'
     simp [i]
     exact e16'
  refine qZ3 (Nat.le_of_ble_eq_true rfl) (fun env he h0 => ?_)
  have g0 := h0 0 (by simp)
  change eget env 0 = .agg (cN n) at g0
  clear h0
  simp [zZg.c] at he
  have hcc : (V.agg (cN n)).cells = cN n := rfl
  simp [zZg.c, zZg.r0, zZg.r1, g0, he, hcc, hb, c0, faddrP]
  refine kNormalO (made_r2 (n := n) hK hl (by simp [he]) (by simp [he]) (by simp [he])) ?_
  rintro ⟨e', mk, H'⟩ ⟨he', j1, j3, hm, hh, j⟩
  simp only at he' j1 j3 hm hh j
  obtain rfl := hm
  obtain rfl := hh
  cases hA : mdA n with
  | false =>
   rw [hA] at j
   simp [j, zZg.r3, he', made, hA]
  | true =>
   rw [hA] at j
   have hN3 : okCells H' (some 3) (some (cN n).tail) = some (eNm n.name, H') := rfl
   have hnm := fun H => wZM n.name H
   have e12' := fun (e : List V) he g1 g3 hN => e12 e he g1 g3 hA hN
   simp only [kSeq, kRegion] at e12'
   have cc0 : cellsAt H' (.ptr 0 1) = some ((cN n).drop 1) := c1
   cases k1 : (n.kind == 1) with
   | true =>
    have hN : mdN n = named n.name := by simp [mdN, k1]
    cases hn : named n.name with
    | false =>
     simp only [hn] at hnm
     have hmd : made n = false := by simp [made, hN, hn]
     rw [hmd]
     simp [j, zZg.r4, zZg.r5, zZg.r6, he', j1, j3, k1, faddrP, cc0, hN3, hnm]
    | true =>
     simp only [hn] at hnm
     simp [j, zZg.r4, zZg.r5, he', j1, j3, k1, faddrP, cc0, hN3, hnm]
     refine e12' _ ?_ ?_ ?_ (by rw [hN, hn]) <;> simp [he', j1, j3]
   | false =>
    have r8go : ∀ e : List V, e.length = 164 → eget e 1 = .ptr 0 0 → eget e 3 = .int .u8 n.kind → (n.kind == 10 || n.kind == 7) = true →
      WK (callW Φ) none (FinV [.tmp 2] (.bool (made n))) (.o zZg.r8 :: .c (.cond (.t 66) (xS zZg.r9 .ret) .skip) :: .b 0 :: [.c (snd' (snd' (snd' (snd' zZg.c.body))))]) { env := e, marks := [], heap := H' } := by
     intro e he g1 g3 hk
     have hN : mdN n = (beqS n.name.sp ⟨#[]⟩ && beqS n.name.pr ⟨#[]⟩ && !beqS n.name.lo ⟨#[]⟩ && decide (n.name.lo.size ≤ 1024)) := by simp only [mdN, k1, hk]; simp
     refine kNormalO (made_r8 hK he g1 g3) ?_
     rintro ⟨e2, mk, H2⟩ ⟨he2, i1, i3, hm, hh, i⟩
     simp only at he2 i1 i3 hm hh i
     obtain rfl := hm
     obtain rfl := hh
     rw [← hN] at i
     cases hc : mdN n with
     | false =>
      rw [hc] at i
      simp [i, zZg.r9, he2, made, hc]
     | true =>
      rw [hc] at i
      simp [i, snd', zZg.c]
      exact e12' e2 he2 i1 i3 hc
    have r10go : ∀ e : List V, e.length = 164 → eget e 1 = .ptr 0 0 → eget e 3 = .int .u8 n.kind → (n.kind == 10 || n.kind == 7) = false →
      WK (callW Φ) none (FinV [.tmp 2] (.bool (made n))) (.o zZg.r10 :: .c (.cond (.t 67) (xS zZg.r11 .ret) .skip) :: .b 0 :: [.c (snd' (snd' (snd' (snd' zZg.c.body))))]) { env := e, marks := [], heap := H' } := by
     intro e he g1 g3 hk
     have hN : mdN n = (beqS n.name.sp ⟨#[]⟩ && beqS n.name.pr ⟨#[]⟩ && beqS n.name.lo ⟨#[]⟩) := by simp only [mdN, k1, hk]; simp
     refine kNormalO (made_r10 hK he g1 g3) ?_
     rintro ⟨e2, mk, H2⟩ ⟨he2, i1, i3, hm, hh, i⟩
     simp only at he2 i1 i3 hm hh i
     obtain rfl := hm
     obtain rfl := hh
     rw [← hN] at i
     cases hc : mdN n with
     | false =>
      rw [hc] at i
      simp [i, zZg.r11, he2, made, hc]
     | true =>
      rw [hc] at i
      simp [i, snd', zZg.c]
      exact e12' e2 he2 i1 i3 hc
    cases k10 : (n.kind == 10) with
    | true =>
     simp [j, zZg.r4, zZg.r7, he', j1, j3, k1, k10, evPick]
     refine r8go _ ?_ ?_ ?_ (by rw [k10]; rfl) <;> simp [he', j1, j3]
    | false =>
     cases k7 : (n.kind == 7) with
     | true =>
      simp [j, zZg.r4, zZg.r7, he', j1, j3, k1, k10, k7, evPick]
      refine r8go _ ?_ ?_ ?_ (by rw [k10, k7]; rfl) <;> simp [he', j1, j3]
     | false =>
      simp [j, zZg.r4, zZg.r7, he', j1, j3, k1, k10, k7, evPick]
      refine r10go _ ?_ ?_ ?_ (by rw [k10, k7]; rfl) <;> simp [he', j1, j3]
 obtain ⟨h', hb⟩ := this
 exact zZ4 (h := H) zZg.Φ rfl (args := [eN n]) rfl hb rfl
end Go.Proofs.It
