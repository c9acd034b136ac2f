/- The book's number: the walk. No conditions. -/
import Derived.Test.YtcfgiajpbjbdpaaGreatDoorScWf
set_option maxHeartbeats 16000000
set_option maxRecDepth 100000
set_option linter.unusedVariables false
set_option linter.unusedSimpArgs false
set_option linter.unusedSectionVars false
namespace Go.Proofs.Sc
open Go Go.Ev
theorem neg_conv {n : Nat} (h : n ≤ 9223372036854775808) : IntKind.i64.wrap (IntKind.u64.wrap (((18446744073709551615 - n : Nat) : Int) + 1)) = -(n : Int) := by
 simp only [IntKind.wrap, IntKind.bits, IntKind.signed, Bool.false_and, Bool.true_and, Bool.false_eq_true, if_false, decide_eq_true_eq]
 split <;> omega
theorem eqI (x y : Nat) (b : Bool) (h : b = decide (x = y)) : ((x : Int) == (y : Int)) = b := by
 subst h
 by_cases h : x = y
 ·subst h; simp
 ·have : ¬ (x : Int) = (y : Int) := by omega
  simp [h]; omega
theorem xZ0 (s : Bs) (a : Nat) (hz : s.length < 2 ^ 40) (hal : a ≤ s.length) (H : Heap) : callW Φ zZA [T s, .int .i64 a] H = some (V.tup [.int .i64 (n1 (number (s.drop a))), .int .i64 (en s a (number (s.drop a)) : Nat), .bool (number (s.drop a)).isSome], H) := by
 have : ∃ hh, evBodyW (callW Φ) zZA.c [T s, .int .i64 a] [] = some (V.tup [.int .i64 (n1 (number (s.drop a))), .int .i64 (en s a (number (s.drop a)) : Nat), .bool (number (s.drop a)).isSome], hh) := by
  refine wZg (Nat.le_of_ble_eq_true rfl) (fun env he h0 => ?_)
  have g0 := h0 0 (by simp)
  change eget env 0 = T s at g0
  have g1 := h0 1 (by simp)
  change eget env 1 = .int .i64 a at g1
  clear h0
  simp [zZA.c] at he
  obtain ⟨neg, hneg⟩ : ∃ neg, neg = decide (s[a]? = some 45) := ⟨_, rfl⟩
  obtain ⟨f, hf⟩ : ∃ f, f = if neg then a + 1 else a := ⟨_, rfl⟩
  obtain ⟨y, hy⟩ : ∃ y, y = s.drop f := ⟨_, rfl⟩
  obtain ⟨D, hD⟩ : ∃ D, D = y.takeWhile dig := ⟨_, rfl⟩
  have hfl : f ≤ s.length := by
   rw [hf]
   cases neg with
   | false => exact hal
   | true =>
    have h : s[a]? = some 45 := by simpa using hneg.symm
    have := (List.getElem?_eq_some_iff.1 h).1
    exact this
  have hfa : a ≤ f := by rw [hf]; split <;> omega
  have hx : s.drop a = if neg then 45 :: y else y := by
   cases neg with
   | false => rw [hy, hf]; rfl
   | true =>
    have h : s[a]? = some 45 := by simpa using hneg.symm
    obtain ⟨h1, h2⟩ := List.getElem?_eq_some_iff.1 h
    rw [hy, hf, List.drop_eq_getElem_cons h1, h2]
    rfl
  have hn : neg = false → y.head? ≠ some 45 := by
   intro h0 e
   rw [hy, hf, h0] at e
   simp only [Bool.false_eq_true, if_false] at e
   rw [List.head?_drop] at e
   rw [h0] at hneg
   simp [e] at hneg
  have hbad : badN neg D → number (s.drop a) = none := fun h => number_bad hx hn (by rw [← hD]; exact h)
  have hgood : ¬ badN neg D → number (s.drop a) = some (if neg then -(valD D : Int) else (valD D : Int), y.drop D.length) := fun h => by
   have := number_good hx hn (by rw [← hD]; exact h)
   rw [← hD] at this
   exact this
  have hdd : ∀ b ∈ D, dig b = true := by rw [hD]; exact zYar y
  have hyD : D ++ y.drop D.length = y := by rw [hD]; exact tw_drop dig y
  have hyl : y.length = s.length - f := by rw [hy, List.length_drop]
  have hDl : D.length + f ≤ s.length := by
   have := congrArg List.length hyD
   rw [List.length_append] at this
   omega
  have hget : ∀ i, s[f + i]? = y[i]? := fun i => by rw [hy, List.getElem?_drop]
  have hgetD : ∀ i, i < D.length → s[f + i]? = D[i]? := fun i hi => by
   rw [hget]
   conv => lhs; rw [← hyD]
   rw [List.getElem?_append_left hi]
  have hnx : s.length ≤ f + D.length ∨ ∃ b, s[f + D.length]? = some b ∧ (b.toNat < 48 ∨ (48 ≤ b.toNat ∧ 57 < b.toNat)) := by
   by_cases h : s.length ≤ f + D.length
   ·exact .inl h
   ·right
    have hlt : f + D.length < s.length := by omega
    refine ⟨s[f + D.length], List.getElem?_eq_getElem hlt, ?_⟩
    have hb := zYav y s[f + D.length] (p := dig) (by
     rw [← hD, List.head?_drop, ← hget, List.getElem?_eq_getElem hlt])
    simp only [dig, Bool.and_eq_false_iff, decide_eq_false_iff_not] at hb
    omega
  have hfail : number (s.drop a) = none → V.tup [.int .i64 (n1 (number (s.drop a))), .int .i64 (en s a (number (s.drop a)) : Nat), .bool (number (s.drop a)).isSome] = V.tup [.int .i64 0, .int .i64 a, .bool false] := fun h => by rw [h]; rfl
  have key3 : ∀ env : List V, env.length = 118 → eget env 0 = T s → eget env 1 = .int .i64 ((f + D.length : Nat) : Int) → eget env 7 = .int .i64 a → eget env 8 = .bool neg → eget env 9 = .int .i64 f → eget env 10 = .int .u64 (valD D : Nat) →
    0 < D.length → D.length ≤ 19 → (neg = true → valD D ≤ 9223372036854775808) → (neg = false → valD D ≤ 9223372036854775807) →
    WK (callW Φ) none (FinV [.tmp 4, .tmp 5, .tmp 6] (V.tup [.int .i64 (n1 (number (s.drop a))), .int .i64 (en s a (number (s.drop a)) : Nat), .bool (number (s.drop a)).isSome])) [It.o zZA.r13, It.c (.cond (.t 107) (xS zZA.r14 .ret) .skip), It.c (.seq (xS zZA.r15 (.cond (.t 109) (xS zZA.r16 .ret) .skip)) (xS zZA.r17 .ret))] { env := env, marks := [], heap := [] } := by
   intro env he k0 k1 k7 k8 k9 k10 h0 h19 hn1 hn2
   obtain ⟨b, hb⟩ : ∃ b, D[0]? = some b := ⟨_, List.getElem?_eq_getElem h0⟩
   have hb0 : D.head? = some b := by rw [List.head?_eq_getElem?]; exact hb
   have ix := idx_T (h := []) (k := .i64) (n := (f : Int)) (by omega) (show s[(f : Int).toNat]? = some b by rw [Int.toNat_natCast, ← hb, ← hgetD 0 h0]; rfl)
   have e48 : (((48 : UInt8).toNat : Nat) : Int) = 48 := rfl
   have wf1 := wrap64 (n := (f : Int) + 1) (by omega) (by omega)
   have fin : ¬ badN neg D → ∀ env : List V, env.length = 118 → eget env 1 = .int .i64 ((f + D.length : Nat) : Int) → eget env 8 = .bool neg → eget env 10 = .int .u64 (valD D : Nat) →
     WK (callW Φ) none (FinV [.tmp 4, .tmp 5, .tmp 6] (V.tup [.int .i64 (n1 (number (s.drop a))), .int .i64 (en s a (number (s.drop a)) : Nat), .bool (number (s.drop a)).isSome])) [It.o zZA.r15, It.c (.cond (.t 109) (xS zZA.r16 .ret) .skip), It.c (xS zZA.r17 .ret)] { env := env, marks := [], heap := [] } := by
    intro hg env he k1 k8 k10
    have hr := hgood hg
    have hen : s.length - (y.drop D.length).length = f + D.length := by rw [List.length_drop, hyl]; omega
    obtain ⟨N, hN⟩ : ∃ N, N = valD D := ⟨_, rfl⟩
    rw [← hN] at k10 hr hn1 hn2
    cases neg with
    | true =>
     have hN63 := hn1 rfl
     have h1 := xor_u64 (x := N) (by omega)
     have h2 := neg_conv hN63
     have hres : V.tup [.int .i64 (n1 (number (s.drop a))), .int .i64 (en s a (number (s.drop a)) : Nat), .bool (number (s.drop a)).isSome] = V.tup [.int .i64 (-(N : Int)), .int .i64 ((f + D.length : Nat) : Int), .bool true] := by
      rw [hr]; simp only [if_true, n1, en, hen]; rfl
     rw [hres]
     obtain ⟨M, hM⟩ : ∃ M, M = 18446744073709551615 - N := ⟨_, rfl⟩
     rw [← hM] at h1 h2
     obtain ⟨X, hX⟩ : ∃ X : Int, X = ((f + D.length : Nat) : Int) := ⟨_, rfl⟩
     rw [← hX] at k1 ⊢
     simp [zZA.r15, zZA.r16, k1, k8, k10, he, h1, evConv, h2]
    | false =>
     have hN63 := hn2 rfl
     have h2 : IntKind.i64.wrap (N : Int) = N := wrap64 (by omega) (by omega)
     have hres : V.tup [.int .i64 (n1 (number (s.drop a))), .int .i64 (en s a (number (s.drop a)) : Nat), .bool (number (s.drop a)).isSome] = V.tup [.int .i64 (N : Int), .int .i64 ((f + D.length : Nat) : Int), .bool true] := by
      rw [hr]; simp only [Bool.false_eq_true, if_false, n1, en, hen]; rfl
     rw [hres]
     obtain ⟨X, hX⟩ : ∃ X : Int, X = ((f + D.length : Nat) : Int) := ⟨_, rfl⟩
     rw [← hX] at k1 ⊢
     simp [zZA.r15, zZA.r17, k1, k8, k10, he, evConv, h2]
   have ng : ¬ (D.head? = some 48 ∧ (1 < D.length ∨ neg = true)) → ¬ badN neg D := fun h hb => by
    rcases hb with hb | hb | ⟨hb1, hb2⟩ | ⟨hb1, hb2⟩ | hb
    ·rw [hb] at h0; exact absurd h0 (by simp)
    ·omega
    ·have := hn1 hb1; omega
    ·have := hn2 hb1; omega
    ·exact h hb
   by_cases c48 : b = 48
   ·have q := eqB b 48 true (by simpa using c48)
    rw [e48] at q
    by_cases c1 : 1 < D.length
    ·have c1' : (f : Int) + 1 < ((f + D.length : Nat) : Int) := by omega
     have hr := hfail (hbad (.inr (.inr (.inr (.inr ⟨by rw [hb0, c48], .inl c1⟩)))))
     rw [hr]
     obtain ⟨X, hX⟩ : ∃ X : Int, X = ((f + D.length : Nat) : Int) := ⟨_, rfl⟩
     rw [← hX] at k1 c1'
     simp [zZA.r13, zZA.r14, k0, k1, k7, k8, k9, he, ix, q, wf1, c1', evPick]
    ·have c1' : ¬ (f : Int) + 1 < ((f + D.length : Nat) : Int) := by omega
     cases hng : neg with
     | true =>
      rw [hng] at k8
      have hr := hfail (hbad (.inr (.inr (.inr (.inr ⟨by rw [hb0, c48], .inr hng⟩)))))
      rw [hr]
      obtain ⟨X, hX⟩ : ∃ X : Int, X = ((f + D.length : Nat) : Int) := ⟨_, rfl⟩
      rw [← hX] at k1 c1'
      simp [zZA.r13, zZA.r14, k0, k1, k7, k8, k9, he, ix, q, wf1, c1', evPick]
     | false =>
      have hg := ng (fun h => by
       rcases h.2 with h | h
       ·exact c1 h
       ·rw [hng] at h; cases h)
      rw [hng] at k8
      obtain ⟨X, hX⟩ : ∃ X : Int, X = ((f + D.length : Nat) : Int) := ⟨_, rfl⟩
      rw [← hX] at k1 c1'
      simp [zZA.r13, k0, k1, k7, k8, k9, he, ix, q, wf1, c1', evPick, -FinV]
      exact fin hg _ (by simp [he]) (by simp [k1, hX]) (by simp [k8, hng]) (by simp [k10])
   ·have q := eqB b 48 false (by simpa using c48)
    rw [e48] at q
    have hg := ng (fun h => by rw [hb0] at h; exact c48 (Option.some.inj h.1))
    simp [zZA.r13, k0, k1, k7, k8, k9, he, ix, q, wf1, evPick, -FinV]
    exact fin hg _ (by simp [he]) (by simp [k1]) (by simp [k8]) (by simp [k10])
  have key2 : ∀ (i : Nat) (env : List V), env.length = 118 → eget env 0 = T s → eget env 1 = .int .i64 ((f + i : Nat) : Int) → eget env 7 = .int .i64 a → eget env 8 = .bool neg → eget env 9 = .int .i64 f → eget env 10 = .int .u64 (valD (D.take i) : Nat) →
    i ≤ D.length → i ≤ 19 → (i < D.length → i = 19) →
    WK (callW Φ) none (FinV [.tmp 4, .tmp 5, .tmp 6] (V.tup [.int .i64 (n1 (number (s.drop a))), .int .i64 (en s a (number (s.drop a)) : Nat), .bool (number (s.drop a)).isSome])) [It.o zZA.r11, It.c (.cond (.t 93) (xS zZA.r12 .ret) .skip), It.c (.seq (xS zZA.r13 (.cond (.t 107) (xS zZA.r14 .ret) .skip)) (.seq (xS zZA.r15 (.cond (.t 109) (xS zZA.r16 .ret) .skip)) (xS zZA.r17 .ret)))] { env := env, marks := [], heap := [] } := by
   intro i env he k0 k1 k7 k8 k9 k10 hi hi19 hi2
   by_cases i0 : i = 0
   ·have hD0 : D = [] := by
     cases hc : D with
     | nil => rfl
     | cons x l => have := hi2 (by rw [i0, hc]; simp); omega
    have q := eqI (f + i) f true (by simp [i0])
    rw [hfail (hbad (.inl hD0))]
    obtain ⟨X, hX⟩ : ∃ X : Int, X = ((f + i : Nat) : Int) := ⟨_, rfl⟩
    rw [← hX] at k1 q
    simp [zZA.r11, zZA.r12, k0, k1, k7, k8, k9, k10, he, q, evPick]
   have q := eqI (f + i) f false (by simp [i0])
   by_cases i1 : i < D.length
   ·obtain ⟨b, hb⟩ : ∃ b, D[i]? = some b := ⟨_, List.getElem?_eq_getElem i1⟩
    have hdb := hdd b (List.mem_of_getElem? hb)
    simp only [dig, Bool.and_eq_true, decide_eq_true_eq] at hdb
    have d1 : (48 : Int) ≤ (b.toNat : Int) := by omega
    have d2 : (b.toNat : Int) ≤ 57 := by omega
    have ix := idx_T (h := []) (k := .i64) (n := ((f + i : Nat) : Int)) (by omega) (show s[((f + i : Nat) : Int).toNat]? = some b by rw [Int.toNat_natCast, hgetD i i1, hb])
    have cl : ((f + i : Nat) : Int) < (s.length : Int) := by omega
    rw [hfail (hbad (.inr (.inl (by have := hi2 i1; omega))))]
    obtain ⟨X, hX⟩ : ∃ X : Int, X = ((f + i : Nat) : Int) := ⟨_, rfl⟩
    rw [← hX] at k1 q ix cl
    simp [zZA.r11, zZA.r12, k0, k1, k7, k8, k9, k10, he, q, vZm, cl, ix, d1, d2, hdb.1, hdb.2, evPick]
   have hie : i = D.length := by omega
   subst hie
   rw [List.take_length] at k10
   obtain ⟨N, hN⟩ : ∃ N, N = valD D := ⟨_, rfl⟩
   obtain ⟨X, hX⟩ : ∃ X : Int, X = ((f + D.length : Nat) : Int) := ⟨_, rfl⟩
   rcases hnx with hnx | ⟨b, hb, hnx⟩
   ·have cl : ¬ ((f + D.length : Nat) : Int) < (s.length : Int) := by omega
    cases hng : neg with
    | true =>
     have k8' := k8
     rw [hng] at k8
     by_cases ov : 9223372036854775808 < valD D
     ·have ov' : (9223372036854775808 : Int) < (N : Int) := by omega
      rw [hfail (hbad (.inr (.inr (.inl ⟨hng, by omega⟩))))]
      rw [← hN] at k10
      rw [← hX] at k1 q cl
      simp [zZA.r11, zZA.r12, k0, k1, k7, k8, k9, k10, he, q, vZm, cl, ov', evPick]
     ·have ov' : ¬ (9223372036854775808 : Int) < (N : Int) := by omega
      have k10' := k10
      have k1' := k1
      rw [← hN] at k10
      rw [← hX] at k1 q cl
      simp [zZA.r11, k0, k1, k7, k8, k9, k10, he, q, vZm, cl, ov', evPick, -FinV]
      exact key3 _ (by simp [he]) (by simp [k0]) (by simp [k1']) (by simp [k7]) (by simp [k8']) (by simp [k9]) (by simp [k10']) (by omega) hi19 (fun h => by omega) (fun h => by rw [hng] at h; cases h)
    | false =>
     have k8' := k8
     rw [hng] at k8
     by_cases ov : 9223372036854775807 < valD D
     ·have ov' : (9223372036854775807 : Int) < (N : Int) := by omega
      rw [hfail (hbad (.inr (.inr (.inr (.inl ⟨hng, by omega⟩)))))]
      rw [← hN] at k10
      rw [← hX] at k1 q cl
      simp [zZA.r11, zZA.r12, k0, k1, k7, k8, k9, k10, he, q, vZm, cl, ov', evPick]
     ·have ov' : ¬ (9223372036854775807 : Int) < (N : Int) := by omega
      have k10' := k10
      have k1' := k1
      rw [← hN] at k10
      rw [← hX] at k1 q cl
      simp [zZA.r11, k0, k1, k7, k8, k9, k10, he, q, vZm, cl, ov', evPick, -FinV]
      exact key3 _ (by simp [he]) (by simp [k0]) (by simp [k1']) (by simp [k7]) (by simp [k8']) (by simp [k9]) (by simp [k10']) (by omega) hi19 (fun h => by rw [hng] at h; cases h) (fun h => by omega)
   ·have hlt := (List.getElem?_eq_some_iff.1 hb).1
    have cl : ((f + D.length : Nat) : Int) < (s.length : Int) := by omega
    have ix := idx_T (h := []) (k := .i64) (n := ((f + D.length : Nat) : Int)) (by omega) (show s[((f + D.length : Nat) : Int).toNat]? = some b by rw [Int.toNat_natCast, hb])
    rcases hnx with hnx | ⟨hnx1, hnx2⟩
    ·have d1 : ¬ (48 : Int) ≤ (b.toNat : Int) := by omega
     have d1' : ¬ 48 ≤ b.toNat := by omega
     cases hng : neg with
     | true =>
      have k8' := k8
      rw [hng] at k8
      by_cases ov : 9223372036854775808 < valD D
      ·have ov' : (9223372036854775808 : Int) < (N : Int) := by omega
       rw [hfail (hbad (.inr (.inr (.inl ⟨hng, by omega⟩))))]
       rw [← hN] at k10
       rw [← hX] at k1 q cl ix
       simp [zZA.r11, zZA.r12, k0, k1, k7, k8, k9, k10, he, q, vZm, cl, ix, d1, d1', ov', evPick]
      ·have ov' : ¬ (9223372036854775808 : Int) < (N : Int) := by omega
       have k10' := k10
       have k1' := k1
       rw [← hN] at k10
       rw [← hX] at k1 q cl ix
       simp [zZA.r11, k0, k1, k7, k8, k9, k10, he, q, vZm, cl, ix, d1, d1', ov', evPick, -FinV]
       exact key3 _ (by simp [he]) (by simp [k0]) (by simp [k1']) (by simp [k7]) (by simp [k8']) (by simp [k9]) (by simp [k10']) (by omega) hi19 (fun h => by omega) (fun h => by rw [hng] at h; cases h)
     | false =>
      have k8' := k8
      rw [hng] at k8
      by_cases ov : 9223372036854775807 < valD D
      ·have ov' : (9223372036854775807 : Int) < (N : Int) := by omega
       rw [hfail (hbad (.inr (.inr (.inr (.inl ⟨hng, by omega⟩)))))]
       rw [← hN] at k10
       rw [← hX] at k1 q cl ix
       simp [zZA.r11, zZA.r12, k0, k1, k7, k8, k9, k10, he, q, vZm, cl, ix, d1, d1', ov', evPick]
      ·have ov' : ¬ (9223372036854775807 : Int) < (N : Int) := by omega
       have k10' := k10
       have k1' := k1
       rw [← hN] at k10
       rw [← hX] at k1 q cl ix
       simp [zZA.r11, k0, k1, k7, k8, k9, k10, he, q, vZm, cl, ix, d1, d1', ov', evPick, -FinV]
       exact key3 _ (by simp [he]) (by simp [k0]) (by simp [k1']) (by simp [k7]) (by simp [k8']) (by simp [k9]) (by simp [k10']) (by omega) hi19 (fun h => by rw [hng] at h; cases h) (fun h => by omega)
    ·have d1 : (48 : Int) ≤ (b.toNat : Int) := by omega
     have d2 : ¬ (b.toNat : Int) ≤ 57 := by omega
     have d2' : ¬ b.toNat ≤ 57 := by omega
     cases hng : neg with
     | true =>
      have k8' := k8
      rw [hng] at k8
      by_cases ov : 9223372036854775808 < valD D
      ·have ov' : (9223372036854775808 : Int) < (N : Int) := by omega
       rw [hfail (hbad (.inr (.inr (.inl ⟨hng, by omega⟩))))]
       rw [← hN] at k10
       rw [← hX] at k1 q cl ix
       simp [zZA.r11, zZA.r12, k0, k1, k7, k8, k9, k10, he, q, vZm, cl, ix, d1, d2, hnx1, d2', ov', evPick]
      ·have ov' : ¬ (9223372036854775808 : Int) < (N : Int) := by omega
       have k10' := k10
       have k1' := k1
       rw [← hN] at k10
       rw [← hX] at k1 q cl ix
       simp [zZA.r11, k0, k1, k7, k8, k9, k10, he, q, vZm, cl, ix, d1, d2, hnx1, d2', ov', evPick, -FinV]
       exact key3 _ (by simp [he]) (by simp [k0]) (by simp [k1']) (by simp [k7]) (by simp [k8']) (by simp [k9]) (by simp [k10']) (by omega) hi19 (fun h => by omega) (fun h => by rw [hng] at h; cases h)
     | false =>
      have k8' := k8
      rw [hng] at k8
      by_cases ov : 9223372036854775807 < valD D
      ·have ov' : (9223372036854775807 : Int) < (N : Int) := by omega
       rw [hfail (hbad (.inr (.inr (.inr (.inl ⟨hng, by omega⟩)))))]
       rw [← hN] at k10
       rw [← hX] at k1 q cl ix
       simp [zZA.r11, zZA.r12, k0, k1, k7, k8, k9, k10, he, q, vZm, cl, ix, d1, d2, hnx1, d2', ov', evPick]
      ·have ov' : ¬ (9223372036854775807 : Int) < (N : Int) := by omega
       have k10' := k10
       have k1' := k1
       rw [← hN] at k10
       rw [← hX] at k1 q cl ix
       simp [zZA.r11, k0, k1, k7, k8, k9, k10, he, q, vZm, cl, ix, d1, d2, hnx1, d2', ov', evPick, -FinV]
       exact key3 _ (by simp [he]) (by simp [k0]) (by simp [k1']) (by simp [k7]) (by simp [k8']) (by simp [k9]) (by simp [k10']) (by omega) hi19 (fun h => by rw [hng] at h; cases h) (fun h => by omega)
  have key1 : ∀ (env : List V), env.length = 118 → eget env 0 = T s → eget env 1 = .int .i64 (f : Nat) → eget env 7 = .int .i64 a → eget env 8 = .bool neg →
    WK (callW Φ) none (FinV [.tmp 4, .tmp 5, .tmp 6] (V.tup [.int .i64 (n1 (number (s.drop a))), .int .i64 (en s a (number (s.drop a)) : Nat), .bool (number (s.drop a)).isSome])) [It.o zZA.r5, It.c (xS zZA.r6 (.seq (.block 0 (.loop zZA.b10)) (.seq (xS zZA.r11 (.cond (.t 93) (xS zZA.r12 .ret) .skip)) (.seq (xS zZA.r13 (.cond (.t 107) (xS zZA.r14 .ret) .skip)) (.seq (xS zZA.r15 (.cond (.t 109) (xS zZA.r16 .ret) .skip)) (xS zZA.r17 .ret))))))] { env := env, marks := [], heap := [] } := by
   intro env he k0 k1 k7 k8
   simp [zZA.r5, zZA.r6, k1, he, -FinV]
   obtain ⟨I, hI⟩ : ∃ I : Nat → St → Prop, I = fun m st => ∃ (i : Nat), m = D.length - i ∧ i ≤ D.length ∧ i ≤ 19 ∧ (eget st.env 0 = T s ∧ eget st.env 1 = .int .i64 ((f + i : Nat) : Int) ∧ eget st.env 7 = .int .i64 a ∧ eget st.env 8 = .bool neg ∧ eget st.env 9 = .int .i64 f ∧ eget st.env 10 = .int .u64 (valD (D.take i) : Nat) ∧ st.env.length = 118) ∧ st.marks = [] ∧ st.heap = [] := ⟨_, rfl⟩
   refine kLoop I D.length (by rw [hI]; exact ⟨0, rfl, by omega, by omega, ⟨by simp [k0], by simp [k1], by simp [k7], by simp [k8], by simp [he], by simp [he, valD], by simp [he]⟩, rfl, rfl⟩) ?_
   rintro m ⟨env, mk, Hh⟩ hst
   rw [hI] at hst
   obtain ⟨i, rfl, hi, hi19, ⟨k0, k1, k7, k8, k9, k10, hl⟩, hm, hh⟩ := hst
   simp only at k0 k1 k7 k8 k9 k10 hl hm hh
   obtain rfl := hm
   obtain rfl := hh
   have wfi : IntKind.i64.wrap (((f + i : Nat) : Int) - (f : Int)) = (i : Int) := by
    have e : ((f + i : Nat) : Int) - (f : Int) = (i : Int) := by omega
    rw [e]; exact wrap64 (by omega) (by omega)
   by_cases i1 : i < D.length
   ·obtain ⟨b, hb⟩ : ∃ b, D[i]? = some b := ⟨_, List.getElem?_eq_getElem i1⟩
    have hdb := hdd b (List.mem_of_getElem? hb)
    simp only [dig, Bool.and_eq_true, decide_eq_true_eq] at hdb
    have d1 : (48 : Int) ≤ (b.toNat : Int) := by omega
    have d2 : (b.toNat : Int) ≤ 57 := by omega
    have ix := idx_T (h := []) (k := .i64) (n := ((f + i : Nat) : Int)) (by omega) (show s[((f + i : Nat) : Int).toNat]? = some b by rw [Int.toNat_natCast, hgetD i i1, hb])
    have cl : ((f + i : Nat) : Int) < (s.length : Int) := by omega
    by_cases c19 : i < 19
    ·have c19' : (i : Int) < 19 := by omega
     have hv : valD (D.take i) < 10 ^ 18 := by
      have h1 := valD_lt i (D.take i) (by rw [List.length_take]; omega) (fun x hx => hdd x (List.mem_of_mem_take hx))
      exact Nat.lt_of_lt_of_le h1 (Nat.pow_le_pow_right (by omega) (by omega))
     have e18 : (10 : Nat) ^ 18 = 1000000000000000000 := by decide
     obtain ⟨N, hN⟩ : ∃ N, N = valD (D.take i) := ⟨_, rfl⟩
     have hnext : valD (D.take (i + 1)) = 10 * N + (b.toNat - 48) := by
      rw [List.take_add_one, hb, hN]; exact zYax _ _
     rw [← hN] at hv k10
     have w1 : IntKind.u64.wrap (10 * (N : Int)) = ((10 * N : Nat) : Int) := by
      have := wu64 (n := 10 * N) (by omega)
      simpa using this
     have w2 : IntKind.u8.wrap ((b.toNat : Int) - 48) = ((b.toNat - 48 : Nat) : Int) := by
      have e : (b.toNat : Int) - 48 = ((b.toNat - 48 : Nat) : Int) := by omega
      rw [e]; exact w8 (by omega)
     obtain ⟨d, hd⟩ : ∃ d, d = b.toNat - 48 := ⟨_, rfl⟩
     rw [← hd] at w2 hnext
     have w3 : IntKind.u64.wrap (d : Int) = (d : Int) := wu64 (by omega)
     obtain ⟨M, hM⟩ : ∃ M, M = 10 * N := ⟨_, rfl⟩
     rw [← hM] at w1 hnext
     have w4 : IntKind.u64.wrap ((M : Int) + (d : Int)) = ((M + d : Nat) : Int) := by
      have := wu64 (n := M + d) (by omega)
      simpa using this
     have w5 : IntKind.i64.wrap (((f + i : Nat) : Int) + 1) = ((f + (i + 1) : Nat) : Int) := by
      have e : ((f + i : Nat) : Int) + 1 = ((f + (i + 1) : Nat) : Int) := by omega
      rw [e]; exact wrap64 (by omega) (by omega)
     obtain ⟨Y, hY⟩ : ∃ Y : Int, Y = ((f + (i + 1) : Nat) : Int) := ⟨_, rfl⟩
     obtain ⟨Z, hZ⟩ : ∃ Z : Int, Z = ((M + d : Nat) : Int) := ⟨_, rfl⟩
     obtain ⟨X, hX⟩ : ∃ X : Int, X = ((f + i : Nat) : Int) := ⟨_, rfl⟩
     rw [← hY] at w5
     rw [← hZ] at w4
     rw [← hX] at k1 ix cl wfi w5
     simp only [zZA.b10]
     simp [zZA.r7, zZA.r8, zZA.r9, k0, k1, k8, k9, k10, hl, vZm, cl, ix, d1, d2, hdb.1, hdb.2, wfi, c19, c19', w1, w2, evConv, w3, w4, w5, evPick]
     refine ⟨D.length - (i + 1), by omega, ?_⟩
     rw [hI]
     exact ⟨i + 1, rfl, by omega, by omega, ⟨by simp [k0], by simp [hl, hY], by simp [k7], by simp [k8], by simp [k9], by rw [hnext]; simp [hl, hZ], by simp [hl]⟩, rfl, rfl⟩
    ·have c19' : ¬ (i : Int) < 19 := by omega
     have k1' := k1
     obtain ⟨X, hX⟩ : ∃ X : Int, X = ((f + i : Nat) : Int) := ⟨_, rfl⟩
     rw [← hX] at k1 ix cl wfi
     simp only [zZA.b10]
     simp [zZA.r7, k0, k1, k8, k9, k10, hl, vZm, cl, ix, d1, d2, hdb.1, hdb.2, wfi, c19, c19', evPick, -FinV]
     exact key2 i _ (by simp [hl]) (by simp [k0]) (by simp [k1']) (by simp [k7]) (by simp [k8]) (by simp [k9]) (by simp [k10]) hi hi19 (fun _ => by omega)
   ·have hie : i = D.length := by omega
    have k1' := k1
    have done : ∀ env : List V, env.length = 118 → eget env 0 = T s → eget env 1 = .int .i64 ((f + i : Nat) : Int) → eget env 7 = .int .i64 a → eget env 8 = .bool neg → eget env 9 = .int .i64 f → eget env 10 = .int .u64 (valD (D.take i) : Nat) → WK (callW Φ) none (FinV [.tmp 4, .tmp 5, .tmp 6] (V.tup [.int .i64 (n1 (number (s.drop a))), .int .i64 (en s a (number (s.drop a)) : Nat), .bool (number (s.drop a)).isSome])) [It.o zZA.r11, It.c (.cond (.t 93) (xS zZA.r12 .ret) .skip), It.c (.seq (xS zZA.r13 (.cond (.t 107) (xS zZA.r14 .ret) .skip)) (.seq (xS zZA.r15 (.cond (.t 109) (xS zZA.r16 .ret) .skip)) (xS zZA.r17 .ret)))] { env := env, marks := [], heap := [] } := fun env e0 e1 e2 e3 e4 e5 e6 => key2 i env e0 e1 e2 e3 e4 e5 e6 hi hi19 (fun h => absurd h i1)
    obtain ⟨X, hX⟩ : ∃ X : Int, X = ((f + i : Nat) : Int) := ⟨_, rfl⟩
    rcases hnx with hnx | ⟨b, hb, hnx⟩
    ·have cl : ¬ ((f + i : Nat) : Int) < (s.length : Int) := by omega
     rw [← hX] at k1 cl
     simp only [zZA.b10]
     simp [zZA.r7, k0, k1, k8, k9, k10, hl, vZm, cl, evPick, -FinV]
     exact done _ (by simp [hl]) (by simp [k0]) (by simp [k1']) (by simp [k7]) (by simp [k8]) (by simp [k9]) (by simp [k10])
    ·rw [← hie] at hb
     have hlt := (List.getElem?_eq_some_iff.1 hb).1
     have cl : ((f + i : Nat) : Int) < (s.length : Int) := by omega
     have ix := idx_T (h := []) (k := .i64) (n := ((f + i : Nat) : Int)) (by omega) (show s[((f + i : Nat) : Int).toNat]? = some b by rw [Int.toNat_natCast, hb])
     rw [← hX] at k1 cl ix
     rcases hnx with hnx | ⟨hnx1, hnx2⟩
     ·have d1 : ¬ (48 : Int) ≤ (b.toNat : Int) := by omega
      have d1' : ¬ 48 ≤ b.toNat := by omega
      simp only [zZA.b10]
      simp [zZA.r7, k0, k1, k8, k9, k10, hl, vZm, cl, ix, d1, d1', evPick, -FinV]
      exact done _ (by simp [hl]) (by simp [k0]) (by simp [k1']) (by simp [k7]) (by simp [k8]) (by simp [k9]) (by simp [k10])
     ·have d1 : (48 : Int) ≤ (b.toNat : Int) := by omega
      have d2 : ¬ (b.toNat : Int) ≤ 57 := by omega
      have d2' : ¬ b.toNat ≤ 57 := by omega
      simp only [zZA.b10]
      simp [zZA.r7, k0, k1, k8, k9, k10, hl, vZm, cl, ix, d1, d2, hnx1, d2', evPick, -FinV]
      exact done _ (by simp [hl]) (by simp [k0]) (by simp [k1']) (by simp [k7]) (by simp [k8]) (by simp [k9]) (by simp [k10])
  have q45 : (((45 : UInt8).toNat : Nat) : Int) = 45 := rfl
  by_cases ca : a < s.length
  ·obtain ⟨b, hb⟩ : ∃ b, s[a]? = some b := ⟨_, List.getElem?_eq_getElem ca⟩
   have ca' : (a : Int) < (s.length : Int) := by omega
   have ix := idx_T (h := []) (k := .i64) (n := (a : Int)) (by omega) (show s[(a : Int).toNat]? = some b by rw [Int.toNat_natCast, hb])
   by_cases c45 : b = 45
   ·have q := eqB b 45 true (by simpa using c45)
    rw [q45] at q
    have hng : neg = true := by rw [hneg, hb, c45]; simp
    have hfa1 : f = a + 1 := by rw [hf, hng]; rfl
    have wa : IntKind.i64.wrap ((a : Int) + 1) = (f : Int) := by
     have e : (a : Int) + 1 = (f : Int) := by omega
     rw [e]; exact wrap64 (by omega) (by omega)
    simp [zZA.c, zZA.r0, zZA.r1, zZA.r2, zZA.r3, zZA.r4, g0, g1, he, vZm, ca, ca', ix, q, evPick, wa, -FinV]
    exact key1 _ (by simp [he]) (by simp [g0]) (by simp [he]) (by simp [he]) (by simp [he, hng])
   ·have q := eqB b 45 false (by simpa using c45)
    rw [q45] at q
    have hng : neg = false := by rw [hneg, hb]; simp [c45]
    have hfa1 : f = a := by rw [hf, hng]; rfl
    simp [zZA.c, zZA.r0, zZA.r1, zZA.r2, zZA.r3, g0, g1, he, vZm, ca, ca', ix, q, evPick, -FinV]
    exact key1 _ (by simp [he]) (by simp [g0]) (by simp [g1, hfa1]) (by simp [he]) (by simp [he, hng])
  ·have ca' : ¬ (a : Int) < (s.length : Int) := by omega
   have hng : neg = false := by rw [hneg, List.getElem?_eq_none (by omega)]; simp
   have hfa1 : f = a := by rw [hf, hng]; rfl
   simp [zZA.c, zZA.r0, zZA.r1, zZA.r2, zZA.r3, g0, g1, he, vZm, ca, ca', evPick, -FinV]
   exact key1 _ (by simp [he]) (by simp [g0]) (by simp [g1, hfa1]) (by simp [he]) (by simp [he, hng])
 obtain ⟨h', hb⟩ := this
 exact qZ7 (h := H) zZA.Φ rfl (args := [T s, .int .i64 a]) rfl hb rfl
end Go.Proofs.Sc
