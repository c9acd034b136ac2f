/- ReactStacks: the law's walk. No conditions. -/
import Derived.Test.YtoakkanklhfpmaaGreatDoorRcSd
set_option maxHeartbeats 16000000
set_option maxRecDepth 100000
set_option linter.unusedVariables false
set_option linter.unusedSimpArgs false
set_option linter.unusedSectionVars false
namespace Go.Proofs.Rc
open Go Go.Ev
def KC (H H' : Heap) : Prop := H'.length = H.length ∧ ∀ (j : Nat) (cs : List V), H[j]? = some (.cells cs) → H'[j]? = some (.cells cs)
theorem KC.refl (H : Heap) : KC H H := ⟨rfl, fun _ _ h => h⟩
theorem KC.trans {A B C : Heap} (h1 : KC A B) (h2 : KC B C) : KC A C := ⟨h2.1.trans h1.1, fun j cs h => h2.2 j cs (h1.2 j cs h)⟩
theorem KC.map {α β : Type} {f : Heap → α → Option (β × Heap)} (hf : ∀ x H t H1, f H x = some (t, H1) → KC H H1) : ∀ (l : List α) (H : Heap) (t : List β) (H1 : Heap), mapH f H l = some (t, H1) → KC H H1
 | [], H, t, H1, h => by
  simp only [mapH, Option.some.injEq, Prod.mk.injEq] at h
  obtain ⟨_, rfl⟩ := h
  exact KC.refl _
 | x :: r, H, t, H1, h => by
  cases hy : f H x with
  | none => simp only [mapH, hy] at h; cases h
  | some q =>
   obtain ⟨y, Hy⟩ := q
   cases hr : mapH f Hy r with
   | none => simp only [mapH, hy, hr] at h; cases h
   | some q =>
    obtain ⟨ys, Hr⟩ := q
    simp only [mapH, hy, hr, Option.some.injEq, Prod.mk.injEq] at h
    obtain ⟨_, rfl⟩ := h
    exact (hf x H y Hy hy).trans (KC.map hf r Hy ys Hr hr)
theorem fz_kc : ∀ (d : Nat) (x : V) (H : Heap) (t : V) (H1 : Heap), Go.Ev.fz d H x = some (t, H1) → KC H H1
 | 0, x, H, t, H1, h => by cases h
 | d + 1, x, H, t, H1, h => by
  have ih := fz_kc d
  have im := KC.map ih
  have same : ∀ (v : V), (∀ h, Go.Ev.fz (d + 1) h x = some (v, h)) → KC H H1 := fun v hv => by
   rw [hv] at h
   simp only [Option.some.injEq, Prod.mk.injEq] at h
   obtain ⟨_, rfl⟩ := h
   exact KC.refl _
  have key : ∀ (cs : List V) (k : List V → V), (mapH (Go.Ev.fz d) H cs).map (fun p => (k p.1, p.2)) = some (t, H1) → KC H H1 := fun cs k hk => by
   simp only [Option.map_eq_some_iff, Prod.mk.injEq] at hk
   obtain ⟨⟨ts, Ht⟩, h1, h2, rfl⟩ := hk
   exact im cs H ts Ht h1
  cases x
  case undef => cases h
  case ptr => cases h
  case eptr => cases h
  case map => cases h
  case agg cs => exact key cs .agg h
  case tup cs => exact key cs .tup h
  case ifc ty y =>
   simp only [Go.Ev.fz, Option.map_eq_some_iff, Prod.mk.injEq] at h
   obtain ⟨⟨ts, Ht⟩, h1, h2, rfl⟩ := h
   exact ih y H ts Ht h1
  case fn f first caps =>
   simp only [Go.Ev.fz] at h
   split at h
   ·cases h
   cases h1 : mapH (Go.Ev.fz d) H first with
   | none => rw [h1] at h; cases h
   | some q =>
    obtain ⟨f1, Hf⟩ := q
    rw [h1] at h
    simp only [Option.map_eq_some_iff, Prod.mk.injEq] at h
    obtain ⟨⟨ts, Ht⟩, h2, h3, rfl⟩ := h
    exact (im first H f1 Hf h1).trans (im caps Hf ts Ht h2)
  case sl id ep off len =>
   simp only [Go.Ev.fz] at h
   split at h
   ·rename_i z xs cur w hr
    split at h
    ·simp only [Option.map_eq_some_iff, Prod.mk.injEq] at h
     obtain ⟨⟨ts, Ht⟩, h1, h2, rfl⟩ := h
     have k := KC.map (KC.map ih) _ _ _ _ h1
     refine KC.trans ⟨by simp, fun j cs hj => ?_⟩ k
     by_cases e : id = j
     ·subst e; rw [hr] at hj; cases hj
     ·rw [List.getElem?_set_ne e]; exact hj
    ·cases h
   ·cases h
  all_goals exact same _ (fun _ => rfl)
theorem SF.push {A B : Heap} (h : SF A B) (E : Heap) : SF A (B ++ E) := fun id z xs ep w hj => by
 obtain ⟨w', h2⟩ := h id z xs ep w hj
 exact ⟨w', by rw [List.getElem?_append_left (List.getElem?_eq_some_iff.1 h2).1]; exact h2⟩
theorem push_form {s : Rs} (z : SzS s) : ∃ (P : Rs) (w : Int), pushR s = .tup [.agg (cS P), .int .i64 w] ∧ SzS P := by
 have z0 : SzS {} := ⟨by simp, by simp, by simp [SzL], (by intro q h; cases h), (by intro l h; cases h)⟩
 unfold pushR
 by_cases h1 : rightB s = false
 ·exact ⟨{}, 15, by rw [if_pos h1], z0⟩
 ·rw [if_neg h1]
  by_cases h2 : 1024 ≤ s.st.length
  ·exact ⟨{}, 3, by rw [if_pos h2], z0⟩
  ·refine ⟨⟨s.qs, s.st ++ [[]], s.bk, s.busy⟩, 0, by rw [if_neg h2], z.1, ?_, z.2.2.1, z.2.2.2.1, fun l hl => ?_⟩
   ·simp only [List.length_append, List.length_cons, List.length_nil]; omega
   ·rcases List.mem_append.1 hl with hl | hl
    ·exact z.2.2.2.2 l hl
    ·rw [List.mem_singleton.1 hl]; simp [SzL]
theorem pop_form {s : Rs} (z : SzS s) : ∃ (P : Rs) (l : List Int) (w : Int), popR s = .tup [.agg (cS P), .arr (l.map cI), .int .i64 w] ∧ SzS P ∧ SzL l := by
 have z0 : SzS {} := ⟨by simp, by simp, by simp [SzL], (by intro q h; cases h), (by intro l h; cases h)⟩
 unfold popR
 by_cases h1 : rightB s = false
 ·exact ⟨{}, [], 15, by rw [if_pos h1]; rfl, z0, by simp [SzL]⟩
 ·rw [if_neg h1]
  by_cases h2 : s.st = []
  ·exact ⟨{}, [], 11, by rw [if_pos h2]; rfl, z0, by simp [SzL]⟩
  ·obtain ⟨D, x, hD⟩ : ∃ D x, s.st = D ++ [x] := ⟨s.st.dropLast, s.st.getLast h2, (List.dropLast_concat_getLast h2).symm⟩
   have hg : s.st.getLastD [] = x := by rw [hD]; simp
   have hd : s.st.dropLast = D := by rw [hD]; simp
   have h24 := z.2.1
   rw [hD, List.length_append] at h24
   refine ⟨⟨s.qs, D, s.bk, s.busy⟩, x, 0, by rw [if_neg h2, hg, hd], ⟨z.1, ?_, z.2.2.1, z.2.2.2.1, fun l hl => ?_⟩, ?_⟩
   ·show D.length * 24 ≤ _
    omega
   ·exact z.2.2.2.2 l (by rw [hD]; exact List.mem_append_left _ hl)
   ·exact z.2.2.2.2 x (by rw [hD]; simp)
theorem xZZ (s : Rs) (z : SzS s) (H : Heap) : callW Φ zZU [.agg (cS s)] H = some (.bool true, H) := by
 have : ∃ hh, evBodyW (callW Φ) zZU.c [.agg (cS s)] [] = some (.bool true, hh) := by
  refine jZ0 (Nat.le_of_ble_eq_true rfl) (fun env he h0 => ?_)
  have g0 := h0 0 (by simp)
  change eget env 0 = .agg (cS s) at g0
  clear h0
  simp [zZU.c] at he
  have b0 : evBox [] (cS s) = some (.ptr 0 0, [.cells (cS s)]) := wZs [] _ rfl
  have hcc : (V.agg (cS s)).cells = cS s := rfl
  have ok4 : ∀ (s : Rs) (H : Heap), okCells H (some 4) (some (cS s)) = some (.agg (cS s), H) := fun _ _ => rfl
  have c0 : cellsAt [.cells (cS s)] (.ptr 0 0) = some (cS s) := rfl
  obtain ⟨r1, H1, ho, v0, v1, v2, o0, o1, o2, os0, os1, rfl, hk1, hl1, hw⟩ := xZU s z [.cells (cS s)]
  simp only [List.length_cons, List.length_nil, Nat.zero_add] at hk1 hl1 hw
  have hcell : ([v0, v1, v2, .bool s.busy] : List V).all V.isCell = true := by simp only [List.all_cons, List.all_nil, hw.q.cell.1, hw.t.cell.1, hw.b.cell.1]; rfl
  obtain ⟨p, hp⟩ : ∃ p, p = H1.length := ⟨_, rfl⟩
  obtain ⟨H2, hH2⟩ : ∃ H2, H2 = H1 ++ [Ob.cells [v0, v1, v2, .bool s.busy]] := ⟨_, rfl⟩
  have st3 : evStoreV (H1 ++ [.cells z4]) 4 (.ptr H1.length 0) (.agg [v0, v1, v2, .bool s.busy]) = some (V.non, H2) := by rw [hH2]; exact wZO rfl rfl hcell
  have k2 : ∀ j, j < H1.length → H2[j]? = H1[j]? := fun j hj => by rw [hH2, List.getElem?_append_left hj]
  have p2 : H2[p]? = some (.cells [v0, v1, v2, .bool s.busy]) := by rw [hH2, hp]; exact xZ4 _ _
  have q2 : H2[0]? = some (.cells (cS s)) := by rw [k2 0 (by omega), hk1 0 (by omega)]; rfl
  have hw2 := hw.mono2 (H' := H2) fun id h => k2 id (hw.lt h)
  have hl2 : H2.length = p + 1 := by rw [hH2, hp]; simp
  obtain ⟨H3, f3, _, _⟩ := hw2.fz (d := 60) (b := s.busy)
  obtain ⟨hsf3, again⟩ := fz_again f3
  have okg : ∀ S : Heap, okCells S (some 4) (some [v0, v1, v2, .bool s.busy]) = some (.agg [v0, v1, v2, .bool s.busy], S) := fun _ => rfl
  obtain ⟨P, w1, hP, zP⟩ := push_form z
  obtain ⟨Q, l, w2, hQ, zQ, zl⟩ := pop_form z
  have tz : mapH (Go.Ev.fz fzDepth) [] [.agg (cS s)] = some ([.agg (cS s)], []) := rfl
  have tz2 : mapH (Go.Ev.fz fzDepth) [] [.agg (cS s), .agg (cS s)] = some ([.agg (cS s), .agg (cS s)], []) := rfl
  have g1 : callW Φ qZT [.agg [v0, v1, v2, .bool s.busy]] H2 = some (pushR s, H3) :=
   xZ3 qZT.Φ rfl (by simp only [mapH]; rw [show Go.Ev.fz fzDepth H2 (.agg [v0, v1, v2, .bool s.busy]) = some (.agg (cS s), H3) from f3]) tz (zYac s z [])
  have kc3 := fz_kc _ _ _ _ _ f3
  have q3 : H3[0]? = some (.cells (cS s)) := kc3.2 _ _ q2
  have p3 : H3[p]? = some (.cells [v0, v1, v2, .bool s.busy]) := kc3.2 _ _ p2
  have l3 : H3.length = p + 1 := by rw [kc3.1, hl2]
  obtain ⟨H5, hH5⟩ : ∃ H5, H5 = H3 ++ [Ob.cells (cS P), Ob.cells (cS P)] := ⟨_, rfl⟩
  obtain ⟨H4, hH4⟩ : ∃ H4, H4 = H3 ++ [Ob.cells (cS P)] := ⟨_, rfl⟩
  have st4 : evStoreV (H3 ++ [.cells z4]) 4 (.ptr H3.length 0) (.agg (cS P)) = some (V.non, H4) := by rw [hH4]; exact wZO rfl rfl rfl
  have l4 : H4.length = p + 2 := by rw [hH4]; simp [l3]
  have q4 : cellsAt H4 (.ptr 0 0) = some (cS s) := qZo (by rw [hH4, List.getElem?_append_left (by omega)]; exact q3) 0
  have g2 := zYae s z H4
  have st6 : evStoreV (H4 ++ [.cells z4]) 4 (.ptr H4.length 0) (.agg (cS P)) = some (V.non, H5) := by
   have : H5 = H4 ++ [Ob.cells (cS P)] := by rw [hH5, hH4]; simp
   rw [this]; exact wZO rfl rfl rfl
  have l5 : H5.length = p + 3 := by rw [hH5]; simp [l3]
  have lo5 : ∀ j, j ≤ p → H5[j]? = H3[j]? := fun j hj => by rw [hH5, List.getElem?_append_left (by omega)]
  have c5 : cellsAt H5 (.ptr p 0) = some [v0, v1, v2, .bool s.busy] := qZo (by rw [lo5 _ (Nat.le_refl _)]; exact p3) 0
  obtain ⟨H6, f6, _⟩ := again H5 (by rw [hH5]; exact hsf3.push _)
  have g3 : callW Φ zZY [.agg [v0, v1, v2, .bool s.busy]] H5 = some (popR s, H6) :=
   xZ3 zZY.Φ rfl (by simp only [mapH]; rw [show Go.Ev.fz fzDepth H5 (.agg [v0, v1, v2, .bool s.busy]) = some (.agg (cS s), H6) from f6]) tz (xZr s z [])
  have kc6 := fz_kc _ _ _ _ _ f6
  have sf6 := (fz_again f6).1
  have l6 : H6.length = p + 3 := by rw [kc6.1, l5]
  obtain ⟨H7, hH7⟩ : ∃ H7, H7 = H6 ++ [Ob.cells (cS Q)] := ⟨_, rfl⟩
  obtain ⟨H8, hH8⟩ : ∃ H8, H8 = H6 ++ [Ob.cells (cS Q), Ob.cells (cS Q)] := ⟨_, rfl⟩
  have st8 : evStoreV (H6 ++ [.cells z4]) 4 (.ptr H6.length 0) (.agg (cS Q)) = some (V.non, H7) := by rw [hH7]; exact wZO rfl rfl rfl
  have l7 : H7.length = p + 4 := by rw [hH7]; simp [l6]
  have q6 : H6[0]? = some (.cells (cS s)) := kc6.2 _ _ (by rw [lo5 _ (by omega)]; exact q3)
  have p6 : H6[p]? = some (.cells [v0, v1, v2, .bool s.busy]) := kc6.2 _ _ (by rw [lo5 _ (Nat.le_refl _)]; exact p3)
  have x6 : H6[p + 1]? = some (.cells (cS P)) := kc6.2 _ _ (by rw [hH5, List.getElem?_append_right (by omega), l3, Nat.sub_self]; rfl)
  have y6 : H6[p + 2]? = some (.cells (cS P)) := kc6.2 _ _ (by rw [hH5, List.getElem?_append_right (by omega), l3, show p + 2 - (p + 1) = 1 by omega]; rfl)
  have q7 : cellsAt H7 (.ptr 0 0) = some (cS s) := qZo (by rw [hH7, List.getElem?_append_left (by omega)]; exact q6) 0
  have g4 := zYag s z H7
  have st11 : evStoreV (H7 ++ [.cells z4]) 4 (.ptr H7.length 0) (.agg (cS Q)) = some (V.non, H8) := by
   have : H8 = H7 ++ [Ob.cells (cS Q)] := by rw [hH8, hH7]; simp
   rw [this]; exact wZO rfl rfl rfl
  have lo8 : ∀ j, j < p + 3 → H8[j]? = H6[j]? := fun j hj => by rw [hH8, List.getElem?_append_left (by omega)]
  have d1 : cellsAt H8 (.ptr 0 0) = some (cS s) := qZo (by rw [lo8 _ (by omega)]; exact q6) 0
  have d3 : cellsAt H8 (.ptr p 0) = some [v0, v1, v2, .bool s.busy] := qZo (by rw [lo8 _ (by omega)]; exact p6) 0
  have d4 : cellsAt H8 (.ptr (p + 1) 0) = some (cS P) := qZo (by rw [lo8 _ (by omega)]; exact x6) 0
  have d6 : cellsAt H8 (.ptr (p + 2) 0) = some (cS P) := qZo (by rw [lo8 _ (by omega)]; exact y6) 0
  have d8 : cellsAt H8 (.ptr (p + 3) 0) = some (cS Q) := qZo (by rw [hH8, List.getElem?_append_right (by omega), l6, Nat.sub_self]; rfl) 0
  have d11 : cellsAt H8 (.ptr (p + 4) 0) = some (cS Q) := qZo (by rw [hH8, List.getElem?_append_right (by omega), l6, show p + 4 - (p + 3) = 1 by omega]; rfl) 0
  obtain ⟨H9, f9, _⟩ := again H8 (by rw [hH8]; exact ((hsf3.push [Ob.cells (cS P), Ob.cells (cS P)]).trans (by rw [← hH5]; exact sf6)).push _)
  have g5 : callW Φ zZO [.agg [v0, v1, v2, .bool s.busy], .agg (cS s)] H8 = some (.bool true, H9) :=
   xZ3 zZO.Φ rfl (by
    have e : Go.Ev.fz fzDepth H9 (.agg (cS s)) = some (.agg (cS s), H9) := rfl
    simp only [mapH]; rw [show Go.Ev.fz fzDepth H8 (.agg [v0, v1, v2, .bool s.busy]) = some (.agg (cS s), H9) from f9]; simp only [e]) tz2 (xZV s z [])
  have m1 := xZV P zP H8
  have m2 := xZV Q zQ H8
  have m3 := zYab l zl H8
  have m4 := wZi s z H8
  have m5 := xZT s z H8
  have m6 := kZS H9
  have m7 : evEqc H8 false (.leaf .b) (.bool ((if rightB s then (0 : Int) else 15) == 0)) (.bool (rightB s)) = some (.bool true, H8) := by cases rightB s <;> rfl
  rw [hP] at g1 g2
  rw [hQ] at g3 g4
  rw [← hp] at st3
  rw [l3] at st4
  rw [l4] at st6
  rw [l6] at st8
  rw [l7] at st11
  simp [zZU.c, zZU.r0, zZU.r1, zZU.r2, zZU.r3, zZU.r4, zZU.r5, g0, he, hcc, b0, c0, ok4, ho, ← hp, st3, qZo p2 0, okg, g1, evExt, l3, st4, q4, g2, l4, st6, c5, g3, l6, st8, q7, g4, l7, st11]
  refine kEnv fun env2 hE => ?_
  have j1 : eget env2 1 = .ptr 0 0 := by rw [hE]; simp [he]
  have j3 : eget env2 3 = .ptr p 0 := by rw [hE]; simp [he]
  have j4 : eget env2 4 = .ptr (p + 1) 0 := by rw [hE]; simp [he]
  have j5 : eget env2 5 = .int .i64 w1 := by rw [hE]; simp [he]
  have j6 : eget env2 6 = .ptr (p + 2) 0 := by rw [hE]; simp [he]
  have j7 : eget env2 7 = .int .i64 w1 := by rw [hE]; simp [he]
  have j8 : eget env2 8 = .ptr (p + 3) 0 := by rw [hE]; simp [he]
  have j9 : eget env2 9 = .arr (l.map cI) := by rw [hE]; simp [he]
  have j10 : eget env2 10 = .int .i64 w2 := by rw [hE]; simp [he]
  have j11 : eget env2 11 = .ptr (p + 4) 0 := by rw [hE]; simp [he]
  have j12 : eget env2 12 = .arr (l.map cI) := by rw [hE]; simp [he]
  have j13 : eget env2 13 = .int .i64 w2 := by rw [hE]; simp [he]
  have jl : env2.length = 77 := by rw [hE]; simp [he]
  clear hE
  obtain ⟨ck, hck⟩ : ∃ ck : Int, ck = if rightB s then 0 else 15 := ⟨_, rfl⟩
  rw [← hck] at m4 m7
  refine kDrawW zZU.r6.ord ?_
  simp (config := { maxSteps := 5000000 }) [zZU.r6, List.filterMap_cons, j1, j3, j4, j5, j6, j7, j8, j9, j10, j11, j12, j13, jl, d1, d3, d4, d6, d8, d11, ok4, okg, m1, m2, m3, m4, m5, m6, m7, g5, evPick]
  simp only [xZY, jZ9, List.cons_append, List.nil_append]
  exact xZX _ rfl rfl rfl rfl
 obtain ⟨h', hb⟩ := this
 exact wZe (h := H) zZU.Φ rfl (args := [.agg (cS s)]) rfl hb rfl
end Go.Proofs.Rc
