/- Settling options: it answers. No conditions. -/
import Derived.Test.YtphigbmaimineabGreatObF
set_option maxHeartbeats 16000000
set_option maxRecDepth 100000
set_option linter.unusedVariables false
set_option linter.unusedSimpArgs false
set_option linter.unusedSectionVars false
namespace Go.Proofs.Ob
open Go Go.Ev
theorem callW_fzA {f : FuncId} {cf : Cf} (hf : Φ f = some cf) (hp : cf.pure = true) {args : List V} {Q : V → Prop} (ha : args.all flatN2 = true)
  (hb : ∃ r h2, evBodyW (callW Φ) cf (args.map nz2) [] = some (r, h2) ∧ ∃ r2 h3, fz fzDepth h2 r = some (r2, h3) ∧ Q r2) : ∃ r, (∀ h : Heap, callW Φ (.fn (.func f) [] []) args h = some (r, h)) ∧ Q r := by
 obtain ⟨r, h2, hb, r2, h3, hz, hq⟩ := hb
 exact ⟨r2, fun h => jZ7 hf hp ha ⟨r, h2, hb, h3, hz⟩, hq⟩
abbrev zO : List V := [.bool false, .bool false, .int .u8 0, .int .u8 0, .int .u8 0, .int .u8 0, .nils, .bool false]
theorem vZO {H : Heap} {id n : Nat} {A B : List V} (h : H[id]? = some (.cells B)) (ha : A.length = n) (hb : B.length = n) (hc : A.all V.isCell = true) : evStoreV H n (.ptr id 0) (.agg A) = some (V.non, H.set id (.cells A)) := by
 have hsr : setRange B 0 A = some A := by
  unfold setRange
  rw [if_pos (by omega), Nat.zero_add, List.drop_eq_nil_of_le (by omega)]
  simp
 simp only [evStoreV, V.cells, ha, hc, and_self, if_true, evStore, h, hsr, qZ6]
theorem jZg (o : Opt) (z : SzO o) : ∃ r, (∀ H : Heap, callW Φ zZf [.agg (cO o)] H = some (r, H)) ∧ (fun r => ∃ s e, r = .tup [.agg (cO s), .int .i64 e] ∧ SzO s) r := by
 refine callW_fzA zZf.Φ rfl (args := [.agg (cO o)]) rfl ?_
 obtain ⟨P, hP⟩ : ∃ P : V → Heap → Prop, P = fun r h2 => ∃ r2 h3, fz fzDepth h2 r = some (r2, h3) ∧ (fun r => ∃ s e, r = .tup [.agg (cO s), .int .i64 e] ∧ SzO s) r2 := ⟨_, rfl⟩
 suffices hgo : ∃ r h', evBodyW (callW Φ) zZf.c [.agg (cO o)] [] = some (r, h') ∧ P r h' by rw [hP] at hgo; exact hgo
 have hPz : ∀ r r2 h2 h3, fz fzDepth h2 r = some (r2, h3) → (fun r => ∃ s e, r = .tup [.agg (cO s), .int .i64 e] ∧ SzO s) r2 → P r h2 := fun r r2 h2 h3 hz hq => by rw [hP]; exact ⟨r2, h3, hz, hq⟩
 clear hP
 refine kZU (Nat.le_of_ble_eq_true rfl) (fun env he h0 => ?_)
 have g0 := h0 0 (by simp)
 change eget env 0 = .agg (cO o) at g0
 clear h0
 simp [zZf.c] at he
 have b0 : evBox [] (cO o) = some (.ptr 0 0, [.cells (cO o)]) := wZc [] _ (by simp [V.isCell])
 have hcc : ∀ c, (V.agg (cO c)).cells = cO c := fun c => rfl
 have bd : ∀ H, evBuild H zO [] = some (.agg zO, H) := fun _ => rfl
 have hend : ∀ (A : List V) (e : Int) (H : Heap) (s : Opt) (H' : Heap), fz 63 H (.agg A) = some (.agg (cO s), H') → SzO s → P (.tup [.agg A, .int .i64 e]) H := fun A e H s H' hf hs => hPz _ (.tup [.agg (cO s), .int .i64 e]) _ H' (by
  show (mapH (fz 63) H [.agg A, .int .i64 e]).map (fun p => (V.tup p.1, p.2)) = _
  have e1 : ∀ (H : Heap) (n : Int), fz 63 H (.int .i64 n) = some (.int .i64 n, H) := fun _ _ => rfl
  simp only [mapH, hf, e1, Option.map_some]) ⟨s, e, rfl, hs⟩
 have hz0 : ∀ (e : Int) (H : Heap), P (.tup [.agg zO, .int .i64 e]) H := fun e H => hend zO e H {} _ rfl (by unfold SzO; simp)
 have z1 := z
 unfold SzO at z1
 have cc1 : cellsAt [.cells (cO o), .cells zO] (.ptr 0 6) = some ((cO o).drop 6) := rfl
 have st0 : evStoreV [.cells (cO o), .cells zO] 8 (.ptr 1 0) (.agg zO) = some (V.non, [.cells (cO o), .cells zO]) := vZO (H := [.cells (cO o), .cells zO]) (id := 1) rfl rfl rfl rfl
 by_cases c1 : (4096 : Int) < o.filt.length
 ·have cz : cellsAt [.cells (cO o), .cells zO] (.ptr 1 0) = some zO := rfl
  have := hz0 3 [.cells (cO o), .cells zO]
  simp [zZf.c, zZf.r0, zZf.r1, zZf.r2, g0, he, hcc, b0, cc1, qZO, c1, bd, st0, cz, ofCells, this]
 obtain ⟨R, hR⟩ : ∃ R : Ob, R = .row 1 [[.int .u8 o.at_], [.int .u8 o.da], [.int .u8 o.oa], [.int .u8 o.od]] 0 true := ⟨_, rfl⟩
 have bd3 : ∀ X : Ob, evBuild [X, .cells zO, R] zO [] = some (.agg zO, [X, .cells zO, R]) := fun _ => rfl
 have st3 : ∀ X : Ob, evStoreV [X, .cells zO, R] 8 (.ptr 1 0) (.agg zO) = some (V.non, [X, .cells zO, R]) := fun X => vZO (H := [X, .cells zO, R]) (id := 1) rfl rfl rfl rfl
 have czz : ∀ X : Ob, cellsAt [X, .cells zO, R] (.ptr 1 0) = some zO := fun _ => rfl
 have cc3 : ∀ (o : Opt) off, cellsAt [.cells (cO o), .cells zO, R] (.ptr 0 off) = some ((cO o).drop off) := fun _ _ => rfl
 have rest17 : ∀ (o : Opt), SzO o → ∀ env : List V, env.length = 102 → eget env 1 = .ptr 0 0 → eget env 2 = .ptr 1 0 → WK (callW Φ) none (FinX [Rv.cell 2 (some 8), Rv.tmp 3] P) [It.o zZf.r17, It.c (.seq (xS zZf.r18 (.cond (.t 99) (.region zZf.r19) .skip)) (xS zZf.r20 .ret))] { env := env, marks := [], heap := [.cells (cO o), .cells zO, R] } := by
  intro o z env hl k1 k2
  unfold SzO at z
  obtain ⟨v, ov, H1, ha, hv, hge, hk, ho⟩ := (VL.nil [.cells (cO o), .cells zO, R] 1).app (by_ := 16) (es := o.filt.map cT) (plainR.map (enc := cT) (fun _ => rfl) (fun _ => rfl) (fun _ => rfl) o.filt) (q := .arr (o.filt.map cT)) rfl (by simp [roomB]; omega)
  simp only [List.nil_append] at hv
  have h0 : H1[0]? = some (.cells (cO o)) := hk 0 (by simp) (by simp)
  have h1 : H1[1]? = some (.cells zO) := hk 1 (by simp) (by simp)
  have hv3 : ∀ id, ov = some id → 3 ≤ id := fun id hid => by
   rcases ho id hid with h | h
   ·cases h
   ·simpa using h
  have s6 : evStoreV H1 1 (.ptr 0 6) v = some (V.non, H1.set 0 (.cells (cOv o v))) := vZw h0 (by simp) hv.cell
  obtain ⟨H2, hH2⟩ : ∃ H2, H2 = H1.set 0 (.cells (cOv o v)) := ⟨_, rfl⟩
  rw [← hH2] at s6
  have g0 : H2[0]? = some (.cells (cOv o v)) := by rw [hH2]; exact vZ2 h0 _
  have g1 : H2[1]? = some (.cells zO) := by rw [hH2, List.getElem?_set_ne (by omega)]; exact h1
  have hv2 : VL H2 1 v ov (o.filt.map cT) := hv.mono fun id hid => by rw [hH2, List.getElem?_set_ne (by have := hv3 id hid; omega)]
  have fin : ∀ (w : V) (ow : Option Nat) (ws : List Bs) (H3 : Heap), H3[0]? = some (.cells (cOv o w)) → H3[1]? = some (.cells zO) → VL H3 1 w ow (ws.map cT) → (∀ id, ow = some id → 3 ≤ id) → ws.length ≤ 2 ^ 43 → ∃ H4, evStoreV H3 8 (.ptr 1 0) (.agg (cOv o w)) = some (V.non, H4) ∧ cellsAt H3 (.ptr 0 0) = some (cOv o w) ∧ cellsAt H4 (.ptr 1 0) = some (cOv o w) ∧ P (.tup [.agg (cOv o w), .int .i64 0]) H4 := by
   intro w ow ws H3 h0 h1 hw hg hz
   have hc : (cOv o w).all V.isCell = true := by simp only [List.all_cons, List.all_nil, hw.cell.1]; rfl
   refine ⟨_, vZO h1 rfl rfl hc, qZ4 h0 0, qZ4 (vZ2 h1 _) 0, ?_⟩
   obtain ⟨H5, f5, _, _⟩ := (hw.mono (h' := H3.set 1 (.cells (cOv o w))) fun id hid => by rw [List.getElem?_set_ne (by have := hg id hid; omega)]).fz (d := 60)
   refine hend _ _ _ { o with filt := ws } H5 ?_ hz
   have e : ∀ (H : Heap) (x : V), scal x = true → Go.Ev.fz 62 H x = some (x, H) := fun H x hx => by
    cases x <;> simp [scal] at hx <;> rfl
   show (mapH (Go.Ev.fz 62) (H3.set 1 (.cells (cOv o w))) (cOv o w)).map (fun p => (V.agg p.1, p.2)) = _
   simp only [mapH, e _ (.bool o.kids) rfl, e _ (.bool o.sub) rfl, e _ (.int .u8 o.at_) rfl, e _ (.int .u8 o.da) rfl, e _ (.int .u8 o.oa) rfl, e _ (.int .u8 o.od) rfl, f5, e _ (.bool o.fs) rfl, Option.map_some]
  have c6 : cellsAt [.cells (cO o), .cells zO, R] (.ptr 0 6) = some ((cO o).drop 6) := rfl
  have c7 : cellsAt H2 (.ptr 0 7) = some ((cOv o v).drop 7) := qZ4 g0 7
  cases hfs : o.fs
  ·have s7 : evStoreV H2 1 (.ptr 0 6) .nils = some (V.non, H2.set 0 (.cells (cOv o .nils))) := vZw g0 (by simp) ⟨rfl, rfl⟩
   obtain ⟨H3, hH3⟩ : ∃ H3, H3 = H2.set 0 (.cells (cOv o .nils)) := ⟨_, rfl⟩
   rw [← hH3] at s7
   obtain ⟨H4, e1, e2, e3, e4⟩ := fin .nils none [] H3 (by rw [hH3]; exact vZ2 g0 _) (by rw [hH3, List.getElem?_set_ne (by omega)]; exact g1) (VL.nil _ _) (fun id h => by cases h) (by simp)
   simp only [cOv, hfs] at e1 e2 e3 e4
   simp [zZf.r17, zZf.r18, zZf.r19, zZf.r20, k1, k2, hl, c6, ha, s6, c7, hfs, s7, e1, e2, e3, ofCells, e4]
  ·obtain ⟨H4, e1, e2, e3, e4⟩ := fin v ov o.filt H2 g0 g1 hv2 hv3 z
   simp [zZf.r17, zZf.r18, zZf.r19, zZf.r20, k1, k2, hl, c6, ha, s6, c7, hfs]
   simp only [cOv, hfs] at e1 e2 e3 e4
   simp [e1, e2, e3, ofCells, e4]
 have rest14 : ∀ (o : Opt), SzO o → ∀ env : List V, env.length = 102 → eget env 1 = .ptr 0 0 → eget env 2 = .ptr 1 0 → WK (callW Φ) none (FinX [Rv.cell 2 (some 8), Rv.tmp 3] P) [It.c (.draw zZf.r14 [[], [0], [1], [], [3], [4], [2, 0, 1, 2], [5, 6, 0, 1, 2, 3, 4, 5, 6]] [0, 2, 3, 5, 6, 7]), It.c (.seq (xS zZf.r15 (.cond (.t 91) (xS zZf.r16 .ret) .skip)) (xS zZf.r17 (.seq (xS zZf.r18 (.cond (.t 99) (.region zZf.r19) .skip)) (xS zZf.r20 .ret))))] { env := env, marks := [], heap := [.cells (cO o), .cells zO, R] } := by
  intro o z env hl k1 k2
  have hz := hz0 23 [.cells (cO o), .cells zO, R]
  refine kDraw1 zZf.r14.ord ?_
  simp [zZf.r14, k1, k2, hl, cc3]
  cases hk : o.kids <;> cases hA : ((o.at_ : Int) == 1) <;> cases hB : ((o.da : Int) == 1) <;> cases hC : ((o.oa : Int) == 1) <;> cases hF : o.fs <;> cases hD : ((o.od : Int) == 1)
  all_goals
   simp [zZf.r15, zZf.r16, k1, k2, hl, cc3, hA, hB, hk, hC, hF, hD, evPick, bd3, st3, czz, ofCells, hz]
   try exact rest17 o z _ (by simp [hl]) (by simp [hl, k1]) (by simp [hl, k2])
 have rest12 : ∀ (o : Opt), SzO o → ∀ env : List V, env.length = 102 → eget env 1 = .ptr 0 0 → eget env 2 = .ptr 1 0 → WK (callW Φ) none (FinX [Rv.cell 2 (some 8), Rv.tmp 3] P) [It.o zZf.r12, It.c (.cond (.t 51) (.region zZf.r13) .skip), It.c (.seq (.draw zZf.r14 [[], [0], [1], [], [3], [4], [2, 0, 1, 2], [5, 6, 0, 1, 2, 3, 4, 5, 6]] [0, 2, 3, 5, 6, 7]) (.seq (xS zZf.r15 (.cond (.t 91) (xS zZf.r16 .ret) .skip)) (xS zZf.r17 (.seq (xS zZf.r18 (.cond (.t 99) (.region zZf.r19) .skip)) (xS zZf.r20 .ret)))))] { env := env, marks := [], heap := [.cells (cO o), .cells zO, R] } := by
  intro o z env hl k1 k2
  have s1 : evStoreV [.cells (cO o), .cells zO, R] 1 (.ptr 0 3) (.int .u8 1) = some (V.non, [.cells (cO { o with da := 1 }), .cells zO, R]) := vZw (H := [.cells (cO o), .cells zO, R]) (id := 0) rfl (by simp) ⟨rfl, rfl⟩
  cases hA : ((o.da : Int) == 0)
  ·simp [zZf.r12, k1, k2, hl, cc3, hA, evPick]
   exact rest14 o z _ (by simp [hl]) (by simp [hl, k1]) (by simp [hl, k2])
  ·cases hB : ((o.od : Int) != 0)
   ·simp [zZf.r12, k1, k2, hl, cc3, hA, hB, evPick]
    exact rest14 o z _ (by simp [hl]) (by simp [hl, k1]) (by simp [hl, k2])
   ·simp [zZf.r12, zZf.r13, k1, k2, hl, cc3, hA, hB, evPick, s1]
    exact rest14 { o with da := 1 } z _ (by simp [hl]) (by simp [hl, k1]) (by simp [hl, k2])
 have bs : evBslice [.cells (cO o), .cells zO] [.int .u8 0] 4 1 [(0, .int .u8 o.at_), (1, .int .u8 o.da), (2, .int .u8 o.oa), (3, .int .u8 o.od)] = some (.sl 2 0 0 4, [.cells (cO o), .cells zO, R]) := by
  rw [hR]; simp [evBslice, placeParts, V.cells, V.isCell, setRange, chunks, vZn]
 have ll : ∀ H, evLen H .l (.sl 2 0 0 4) = some (.int .i64 4, H) := fun _ => rfl
 have cc2 : ∀ off, cellsAt [.cells (cO o), .cells zO] (.ptr 0 off) = some ((cO o).drop off) := fun _ => rfl
 simp [zZf.c, zZf.r0, zZf.r1, zZf.r3, g0, he, hcc, b0, cc2, qZO, c1, bs, ll]
 refine kLoop (fun m s => ∃ i : Nat, m = 4 - i ∧ i ≤ 4 ∧ eget s.env 1 = .ptr 0 0 ∧ eget s.env 2 = .ptr 1 0 ∧ eget s.env 3 = .int .i64 0 ∧ eget s.env 21 = .sl 2 0 0 4 ∧ eget s.env 22 = .int .i64 4 ∧ eget s.env 23 = .int .i64 i ∧ s.env.length = 102 ∧ s.marks = [] ∧ s.heap = [.cells (cO o), .cells zO, R]) 4
  ⟨0, rfl, by omega, by simp [he], by simp [he], by simp [he], by simp [he], by simp [he], by simp [he], by simpa using he, rfl, rfl⟩ ?_
 rintro m ⟨env, mk, Hh⟩ ⟨i, rfl, hi, k1, k2, k3, k21, k22, k23, hl, hm, hH⟩
 simp only at k1 k2 k3 k21 k22 k23 hl hm hH
 obtain rfl := hm
 obtain rfl := hH
 by_cases c : i < 4
 ·have c1 : (i : Int) < 4 := by omega
  obtain ⟨u, hu, hu2⟩ : ∃ u : Nat, iaddrV [.cells (cO o), .cells zO, R] 1 (.sl 2 0 0 4) (.int .i64 i) = some (.eptr 2 0 i 0) ∧ cellsAt [.cells (cO o), .cells zO, R] (.eptr 2 0 i 0) = some [.int .u8 u] := by
   rw [hR]
   match i, c with
   | 0, _ => exact ⟨o.at_, rfl, rfl⟩
   | 1, _ => exact ⟨o.da, rfl, rfl⟩
   | 2, _ => exact ⟨o.oa, rfl, rfl⟩
   | 3, _ => exact ⟨o.od, rfl, rfl⟩
  have wr := wrap64 (n := (i : Int) + 1) (by omega) (by omega)
  have bd3 : evBuild [.cells (cO o), .cells zO, R] zO [] = some (.agg zO, [.cells (cO o), .cells zO, R]) := rfl
  have st3 : evStoreV [.cells (cO o), .cells zO, R] 8 (.ptr 1 0) (.agg zO) = some (V.non, [.cells (cO o), .cells zO, R]) := vZO (H := [.cells (cO o), .cells zO, R]) (id := 1) rfl rfl rfl rfl
  have cz : cellsAt [.cells (cO o), .cells zO, R] (.ptr 1 0) = some zO := rfl
  by_cases cu : (3 : Int) ≤ u
  ·have := hz0 23 [.cells (cO o), .cells zO, R]
   simp [zZf.c, zZf.b9, zZf.r4, zZf.r5, zZf.r6, zZf.r7, zZf.r8, k1, k2, k3, k21, k22, k23, hl, c1, hu, hu2, cu, bd3, st3, cz, ofCells, this]
  ·simp [zZf.b9, zZf.r4, zZf.r5, zZf.r6, zZf.r7, zZf.r8, k1, k2, k3, k21, k22, k23, hl, c1, hu, hu2, cu, wr]
   exact ⟨4 - (i + 1), by omega, i + 1, rfl, by omega, by simp⟩
 have c1 : ¬ (i : Int) < 4 := by omega
 simp [zZf.b9, zZf.r4, zZf.r5, zZf.r6, zZf.r7, zZf.r8, k1, k2, k3, k21, k22, k23, hl, c1]
 have s1 : evStoreV [.cells (cO o), .cells zO, R] 1 (.ptr 0 2) (.int .u8 1) = some (V.non, [.cells (cO { o with at_ := 1 }), .cells zO, R]) := vZw (H := [.cells (cO o), .cells zO, R]) (id := 0) rfl (by simp) ⟨rfl, rfl⟩
 cases hA : ((o.at_ : Int) == 0)
 ·simp [zZf.r10, k1, k2, hl, cc3, hA, evPick]
  exact rest12 o z _ (by simp [hl]) (by simp [hl, k1]) (by simp [hl, k2])
 ·cases hB : ((o.oa : Int) != 0)
  ·cases hF : o.fs
   ·simp [zZf.r10, k1, k2, hl, cc3, hA, hB, hF, evPick]
    exact rest12 o z _ (by simp [hl]) (by simp [hl, k1]) (by simp [hl, k2])
   ·obtain ⟨o2, ho2⟩ : ∃ o2 : Opt, o2 = { o with at_ := 1 } := ⟨_, rfl⟩
    rw [← ho2] at s1
    simp [zZf.r10, zZf.r11, k1, k2, hl, cc3, hA, hB, hF, evPick, s1]
    exact rest12 o2 (by rw [ho2]; exact z) _ (by simp [hl]) (by simp [hl, k1]) (by simp [hl, k2])
  ·simp [zZf.r10, zZf.r11, k1, k2, hl, cc3, hA, hB, evPick, s1]
   exact rest12 { o with at_ := 1 } z _ (by simp [hl]) (by simp [hl, k1]) (by simp [hl, k2])
end Go.Proofs.Ob
