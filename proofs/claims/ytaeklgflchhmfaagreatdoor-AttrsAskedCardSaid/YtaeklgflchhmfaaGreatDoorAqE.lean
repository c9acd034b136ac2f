/- Get, GetNS, Names. The law AttrsAsked, walked. No conditions. -/
import Derived.Test.YtaeklgflchhmfaaGreatDoorAqC
set_option maxHeartbeats 16000000
set_option maxRecDepth 100000
set_option linter.unusedVariables false
set_option linter.unusedSimpArgs false
set_option linter.unusedSectionVars false
namespace Go.Proofs.It
open Go Go.Ev
theorem xZD (f : List Nd) (z : Sz f) (za : SzA f) (h : Int) (q : ByteArray) (hq : q.size ≤ roomB) (H : Heap) : callW Φ qZk [eF f, .int .i64 h, .str q] H = some (getV f h (isQ (askV f h q)), H) := by
 refine vZw qZk.Φ rfl (args := [eF f, .int .i64 h, .str q]) rfl ?_
 obtain ⟨P, hP⟩ : ∃ P : V → Heap → Prop, P = fun r h2 => ∃ h3, fz fzDepth h2 r = some (getV f h (isQ (askV f h q)), h3) := ⟨_, rfl⟩
 suffices hgo : ∃ r h', evBodyW (callW Φ) qZk.c [eF f, .int .i64 h, .str q] [] = some (r, h') ∧ P r h' by rw [hP] at hgo; exact hgo
 have hPz : ∀ r h2 h3, fz fzDepth h2 r = some (getV f h (isQ (askV f h q)), h3) → P r h2 := fun r h2 h3 hz => by rw [hP]; exact ⟨h3, hz⟩
 have hPn : ∀ r h2, flatN2 r = true → nz2 r = getV f h (isQ (askV f h q)) → P r h2 := fun r h2 h h1 => hPz r h2 h2 (by rw [← h1]; exact vZe h)
 clear hP
 refine vZU (Nat.le_of_ble_eq_true rfl) (fun env he h0 => ?_)
 have g0 := h0 0 (by simp)
 change eget env 0 = .agg [.arr (f.map cN)] at g0
 have g1 := h0 1 (by simp)
 change eget env 1 = .int .i64 h at g1
 have g2 := h0 2 (by simp)
 change eget env 2 = .str q at g2
 clear h0
 simp [qZk.c] at he
 obtain ⟨K, hK⟩ : ∃ K : Heap, K = [Ob.cells [.arr (f.map cN)]] := ⟨_, rfl⟩
 have hb : evBox [] [.arr (f.map cN)] = some (.ptr 0 0, K) := by rw [hK]; simp [evBox, V.isCell]
 have c1 : cellsAt K (.ptr 0 0) = some [.arr (f.map cN)] := by rw [hK]; rfl
 have hcc : (V.agg [V.arr (f.map cN)]).cells = [.arr (f.map cN)] := rfl
 have hW := vZZ f z h K
 have fin := hPn (getV f h (isQ (askV f h q)))
 clear hK
 by_cases w : wrongV f h = 0
 ·obtain ⟨R, hi⟩ := wrong_ok w
  have hB := kZG f z za h q hq R hi K
  have hG := wZO f z h (isQ (askV f h q)) R hi K
  have e : getV f h (isQ (askV f h q)) = valV (ats f h) (idx (isQ (askV f h q)) (ats f h) 0) := by simp [getV, w]
  obtain ⟨s, b, e2⟩ := xZt (ats f h) (idx (isQ (askV f h q)) (ats f h) 0)
  rw [e2] at e hG
  rw [e] at fin
  have fin := fin K rfl rfl
  rw [w] at hW
  simp only [eF] at hW hB hG
  simp [qZk.c, qZk.r0, qZk.r1, qZk.r2, qZk.r3, g0, g1, g2, he, hcc, hb, c1, ofCells, hW]
  refine kEnv fun env2 hE => ?_
  have j1 : eget env2 1 = .int .i64 h := by rw [hE]; simp [g1]
  have j2 : eget env2 2 = .str q := by rw [hE]; simp [g2]
  have j3 : eget env2 3 = .ptr 0 0 := by rw [hE]; simp [he]
  have jl : env2.length = 26 := by rw [hE]; simp [he]
  clear hE
  refine kDrawW qZk.r4.ord ?_
  simp [qZk.r4, List.filterMap_cons, j1, j2, j3, jl, c1, ofCells, hB, hG, evExt, fin]
  simp only [jZa, wZf, List.cons_append, List.nil_append]
  repeat' apply And.intro
  all_goals exact wZ8 _ rfl rfl rfl rfl
 ·have e : getV f h (isQ (askV f h q)) = .tup [.str ⟨#[]⟩, .bool false, .int .i64 (wrongV f h)] := by simp [getV, w]
  rw [e] at fin
  have fin := fin K rfl rfl
  have w' : (wrongV f h != 0) = true := by simp [bne, w]
  simp only [eF] at hW
  simp [qZk.c, qZk.r0, qZk.r1, qZk.r2, qZk.r3, g0, g1, g2, he, hcc, hb, c1, ofCells, hW, w', fin]
theorem wZN (f : List Nd) (z : Sz f) (h : Int) (s q : ByteArray) (H : Heap) : callW Φ zZX [eF f, .int .i64 h, .str s, .str q] H = some (getV f h (isN s q), H) := by
 refine vZw zZX.Φ rfl (args := [eF f, .int .i64 h, .str s, .str q]) rfl ?_
 obtain ⟨P, hP⟩ : ∃ P : V → Heap → Prop, P = fun r h2 => ∃ h3, fz fzDepth h2 r = some (getV f h (isN s q), h3) := ⟨_, rfl⟩
 suffices hgo : ∃ r h', evBodyW (callW Φ) zZX.c [eF f, .int .i64 h, .str s, .str q] [] = some (r, h') ∧ P r h' by rw [hP] at hgo; exact hgo
 have hPz : ∀ r h2 h3, fz fzDepth h2 r = some (getV f h (isN s q), h3) → P r h2 := fun r h2 h3 hz => by rw [hP]; exact ⟨h3, hz⟩
 have hPn : ∀ r h2, flatN2 r = true → nz2 r = getV f h (isN s q) → P r h2 := fun r h2 h h1 => hPz r h2 h2 (by rw [← h1]; exact vZe h)
 clear hP
 refine vZU (Nat.le_of_ble_eq_true rfl) (fun env he h0 => ?_)
 have g0 := h0 0 (by simp)
 change eget env 0 = .agg [.arr (f.map cN)] at g0
 have g1 := h0 1 (by simp)
 change eget env 1 = .int .i64 h at g1
 have g2 := h0 2 (by simp)
 change eget env 2 = .str s at g2
 have g3 := h0 3 (by simp)
 change eget env 3 = .str q at g3
 clear h0
 simp [zZX.c] at he
 obtain ⟨K, hK⟩ : ∃ K : Heap, K = [Ob.cells [.arr (f.map cN)]] := ⟨_, rfl⟩
 have hb : evBox [] [.arr (f.map cN)] = some (.ptr 0 0, K) := by rw [hK]; simp [evBox, V.isCell]
 have c1 : cellsAt K (.ptr 0 0) = some [.arr (f.map cN)] := by rw [hK]; rfl
 have hcc : (V.agg [V.arr (f.map cN)]).cells = [.arr (f.map cN)] := rfl
 have hW := vZZ f z h K
 have fin := hPn (getV f h (isN s q))
 clear hK
 by_cases w : wrongV f h = 0
 ·obtain ⟨R, hi⟩ := wrong_ok w
  have hB := jZI f z h s q R hi K
  have hG := wZO f z h (isN s q) R hi K
  have e : getV f h (isN s q) = valV (ats f h) (idx (isN s q) (ats f h) 0) := by simp [getV, w]
  obtain ⟨v, b, e2⟩ := xZt (ats f h) (idx (isN s q) (ats f h) 0)
  rw [e2] at e hG
  rw [e] at fin
  have fin := fin K rfl rfl
  rw [w] at hW
  simp only [eF] at hW hB hG
  simp [zZX.c, zZX.r0, zZX.r1, zZX.r2, zZX.r3, g0, g1, g2, g3, he, hcc, hb, c1, ofCells, hW]
  refine kEnv fun env2 hE => ?_
  have j1 : eget env2 1 = .int .i64 h := by rw [hE]; simp [g1]
  have j2 : eget env2 2 = .str s := by rw [hE]; simp [g2]
  have j3 : eget env2 3 = .str q := by rw [hE]; simp [g3]
  have j4 : eget env2 4 = .ptr 0 0 := by rw [hE]; simp [he]
  have jl : env2.length = 29 := by rw [hE]; simp [he]
  clear hE
  refine kDrawW zZX.r4.ord ?_
  simp [zZX.r4, List.filterMap_cons, j1, j2, j3, j4, jl, c1, ofCells, hB, hG, evExt, fin]
  simp only [jZa, wZf, List.cons_append, List.nil_append]
  repeat' apply And.intro
  all_goals exact wZ8 _ rfl rfl rfl rfl
 ·have e : getV f h (isN s q) = .tup [.str ⟨#[]⟩, .bool false, .int .i64 (wrongV f h)] := by simp [getV, w]
  rw [e] at fin
  have fin := fin K rfl rfl
  have w' : (wrongV f h != 0) = true := by simp [bne, w]
  simp only [eF] at hW
  simp [zZX.c, zZX.r0, zZX.r1, zZX.r2, zZX.r3, g0, g1, g2, he, hcc, hb, c1, ofCells, hW, w', fin]
theorem wZJ (f : List Nd) (z : Sz f) (h : Int) (s q : ByteArray) (H : Heap) : callW Φ zZU [eF f, .int .i64 h, .str s, .str q] H = some (getV f h (isN s q), H) := by
 refine vZw zZU.Φ rfl (args := [eF f, .int .i64 h, .str s, .str q]) rfl ?_
 obtain ⟨P, hP⟩ : ∃ P : V → Heap → Prop, P = fun r h2 => ∃ h3, fz fzDepth h2 r = some (getV f h (isN s q), h3) := ⟨_, rfl⟩
 suffices hgo : ∃ r h', evBodyW (callW Φ) zZU.c [eF f, .int .i64 h, .str s, .str q] [] = some (r, h') ∧ P r h' by rw [hP] at hgo; exact hgo
 have hPz : ∀ r h2 h3, fz fzDepth h2 r = some (getV f h (isN s q), h3) → P r h2 := fun r h2 h3 hz => by rw [hP]; exact ⟨h3, hz⟩
 have hPn : ∀ r h2, flatN2 r = true → nz2 r = getV f h (isN s q) → P r h2 := fun r h2 h h1 => hPz r h2 h2 (by rw [← h1]; exact vZe h)
 clear hP
 refine vZU (Nat.le_of_ble_eq_true rfl) (fun env he h0 => ?_)
 have g0 := h0 0 (by simp)
 change eget env 0 = .agg [.arr (f.map cN)] at g0
 have g1 := h0 1 (by simp)
 change eget env 1 = .int .i64 h at g1
 have g2 := h0 2 (by simp)
 change eget env 2 = .str s at g2
 have g3 := h0 3 (by simp)
 change eget env 3 = .str q at g3
 clear h0
 simp [zZU.c] at he
 obtain ⟨K, hK⟩ : ∃ K : Heap, K = [Ob.cells [.arr (f.map cN)]] := ⟨_, rfl⟩
 have hb : evBox [] [.arr (f.map cN)] = some (.ptr 0 0, K) := by rw [hK]; simp [evBox, V.isCell]
 have c1 : cellsAt K (.ptr 0 0) = some [.arr (f.map cN)] := by rw [hK]; rfl
 have hk0 : K[0]? = some (.cells [.arr (f.map cN)]) := by rw [hK]; rfl
 have hcc : (V.agg [V.arr (f.map cN)]).cells = [.arr (f.map cN)] := rfl
 have hW := vZW f z h K
 obtain ⟨g, K1, hB, G1, T1, hg1, hg2⟩ := jZu s q (ats f h) K
 obtain ⟨r, K2, hG, rfl, G2⟩ := jZc f z h (isN s q) g K1 T1
 have c2 : cellsAt K1 (.ptr 0 0) = some [.arr (f.map cN)] := jZz (G1.at hk0) 0
 have fin := hPn (getV f h (isN s q))
 clear hK
 by_cases w : wrongV f h = 0
 ·have e : getV f h (isN s q) = valV (ats f h) (idx (isN s q) (ats f h) 0) := by simp [getV, w]
  obtain ⟨v, b, e2⟩ := xZt (ats f h) (idx (isN s q) (ats f h) 0)
  rw [e2] at e hG
  rw [e] at fin
  have fin := fin K2 rfl rfl
  rw [w] at hW
  simp only [eF] at hW hB hG
  simp [zZU.c, zZU.r0, zZU.r1, zZU.r2, zZU.r3, g0, g1, g2, g3, he, hcc, hb, c1, ofCells, hW]
  refine kEnv fun env2 hE => ?_
  have j1 : eget env2 1 = .int .i64 h := by rw [hE]; simp [g1]
  have j2 : eget env2 2 = .str s := by rw [hE]; simp [g2]
  have j3 : eget env2 3 = .str q := by rw [hE]; simp [g3]
  have j4 : eget env2 4 = .ptr 0 0 := by rw [hE]; simp [he]
  have jl : env2.length = 27 := by rw [hE]; simp [he]
  clear hE
  refine kDrawW zZU.r4.ord ?_
  simp [zZU.r4, List.filterMap_cons, j1, j2, j3, j4, jl, c1, c2, ofCells, hB, hG, evExt, fin]
  simp only [jZa, wZf, List.cons_append, List.nil_append]
  repeat' apply And.intro
  all_goals exact wZ8 _ rfl rfl rfl rfl
 ·have e : getV f h (isN s q) = .tup [.str ⟨#[]⟩, .bool false, .int .i64 (wrongV f h)] := by simp [getV, w]
  rw [e] at fin
  have fin := fin K rfl rfl
  have w' : (wrongV f h != 0) = true := by simp [bne, w]
  simp only [eF] at hW
  simp [zZU.c, zZU.r0, zZU.r1, zZU.r2, zZU.r3, g0, g1, g2, he, hcc, hb, c1, ofCells, hW, w', fin]
def two : V → V
 | .tup [s, _, n] => .tup [s, n]
 | v => v
theorem jZt (f : List Nd) (z : Sz f) (h : Int) (q : ByteArray) (H : Heap) : callW Φ qZg [eF f, .int .i64 h, .str q] H = some (two (getV f h (isN ⟨#[]⟩ q)), H) := by
 refine vZw qZg.Φ rfl (args := [eF f, .int .i64 h, .str q]) rfl ?_
 obtain ⟨P, hP⟩ : ∃ P : V → Heap → Prop, P = fun r h2 => ∃ h3, fz fzDepth h2 r = some (two (getV f h (isN ⟨#[]⟩ q)), h3) := ⟨_, rfl⟩
 suffices hgo : ∃ r h', evBodyW (callW Φ) qZg.c [eF f, .int .i64 h, .str q] [] = some (r, h') ∧ P r h' by rw [hP] at hgo; exact hgo
 have hPz : ∀ r h2 h3, fz fzDepth h2 r = some (two (getV f h (isN ⟨#[]⟩ q)), h3) → P r h2 := fun r h2 h3 hz => by rw [hP]; exact ⟨h3, hz⟩
 have hPn : ∀ r h2, flatN2 r = true → nz2 r = two (getV f h (isN ⟨#[]⟩ q)) → P r h2 := fun r h2 h h1 => hPz r h2 h2 (by rw [← h1]; exact vZe h)
 clear hP
 refine vZU (Nat.le_of_ble_eq_true rfl) (fun env he h0 => ?_)
 have g0 := h0 0 (by simp)
 change eget env 0 = .agg [.arr (f.map cN)] at g0
 have g1 := h0 1 (by simp)
 change eget env 1 = .int .i64 h at g1
 have g2 := h0 2 (by simp)
 change eget env 2 = .str q at g2
 clear h0
 simp [qZg.c] at he
 obtain ⟨K, hK⟩ : ∃ K : Heap, K = [Ob.cells [.arr (f.map cN)]] := ⟨_, rfl⟩
 have hb : evBox [] [.arr (f.map cN)] = some (.ptr 0 0, K) := by rw [hK]; simp [evBox, V.isCell]
 have c1 : cellsAt K (.ptr 0 0) = some [.arr (f.map cN)] := by rw [hK]; rfl
 have hcc : (V.agg [V.arr (f.map cN)]).cells = [.arr (f.map cN)] := rfl
 have hW := wZJ f z h ⟨#[]⟩ q K
 have fin := hPn (two (getV f h (isN ⟨#[]⟩ q)))
 obtain ⟨v, b, n, e⟩ := getV_is f h (isN ⟨#[]⟩ q)
 rw [e] at hW fin
 have fin := fin K rfl rfl
 simp only [two] at fin
 simp only [eF] at hW
 simp [qZg.c, qZg.r0, qZg.r1, qZg.r2, g0, g1, g2, he, hcc, hb, c1, ofCells, hW, evExt, fin]
/-! ### Names -/
theorem fz_pair {S H' : Heap} {v r : V} {n : Int} (h : fz 63 S v = some (r, H')) : fz fzDepth S (.tup [v, .int .i64 n]) = some (.tup [r, .int .i64 n], H') := by
 show (mapH (fz 63) S [v, .int .i64 n]).map (fun p => (V.tup p.1, p.2)) = _
 have h2 : fz 63 H' (.int .i64 n) = some (.int .i64 n, H') := rfl
 simp only [mapH, h, h2, Option.map_some]
def cS (s : ByteArray) : List V := [.str s]
def namesV (f : List Nd) (h : Int) : List ByteArray := if wrongV f h = 0 then (ats f h).map (fun a => qual a.nm) else []
theorem plainS (l : List ByteArray) : plainR 1 (l.map cS) := plainR.map (enc := cS) (fun _ => rfl) (fun _ => rfl) (fun _ => rfl) l
theorem bsS (H : Heap) (s : ByteArray) : evBslice H [.str ⟨#[]⟩] 1 1 [(0, .str s)] = some (.sl H.length 0 0 1, H ++ [.row 1 [cS s] 0 true]) := by
 simp [evBslice, placeParts, V.cells, V.isCell, chunks, setRange, qZ4, cS]
theorem VL.appS {H : Heap} {v : V} {o : Option Nat} {xs : List ByteArray} (hv : VL H 1 v o (xs.map cS)) (s : ByteArray) (hn : xs.length < 2 ^ 42) :
  ∃ v' o' H', evApp (H ++ [.row 1 [cS s] 0 true]) 1 16 v (.sl H.length 0 0 1) = some (v', H') ∧ VL H' 1 v' o' ((xs ++ [s]).map cS) ∧ H.length ≤ H'.length ∧ (∀ j, j < H.length → o ≠ some j → H'[j]? = H[j]?) ∧ ∀ id, o' = some id → o = some id ∨ H.length ≤ id := by
 have hroom : ((xs.map cS).length + 1) * 16 ≤ roomB := by
  have : roomB = 140737488355328 := rfl
  simp only [List.length_map]
  omega
 obtain ⟨v', o', H2, h1, h2, h3, h4, h5⟩ := (hv.push [.row 1 [cS s] 0 true]).app (by_ := 16) (es := [cS s]) (plainS [s]) (q := .sl H.length 0 0 1) (by simp [elemsOf]) hroom
 simp only [List.length_append, List.length_cons, List.length_nil] at h3 h4 h5
 refine ⟨v', o', H2, h1, by simpa using h2, by omega, fun j hj hne => ?_, fun id hid => (h5 id hid).imp (fun h => h) fun h => by omega⟩
 rw [h4 j (by omega) hne, List.getElem?_append_left hj]
theorem kZs (f : List Nd) (z : Sz f) (za : SzA f) (h : Int) (zl : (ats f h).length < 2 ^ 42) (H : Heap) : callW Φ zZw [eF f, .int .i64 h] H = some (.tup [.arr ((namesV f h).map cS), .int .i64 (wrongV f h)], H) := by
 refine vZw zZw.Φ rfl (args := [eF f, .int .i64 h]) rfl ?_
 obtain ⟨P, hP⟩ : ∃ P : V → Heap → Prop, P = fun r h2 => ∃ h3, fz fzDepth h2 r = some (.tup [.arr ((namesV f h).map cS), .int .i64 (wrongV f h)], h3) := ⟨_, rfl⟩
 suffices hgo : ∃ r h', evBodyW (callW Φ) zZw.c [eF f, .int .i64 h] [] = some (r, h') ∧ P r h' by rw [hP] at hgo; exact hgo
 have hPz : ∀ r h2 h3, fz fzDepth h2 r = some (.tup [.arr ((namesV f h).map cS), .int .i64 (wrongV f h)], h3) → P r h2 := fun r h2 h3 hz => by rw [hP]; exact ⟨h3, hz⟩
 have hPn : ∀ r h2, flatN2 r = true → nz2 r = .tup [.arr ((namesV f h).map cS), .int .i64 (wrongV f h)] → P r h2 := fun r h2 h h1 => hPz r h2 h2 (by rw [← h1]; exact vZe h)
 clear hP
 refine vZU (Nat.le_of_ble_eq_true rfl) (fun env he h0 => ?_)
 have g0 := h0 0 (by simp)
 change eget env 0 = .agg [.arr (f.map cN)] at g0
 have g1 := h0 1 (by simp)
 change eget env 1 = .int .i64 h at g1
 clear h0
 simp [zZw.c] at he
 have hlf := z.len
 obtain ⟨K, hK⟩ : ∃ K : Heap, K = [Ob.cells [.arr (f.map cN)]] := ⟨_, rfl⟩
 have hb : evBox [] [.arr (f.map cN)] = some (.ptr 0 0, K) := by rw [hK]; simp [evBox, V.isCell]
 have c1 : cellsAt K (.ptr 0 0) = some [.arr (f.map cN)] := by rw [hK]; rfl
 have hcc : (V.agg [V.arr (f.map cN)]).cells = [.arr (f.map cN)] := rfl
 have hW := vZW f z h K
 clear hK
 by_cases w : wrongV f h = 0
 ·rw [w] at hW hPz
  have e : namesV f h = (ats f h).map (fun a => qual a.nm) := by simp [namesV, w]
  rw [e] at hPz
  have hA := fun X => wZo f h hlf X
  have hq2 := za.at h
  obtain ⟨l, hl⟩ : ∃ l, l = ats f h := ⟨_, rfl⟩
  have hl' : (at_ f h).attrs = l := hl.symm
  rw [← hl] at hq2 zl hPz
  simp only [eF, eN] at hA hW
  clear hl e
  simp [zZw.c, zZw.r0, zZw.r1, zZw.r2, zZw.r3, zZw.r4, zZw.r5, zZw.r11, g0, g1, he, hcc, hb, c1, ofCells, hW, hA, fieldN7, hl', vZY]
  refine kLoop (fun m s => ∃ i : Nat, m = l.length - i ∧ i ≤ l.length ∧ eget s.env 19 = .arr (l.map cA) ∧ eget s.env 20 = .int .i64 l.length ∧ eget s.env 21 = .int .i64 i ∧ s.env.length = 33 ∧ s.marks = [] ∧ ∃ v o, eget s.env 7 = v ∧ VL s.heap 1 v o (((l.take i).map (fun a => qual a.nm)).map cS)) l.length
   ⟨0, rfl, by omega, by simp [he], by simp [he], by simp [he], by simpa using he, rfl, .nils, none, by simp [he], by simpa using VL.nil _ _⟩ ?_
  rintro m ⟨env, mk, S⟩ ⟨i, rfl, hi, k19, k20, k21, hl, hm, v, o, k7, hv⟩
  simp only at k7 k19 k20 k21 hl hm hv
  obtain rfl := hm
  by_cases c : i < l.length
  ·have c2 : (i : Int) < l.length := by omega
   obtain ⟨x, hx⟩ : ∃ x, l[i]? = some x := ⟨_, List.getElem?_eq_getElem c⟩
   have ia := qZU (h := S) (k := .i64) wZr hx
   have wr := wrap64 (n := (i : Int) + 1) (by omega) (by omega)
   obtain ⟨S1, hS1⟩ : ∃ S1, S1 = S ++ [.cells (cA x)] := ⟨_, rfl⟩
   have st := jZM (H := S) (cs := [.str ⟨#[]⟩, .str ⟨#[]⟩, .str ⟨#[]⟩, .str ⟨#[]⟩]) (n := 4) (.agg (cA x)) rfl rfl rfl
   have hc2 : (V.agg (cA x)).cells = cA x := rfl
   rw [hc2, ← hS1] at st
   have cl : ∀ off, cellsAt S1 (.ptr S.length off) = some ((cA x).drop off) := fun off => by rw [hS1]; exact vZN _ _ _
   have v1 := hv.push [.cells (cA x)]
   rw [← hS1] at v1
   have oa := okAn S1 x
   have hN := vZ1 x.nm (hq2 x (List.mem_of_getElem? hx)) S1
   have bs := bsS S1 (qual x.nm)
   obtain ⟨v', o', S2, hap, hv', _, _, _⟩ := VL.appS v1 (qual x.nm) (by simp; omega)
   have e2 : (List.map (fun a => qual a.nm) (l.take i)) ++ [qual x.nm] = List.map (fun a => qual a.nm) (l.take (i + 1)) := by rw [List.take_add_one, hx]; simp
   rw [e2] at hv'
   simp only [eNm] at oa
   clear hS1
   simp [zZw.b10, zZw.r6, zZw.r7, zZw.r8, zZw.r9, k7, k19, k20, k21, hl, c2, ia, okA, st, cl, oa, hN, bs, hap, wr]
   exact ⟨l.length - (i + 1), by omega, i + 1, rfl, by omega, by simp, o', by simpa using hv'⟩
  ·have c2 : ¬ (i : Int) < l.length := by omega
   rw [List.take_of_length_le (by omega)] at hv
   obtain ⟨H', hz, _⟩ := hv.fz (d := 61)
   have fin := hPz (.tup [v, .int .i64 0]) S H' (fz_pair hz)
   simp [zZw.c, zZw.r0, zZw.r1, zZw.r2, zZw.r3, zZw.r4, zZw.r5, zZw.r11, zZw.b10, zZw.r6, zZw.r7, zZw.r8, zZw.r9, k7, k19, k20, k21, hl, c2, fin]
 ·have e : namesV f h = [] := by simp [namesV, w]
  rw [e] at hPn
  have fin := hPn (.tup [.nils, .int .i64 (wrongV f h)]) K rfl rfl
  have w' : (wrongV f h != 0) = true := by simp [bne, w]
  simp only [eF] at hW
  simp [zZw.c, zZw.r0, zZw.r1, zZw.r2, zZw.r3, zZw.r4, zZw.r5, zZw.r11, g0, g1, he, hcc, hb, c1, ofCells, hW, w', fin]
theorem kZF (f : List Nd) (z : Sz f) (za : SzA f) (h : Int) (zl : (ats f h).length < 2 ^ 42) (H : Heap) : callW Φ zZv [eF f, .int .i64 h] H = some (.tup [.arr ((namesV f h).map cS), .int .i64 (wrongV f h)], H) := by
 refine vZw zZv.Φ rfl (args := [eF f, .int .i64 h]) rfl ?_
 obtain ⟨P, hP⟩ : ∃ P : V → Heap → Prop, P = fun r h2 => ∃ h3, fz fzDepth h2 r = some (.tup [.arr ((namesV f h).map cS), .int .i64 (wrongV f h)], h3) := ⟨_, rfl⟩
 suffices hgo : ∃ r h', evBodyW (callW Φ) zZv.c [eF f, .int .i64 h] [] = some (r, h') ∧ P r h' by rw [hP] at hgo; exact hgo
 have hPz : ∀ r h2 h3, fz fzDepth h2 r = some (.tup [.arr ((namesV f h).map cS), .int .i64 (wrongV f h)], h3) → P r h2 := fun r h2 h3 hz => by rw [hP]; exact ⟨h3, hz⟩
 have hPn : ∀ r h2, flatN2 r = true → nz2 r = .tup [.arr ((namesV f h).map cS), .int .i64 (wrongV f h)] → P r h2 := fun r h2 h h1 => hPz r h2 h2 (by rw [← h1]; exact vZe h)
 clear hP
 refine vZU (Nat.le_of_ble_eq_true rfl) (fun env he h0 => ?_)
 have g0 := h0 0 (by simp)
 change eget env 0 = .agg [.arr (f.map cN)] at g0
 have g1 := h0 1 (by simp)
 change eget env 1 = .int .i64 h at g1
 clear h0
 simp [zZv.c] at he
 have hlf := z.len
 obtain ⟨K, hK⟩ : ∃ K : Heap, K = [Ob.cells [.arr (f.map cN)]] := ⟨_, rfl⟩
 have hb : evBox [] [.arr (f.map cN)] = some (.ptr 0 0, K) := by rw [hK]; simp [evBox, V.isCell]
 have c1 : cellsAt K (.ptr 0 0) = some [.arr (f.map cN)] := by rw [hK]; rfl
 have hcc : (V.agg [V.arr (f.map cN)]).cells = [.arr (f.map cN)] := rfl
 have hW := vZZ f z h K
 clear hK
 by_cases w : wrongV f h = 0
 ·rw [w] at hW hPz
  obtain ⟨R, hi⟩ := wrong_ok w
  have i1 := vZC.1 hi
  have e : namesV f h = (ats f h).map (fun a => qual a.nm) := by simp [namesV, w]
  rw [e] at hPz
  have hA := fun X => vZr f h hlf i1.1 i1.2 X
  have hq2 := za.at h
  obtain ⟨l, hl⟩ : ∃ l, l = ats f h := ⟨_, rfl⟩
  have hl' : (at_ f h).attrs = l := hl.symm
  rw [← hl] at hq2 zl hPz
  simp only [eF, eN] at hA hW
  clear hl e
  simp [zZv.c, zZv.r0, zZv.r1, zZv.r2, zZv.r3, zZv.r4, zZv.r5, zZv.r6, zZv.r11, g0, g1, he, hcc, hb, c1, ofCells, hW, hA, fieldN7, hl']
  refine kLoop (fun m s => ∃ i : Nat, m = l.length - i ∧ i ≤ l.length ∧ eget s.env 8 = .arr (l.map cA) ∧ eget s.env 9 = .int .i64 i ∧ s.env.length = 36 ∧ s.marks = [] ∧ ∃ v o, eget s.env 7 = v ∧ VL s.heap 1 v o (((l.take i).map (fun a => qual a.nm)).map cS)) l.length
   ⟨0, rfl, by omega, by simp [he], by simp [he], by simpa using he, rfl, .nils, none, by simp [he], by simpa using VL.nil _ _⟩ ?_
  rintro m ⟨env, mk, S⟩ ⟨i, rfl, hi, k8, k9, hl, hm, v, o, k7, hv⟩
  simp only at k7 k8 k9 hl hm hv
  obtain rfl := hm
  by_cases c : i < l.length
  ·have c2 : (i : Int) < l.length := by omega
   obtain ⟨x, hx⟩ : ∃ x, l[i]? = some x := ⟨_, List.getElem?_eq_getElem c⟩
   have ia := qZU (h := S) (k := .i64) wZr hx
   have wr := wrap64 (n := (i : Int) + 1) (by omega) (by omega)
   have hN := vZ3 x.nm (hq2 x (List.mem_of_getElem? hx)) S
   have fa : okV S (faddrV 0 (.iptr (cA x))) = some (.iptr (cA x), S) := by simp [faddrV, okV]
   have ca : okCells S (some 3) (some (cA x)) = some (.agg [.str x.nm.sp, .str x.nm.pr, .str x.nm.lo], S) := rfl
   have bs := bsS S (qual x.nm)
   obtain ⟨v', o', S2, hap, hv', _, _, _⟩ := VL.appS hv (qual x.nm) (by simp; omega)
   have e2 : (List.map (fun a => qual a.nm) (l.take i)) ++ [qual x.nm] = List.map (fun a => qual a.nm) (l.take (i + 1)) := by rw [List.take_add_one, hx]; simp
   rw [e2] at hv'
   simp [zZv.b10, zZv.r7, zZv.r8, zZv.r9, k7, k8, k9, hl, vZY, c2, ia, fa, ca, hN, bs, hap, wr]
   exact ⟨l.length - (i + 1), by omega, i + 1, rfl, by omega, by simp, o', by simpa using hv'⟩
  ·have c2 : ¬ (i : Int) < l.length := by omega
   rw [List.take_of_length_le (by omega)] at hv
   obtain ⟨H', hz, _⟩ := hv.fz (d := 61)
   have fin := hPz (.tup [v, .int .i64 0]) S H' (fz_pair hz)
   simp [zZv.c, zZv.r0, zZv.r1, zZv.r2, zZv.r3, zZv.r4, zZv.r5, zZv.r6, zZv.r11, zZv.b10, zZv.r7, zZv.r8, zZv.r9, k7, k8, k9, hl, vZY, c2, fin]
 ·have e : namesV f h = [] := by simp [namesV, w]
  rw [e] at hPn
  have fin := hPn (.tup [.nils, .int .i64 (wrongV f h)]) K rfl rfl
  have w' : (wrongV f h != 0) = true := by simp [bne, w]
  simp only [eF] at hW
  simp [zZv.c, zZv.r0, zZv.r1, zZv.r2, zZv.r3, zZv.r4, zZv.r5, zZv.r6, zZv.r11, g0, g1, he, hcc, hb, c1, ofCells, hW, w', fin]
open Go Go.Ev
theorem eqcT (X : Heap) (b : Bool) : evEqc X true (.leaf .b) (.bool b) (.bool b) = some (.bool false, X) := by cases b <;> rfl
theorem neS (a : ByteArray) : binV .neq (.str a) (.str a) = some (.bool false) := by rw [bin_sneq]; simp [beqS]
theorem beqSS (a : ByteArray) : beqS a a = true := by simp [beqS]
theorem cS_len (s : ByteArray) : (cS s).length = 1 := rfl
theorem asked_law (f : List Nd) (z : Sz f) (za : SzA f) (h : Int) (s q : ByteArray) (hq : q.size ≤ roomB) (zl : (ats f h).length < 2 ^ 42) (H : Heap) : callW Φ zZf [eF f, .int .i64 h, .str s, .str q] H = some (.bool true, H) := by
 have : ∃ hh, evBodyW (callW Φ) zZf.c [eF f, .int .i64 h, .str s, .str q] [] = some (.bool true, hh) := by
  refine qZ3 (Nat.le_of_ble_eq_true rfl) (fun env he h0 => ?_)
  have g0 := h0 0 (by simp)
  change eget env 0 = .agg [.arr (f.map cN)] at g0
  have g1 := h0 1 (by simp)
  change eget env 1 = .int .i64 h at g1
  have g2 := h0 2 (by simp)
  change eget env 2 = .str s at g2
  have g3 := h0 3 (by simp)
  change eget env 3 = .str q at g3
  clear h0
  simp [zZf.c] at he
  obtain ⟨K, hK⟩ : ∃ K : Heap, K = [Ob.cells [.arr (f.map cN)]] := ⟨_, rfl⟩
  have hb : evBox [] [.arr (f.map cN)] = some (.ptr 0 0, K) := by rw [hK]; simp [evBox, V.isCell]
  have c1 : cellsAt K (.ptr 0 0) = some [.arr (f.map cN)] := by rw [hK]; rfl
  have hcc : (V.agg [V.arr (f.map cN)]).cells = [.arr (f.map cN)] := rfl
  have a1 := xZw f z za h q hq K
  have a2 := xZD f z za h q hq K
  have a3 := wZJ f z h s q K
  have a4 := wZN f z h s q K
  have a5 := kZs f z za h zl K
  have a6 := kZF f z za h zl K
  have a7 := jZt f z h q K
  have a8 := wZN f z h ⟨#[]⟩ q K
  obtain ⟨s1, b1, n1, e1⟩ := getV_is f h (isQ (askV f h q))
  obtain ⟨s2, b2, n2, e2⟩ := getV_is f h (isN s q)
  obtain ⟨s3, b3, n3, e3⟩ := getV_is f h (isN ⟨#[]⟩ q)
  rw [e1] at a1 a2
  rw [e2] at a3 a4
  rw [e3] at a7 a8
  obtain ⟨l, hl⟩ : ∃ l, l = namesV f h := ⟨_, rfl⟩
  have hll : l.length < 2 ^ 42 := by
   rw [hl, namesV]
   split
   ·simpa using zl
   ·simp
  rw [← hl] at a5 a6
  simp only [eF, two] at a1 a2 a3 a4 a5 a6 a7 a8
  have bg := begins_spec K
  clear hK hl e1 e2 e3
  simp [zZf.c, zZf.r0, zZf.r1, zZf.r2, zZf.r3, zZf.r4, g0, g1, g2, g3, he, hcc, hb, c1, ofCells, a1, a2, a3, a4, evExt]
  refine kEnv fun env2 hE => ?_
  have u1 : eget env2 1 = .int .i64 h := by rw [hE]; simp [g1]
  have u2 : eget env2 2 = .str s := by rw [hE]; simp [g2]
  have u3 : eget env2 3 = .str q := by rw [hE]; simp [g3]
  have u4 : eget env2 4 = .ptr 0 0 := by rw [hE]; simp [he]
  have u9 : eget env2 9 = .str s1 := by rw [hE]; simp [he]
  have u10 : eget env2 10 = .bool b1 := by rw [hE]; simp [he]
  have u11 : eget env2 11 = .int .i64 n1 := by rw [hE]; simp [he]
  have u12 : eget env2 12 = .str s1 := by rw [hE]; simp [he]
  have u13 : eget env2 13 = .bool b1 := by rw [hE]; simp [he]
  have u14 : eget env2 14 = .int .i64 n1 := by rw [hE]; simp [he]
  have u15 : eget env2 15 = .str s2 := by rw [hE]; simp [he]
  have u16 : eget env2 16 = .bool b2 := by rw [hE]; simp [he]
  have u17 : eget env2 17 = .int .i64 n2 := by rw [hE]; simp [he]
  have u18 : eget env2 18 = .str s2 := by rw [hE]; simp [he]
  have u19 : eget env2 19 = .bool b2 := by rw [hE]; simp [he]
  have u20 : eget env2 20 = .int .i64 n2 := by rw [hE]; simp [he]
  have ul : env2.length = 158 := by rw [hE]; simp [he]
  clear hE
  simp [zZf.r5, zZf.r6, zZf.r7, zZf.r8, u1, u2, u3, u4, ul, c1, ofCells, a5, a6, a7, a8, evExt]
  refine kEnv fun env3 hE => ?_
  have v9 : eget env3 9 = .str s1 := by rw [hE]; simp [u9]
  have v10 : eget env3 10 = .bool b1 := by rw [hE]; simp [u10]
  have v11 : eget env3 11 = .int .i64 n1 := by rw [hE]; simp [u11]
  have v12 : eget env3 12 = .str s1 := by rw [hE]; simp [u12]
  have v13 : eget env3 13 = .bool b1 := by rw [hE]; simp [u13]
  have v14 : eget env3 14 = .int .i64 n1 := by rw [hE]; simp [u14]
  have v15 : eget env3 15 = .str s2 := by rw [hE]; simp [u15]
  have v16 : eget env3 16 = .bool b2 := by rw [hE]; simp [u16]
  have v17 : eget env3 17 = .int .i64 n2 := by rw [hE]; simp [u17]
  have v18 : eget env3 18 = .str s2 := by rw [hE]; simp [u18]
  have v19 : eget env3 19 = .bool b2 := by rw [hE]; simp [u19]
  have v20 : eget env3 20 = .int .i64 n2 := by rw [hE]; simp [u20]
  have v21 : eget env3 21 = .arr (l.map cS) := by rw [hE]; simp [ul]
  have v22 : eget env3 22 = .int .i64 (wrongV f h) := by rw [hE]; simp [ul]
  have v23 : eget env3 23 = .arr (l.map cS) := by rw [hE]; simp [ul]
  have v24 : eget env3 24 = .int .i64 (wrongV f h) := by rw [hE]; simp [ul]
  have v25 : eget env3 25 = .str s3 := by rw [hE]; simp [ul]
  have v26 : eget env3 26 = .int .i64 n3 := by rw [hE]; simp [ul]
  have v27 : eget env3 27 = .str s3 := by rw [hE]; simp [ul]
  have v29 : eget env3 29 = .int .i64 n3 := by rw [hE]; simp [ul]
  have vl : env3.length = 158 := by rw [hE]; simp [ul]
  clear hE
  clear u1 u2 u3 u4 u9 u10 u11 u12 u13 u14 u15 u16 u17 u18 u19 u20 ul g0 g1 g2 g3 he a1 a2 a3 a4 a5 a6 a7 a8
  simp (config := { maxSteps := 5000000 }) [zZf.r9, zZf.r11, v9, v10, v11, v12, v13, v14, v15, v16, v17, v18, v19, v20, v21, v22, v23, v24, v25, v26, v27, v29, vl, evPick, vZY, eqcT, beqSS]
  refine kLoop (fun m st => ∃ i : Nat, m = l.length - i ∧ i ≤ l.length ∧ eget st.env 21 = .arr (l.map cS) ∧ eget st.env 23 = .arr (l.map cS) ∧ eget st.env 30 = .int .i64 i ∧ st.env.length = 158 ∧ st.marks = [] ∧ st.heap = K) l.length
   ⟨0, rfl, by omega, by simp [v21], by simp [v23], by simp [vl], by simpa using vl, rfl, rfl⟩ ?_
  rintro m ⟨env, mk, S⟩ ⟨i, rfl, hi, k21, k23, k30, hl, hm, hS⟩
  simp only at k21 k23 k30 hl hm hS
  obtain rfl := hm
  obtain rfl := hS
  by_cases c : i < l.length
  ·have c2 : (i : Int) < l.length := by omega
   obtain ⟨x, hx⟩ : ∃ x, l[i]? = some x := ⟨_, List.getElem?_eq_getElem c⟩
   have ia := qZU (h := S) (k := .i64) cS_len hx
   have wr := wrap64 (n := (i : Int) + 1) (by omega) (by omega)
   have ca : okCells S none (some (cS x)) = some (.str x, S) := rfl
   simp [zZf.b16, zZf.r12, zZf.r14, zZf.r15, k21, k23, k30, hl, vZY, c2]
   refine kDraw1 zZf.r13.ord ?_
   simp [zZf.r13, List.filterMap_cons, k21, k23, k30, hl, ia, ca, beqSS, wr]
   exact ⟨l.length - (i + 1), by omega, i + 1, rfl, by omega, by simp⟩
  ·have c2 : ¬ (i : Int) < l.length := by omega
   simp [zZf.c, zZf.r0, zZf.r1, zZf.r2, zZf.r3, zZf.r4, zZf.r5, zZf.r6, zZf.r7, zZf.r8, zZf.r9, zZf.r10, zZf.r11, zZf.r17, zZf.b16, zZf.r12, zZf.r14, zZf.r15, k21, k23, k30, hl, vZY, c2, bg]
 obtain ⟨h', hb⟩ := this
 exact zZ4 (h := H) zZf.Φ rfl (args := [eF f, .int .i64 h, .str s, .str q]) rfl hb rfl
end Go.Proofs.It
