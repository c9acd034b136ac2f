/- The program's at and kind, of a forest frozen or in the heap. The program's forest: its small functions. No conditions. -/
import Derived.Test.YtaeklgflchhmfaaGreatDoorItN
set_option maxHeartbeats 16000000
set_option maxRecDepth 100000
set_option linter.unusedVariables false
set_option linter.unusedSimpArgs false
set_option linter.unusedSectionVars false
namespace Go.Proofs.It
open Go Go.Ev
structure Shw (H : Heap) (N : V) (n : Nat) : Prop where
 cell : N.isCell = true
 one : N.cells = [N]
 len : ∀ E, evLen (H ++ E) .l N = some (.int .i64 n, H ++ E)
 small : n < 2 ^ 50
structure ShwAt (H : Heap) (N : V) (h : Int) (cs : List V) : Prop where
 at_ : ∃ p, ∀ E, iaddrV (H ++ E) 16 N (.int .i64 (h - 1)) = some p ∧ cellsAt (H ++ E) p = some cs
 len : cs.length = 16
 cells : cs.all V.isCell = true
theorem xZ8 (H : Heap) (f : List Nd) (hl : f.length < 2 ^ 50) : Shw H (.arr (f.map cN)) f.length := ⟨rfl, rfl, fun E => by rw [vZY]; simp, hl⟩
theorem shwAt_frozen (H : Heap) (f : List Nd) {h : Int} (hi : is_ f h = true) : ShwAt H (.arr (f.map cN)) h (cN (at_ f h)) := by
 have hi' : 1 ≤ h ∧ h ≤ f.length := by simpa [is_] using hi
 exact ⟨⟨.iptr (cN (at_ f h)), fun E => ⟨vZy vZ0 (by omega) (at_in hi'.1 hi'.2), rfl⟩⟩, vZ0 _, rfl⟩
theorem store16 {H : Heap} {id : Nat} {cs : List V} (h : H[id]? = some (.cells zN)) (hl : cs.length = 16) (hc : cs.all V.isCell = true) : evStoreV H 16 (.ptr id 0) (.agg cs) = some (V.non, H.set id (.cells cs)) := by
 have h1 : (V.agg cs).cells = cs := rfl
 have h2 : setRange zN 0 cs = some cs := by
  unfold setRange
  rw [if_pos (by rw [hl]; decide), Nat.zero_add, List.drop_eq_nil_of_le (by rw [hl]; decide)]
  simp
 simp only [evStoreV, h1, hl, hc, and_self, if_true, evStore, h, h2, qZW]
theorem ok16 {H : Heap} {cs : List V} (hl : cs.length = 16) : okCells H (some 16) (some cs) = some (.agg cs, H) := by
 have : 16 ≤ cs.length := by omega
 rw [xZg this, List.take_of_length_le (by omega)]
theorem of16 {cs : List V} (hl : cs.length = 16) : ofCells (some 16) cs = some (.agg cs) := by
 have : List.take 16 cs = cs := List.take_of_length_le (by omega)
 simp [ofCells, hl, fS_eq, this]
theorem forest_at_run {N : V} {n : Nat} {H : Heap} (s : Shw H N n) {h : Int} (h1 : 1 ≤ h) (h2 : h ≤ n) {cs : List V} (a : ShwAt H N h cs) :
  callW Φ qZb [.agg [N], .int .i64 h] H = some (.tup [.agg cs, .bool true], H ++ [.cells [N], .cells cs]) := by
 obtain ⟨P, hP⟩ : ∃ P : V → Heap → Prop, P = fun r h' => r = .tup [.agg cs, .bool true] ∧ h' = H ++ [.cells [N], .cells cs] := ⟨_, rfl⟩
 suffices hgo : ∃ r h', callW Φ qZb [.agg [N], .int .i64 h] H = some (r, h') ∧ P r h' by
  obtain ⟨r, h', h1, h2⟩ := hgo
  rw [hP] at h2
  obtain ⟨rfl, rfl⟩ := h2
  exact h1
 have hfin : P (.tup [.agg cs, .bool true]) (H ++ [.cells [N], .cells cs]) := by rw [hP]; exact ⟨rfl, rfl⟩
 obtain ⟨K0, hK0⟩ : ∃ K0 : Heap, K0 = H ++ [.cells [N]] := ⟨_, rfl⟩
 obtain ⟨K1, hK1⟩ : ∃ K1 : Heap, K1 = H ++ [.cells [N], .cells zN] := ⟨_, rfl⟩
 obtain ⟨K2, hK2⟩ : ∃ K2 : Heap, K2 = H ++ [.cells [N], .cells cs] := ⟨_, rfl⟩
 rw [← hK2] at hfin
 have hb : evBox H [N] = some (.ptr H.length 0, K0) := by rw [hK0]; simp [evBox, s.cell, qZ4]
 have hcc : (V.agg [N]).cells = [N] := rfl
 have l0 : K0.length = H.length + 1 := by rw [hK0]; simp
 have e1 : K0 ++ [.cells zN] = K1 := by rw [hK0, hK1]; simp
 have e1' : K0 ++ [.cells [.int .u8 0, .str ⟨#[]⟩, .str ⟨#[]⟩, .str ⟨#[]⟩, .str ⟨#[]⟩, .str ⟨#[]⟩, .nils, .nils, .int .i64 0, .nils, .int .i64 0, .int .i64 0, .int .i64 0, .int .u8 0, .bool false, .bool false]] = K1 := e1
 have c1 : cellsAt K1 (.ptr H.length 0) = some [N] := by rw [hK1]; simp [cellsAt]
 have okn : ∀ H, okCells H none (some [N]) = some (N, H) := fun _ => rfl
 have ln : evLen K1 .l N = some (.int .i64 n, K1) := by rw [hK1]; exact s.len _
 obtain ⟨p, hp⟩ := a.at_
 have ia : iaddrV K1 16 N (.int .i64 (h - 1)) = some p := by rw [hK1]; exact (hp _).1
 have ca : cellsAt K1 p = some cs := by rw [hK1]; exact (hp _).2
 have st : evStoreV K1 16 (.ptr (H.length + 1) 0) (.agg cs) = some (V.non, K2) := by
  rw [store16 (id := H.length + 1) (by rw [hK1]; simp) a.len a.cells, hK1, hK2]
  simp [List.set_append]
 have c2 : cellsAt K2 (.ptr (H.length + 1) 0) = some cs := by rw [hK2]; simp [cellsAt]
 have hw : IntKind.i64.wrap (h - 1) = h - 1 := by have := s.small; rw [Ev.wrap64] <;> omega
 have t1 : ¬ h < 1 := by omega
 have t2 : ¬ (n : Int) < h := by omega
 refine call_x qZb.Φ rfl (Nat.le_of_ble_eq_true rfl) (fun env he g => ?_)
 have g0 := g 0 (by simp)
 have g1 := g 1 (by simp)
 change eget env 0 = .agg [N] at g0
 change eget env 1 = .int .i64 h at g1
 clear g
 simp [qZb.c] at he
 simp [qZb.c, qZb.r0, qZb.r1, qZb.r2, qZb.r3, g0, g1, he, hcc, hb, l0, e1', c1, okn, ln, t1, t2, evPick, hw, ia, ca, ok16 a.len, st, c2, of16 a.len, hfin]
theorem forest_at_no {N : V} {n : Nat} {H : Heap} (s : Shw H N n) {h : Int} (hh : h < 1 ∨ (n : Int) < h) :
  callW Φ qZb [.agg [N], .int .i64 h] H = some (.tup [.agg zN, .bool false], H ++ [.cells [N], .cells zN]) := by
 obtain ⟨P, hP⟩ : ∃ P : V → Heap → Prop, P = fun r h' => r = .tup [.agg zN, .bool false] ∧ h' = H ++ [.cells [N], .cells zN] := ⟨_, rfl⟩
 suffices hgo : ∃ r h', callW Φ qZb [.agg [N], .int .i64 h] H = some (r, h') ∧ P r h' by
  obtain ⟨r, h', h1, h2⟩ := hgo
  rw [hP] at h2
  obtain ⟨rfl, rfl⟩ := h2
  exact h1
 have hfin : P (.tup [.agg zN, .bool false]) (H ++ [.cells [N], .cells zN]) := by rw [hP]; exact ⟨rfl, rfl⟩
 obtain ⟨K0, hK0⟩ : ∃ K0 : Heap, K0 = H ++ [.cells [N]] := ⟨_, rfl⟩
 obtain ⟨K1, hK1⟩ : ∃ K1 : Heap, K1 = H ++ [.cells [N], .cells zN] := ⟨_, rfl⟩
 rw [← hK1] at hfin
 have hb : evBox H [N] = some (.ptr H.length 0, K0) := by rw [hK0]; simp [evBox, s.cell, qZ4]
 have hcc : (V.agg [N]).cells = [N] := rfl
 have l0 : K0.length = H.length + 1 := by rw [hK0]; simp
 have e1' : K0 ++ [.cells [.int .u8 0, .str ⟨#[]⟩, .str ⟨#[]⟩, .str ⟨#[]⟩, .str ⟨#[]⟩, .str ⟨#[]⟩, .nils, .nils, .int .i64 0, .nils, .int .i64 0, .int .i64 0, .int .i64 0, .int .u8 0, .bool false, .bool false]] = K1 := by rw [hK0, hK1]; simp [zN]
 have c1 : cellsAt K1 (.ptr H.length 0) = some [N] := by rw [hK1]; simp [cellsAt]
 have okn : ∀ H, okCells H none (some [N]) = some (N, H) := fun _ => rfl
 have ln : evLen K1 .l N = some (.int .i64 n, K1) := by rw [hK1]; exact s.len _
 have bn : evBuild K1 [.int .u8 0, .str ⟨#[]⟩, .str ⟨#[]⟩, .str ⟨#[]⟩, .str ⟨#[]⟩, .str ⟨#[]⟩, .nils, .nils, .int .i64 0, .nils, .int .i64 0, .int .i64 0, .int .i64 0, .int .u8 0, .bool false, .bool false] [] = some (.agg zN, K1) := by simp [evBuild, placeParts, zN]
 have st : evStoreV K1 16 (.ptr (H.length + 1) 0) (.agg zN) = some (V.non, K1) := by
  rw [store16 (id := H.length + 1) (by rw [hK1]; simp) rfl rfl, hK1]
  simp [List.set_append]
 have c2 : cellsAt K1 (.ptr (H.length + 1) 0) = some zN := by rw [hK1]; simp [cellsAt]
 have oz : ofCells (some 16) zN = some (.agg zN) := rfl
 refine call_x qZb.Φ rfl (Nat.le_of_ble_eq_true rfl) (fun env he g => ?_)
 have g0 := g 0 (by simp)
 have g1 := g 1 (by simp)
 change eget env 0 = .agg [N] at g0
 change eget env 1 = .int .i64 h at g1
 clear g
 simp [qZb.c] at he
 by_cases t1 : h < 1
 ·simp [qZb.c, qZb.r0, qZb.r1, qZb.r2, qZb.r3, g0, g1, he, hcc, hb, l0, e1', c1, okn, ln, t1, evPick, bn, st, c2, oz, hfin]
 ·have t2 : (n : Int) < h := by omega
  simp [qZb.c, qZb.r0, qZb.r1, qZb.r2, qZb.r3, g0, g1, he, hcc, hb, l0, e1', c1, okn, ln, t1, t2, evPick, bn, st, c2, oz, hfin]
theorem call_same {Φ : Nat → Option Cf} {v : V} {args : List V} {H : Heap} {r : V} {h' : Heap} {r2 : V} {h2 : Heap} (h : callW Φ v args H = some (r, h')) (e : r = r2) (e2 : h' = h2) : callW Φ v args H = some (r2, h2) := by rw [h, e, e2]
theorem at_any {N : V} {n : Nat} {H : Heap} (s : Shw H N n) (h : Int) {cs : List V} {b : Bool} (a : (b = true ∧ 1 ≤ h ∧ h ≤ n ∧ ShwAt H N h cs) ∨ (b = false ∧ (h < 1 ∨ (n : Int) < h) ∧ cs = zN)) :
  callW Φ qZb [.agg [N], .int .i64 h] H = some (.tup [.agg cs, .bool b], H ++ [.cells [N], .cells cs]) := by
 rcases a with ⟨rfl, h1, h2, a⟩ | ⟨rfl, hh, rfl⟩
 ·exact forest_at_run s h1 h2 a
 ·exact forest_at_no s hh
theorem Shw.push {H : Heap} {N : V} {n : Nat} (s : Shw H N n) (E : Heap) : Shw (H ++ E) N n := ⟨s.cell, s.one, fun F => by rw [List.append_assoc]; exact s.len _, s.small⟩
theorem ShwAt.push {H : Heap} {N : V} {h : Int} {cs : List V} (a : ShwAt H N h cs) (E : Heap) : ShwAt (H ++ E) N h cs := by
 obtain ⟨p, hp⟩ := a.at_
 exact ⟨⟨p, fun F => by rw [List.append_assoc]; exact hp _⟩, a.len, a.cells⟩
def AtIs (H : Heap) (N : V) (n : Nat) (h : Int) (cs : List V) (b : Bool) : Prop := (b = true ∧ 1 ≤ h ∧ h ≤ n ∧ ShwAt H N h cs) ∨ (b = false ∧ (h < 1 ∨ (n : Int) < h) ∧ cs = zN)
theorem AtIs.push {H : Heap} {N : V} {n : Nat} {h : Int} {cs : List V} {b : Bool} (a : AtIs H N n h cs b) (E : Heap) : AtIs (H ++ E) N n h cs b := by
 rcases a with ⟨h1, h2, h3, a⟩ | a
 ·exact .inl ⟨h1, h2, h3, a.push E⟩
 ·exact .inr a
theorem AtIs.ok {H : Heap} {N : V} {n : Nat} {h : Int} {cs : List V} {b : Bool} (a : AtIs H N n h cs b) : cs.length = 16 ∧ cs.all V.isCell = true := by
 rcases a with ⟨_, _, _, a⟩ | ⟨_, _, rfl⟩
 ·exact ⟨a.len, a.cells⟩
 ·exact ⟨rfl, rfl⟩
theorem kZ7 {N : V} {n : Nat} {H : Heap} (s : Shw H N n) (h : Int) {cs : List V} {b : Bool} (a : AtIs H N n h cs b) {k : Int} (hk : ∀ H, okCells H none (some cs) = some (.int .u8 k, H)) :
  callW Φ qZz [.agg [N], .int .i64 h] H = some (.int .u8 k, H ++ [.cells [N], .cells [N], .cells cs, .cells cs]) := by
 obtain ⟨P, hP⟩ : ∃ P : V → Heap → Prop, P = fun r h' => r = .int .u8 k ∧ h' = H ++ [.cells [N], .cells [N], .cells cs, .cells cs] := ⟨_, rfl⟩
 suffices hgo : ∃ r h', callW Φ qZz [.agg [N], .int .i64 h] H = some (r, h') ∧ P r h' by
  obtain ⟨r, h', h1, h2⟩ := hgo
  rw [hP] at h2
  obtain ⟨rfl, rfl⟩ := h2
  exact h1
 have hfin : P (.int .u8 k) (H ++ [.cells [N], .cells [N], .cells cs, .cells cs]) := by rw [hP]; exact ⟨rfl, rfl⟩
 obtain ⟨K0, hK0⟩ : ∃ K0 : Heap, K0 = H ++ [.cells [N]] := ⟨_, rfl⟩
 obtain ⟨K1, hK1⟩ : ∃ K1 : Heap, K1 = H ++ [.cells [N], .cells [N], .cells cs] := ⟨_, rfl⟩
 obtain ⟨K2, hK2⟩ : ∃ K2 : Heap, K2 = H ++ [.cells [N], .cells [N], .cells cs, .cells zN] := ⟨_, rfl⟩
 obtain ⟨K3, hK3⟩ : ∃ K3 : Heap, K3 = H ++ [.cells [N], .cells [N], .cells cs, .cells cs] := ⟨_, rfl⟩
 rw [← hK3] at hfin
 have hb : evBox H [N] = some (.ptr H.length 0, K0) := by rw [hK0]; simp [evBox, s.cell, qZ4]
 have hcc : (V.agg [N]).cells = [N] := rfl
 have c0 : cellsAt K0 (.ptr H.length 0) = some [N] := by rw [hK0]; simp [cellsAt]
 have hA : callW Φ qZb [.agg [N], .int .i64 h] K0 = some (.tup [.agg cs, .bool b], K1) := by
  have := at_any (s.push [.cells [N]]) h (a.push [.cells [N]])
  rw [hK0, this, hK1]
  simp
 have l1 : K1.length = H.length + 3 := by rw [hK1]; simp
 have e2 : K1 ++ [.cells [.int .u8 0, .str ⟨#[]⟩, .str ⟨#[]⟩, .str ⟨#[]⟩, .str ⟨#[]⟩, .str ⟨#[]⟩, .nils, .nils, .int .i64 0, .nils, .int .i64 0, .int .i64 0, .int .i64 0, .int .u8 0, .bool false, .bool false]] = K2 := by rw [hK1, hK2]; simp [zN]
 have st : evStoreV K2 16 (.ptr (H.length + 3) 0) (.agg cs) = some (V.non, K3) := by
  rw [store16 (id := H.length + 3) (by rw [hK2]; simp) a.ok.1 a.ok.2, hK2, hK3]
  simp [List.set_append]
 have c3 : cellsAt K3 (.ptr (H.length + 3) 0) = some cs := by rw [hK3]; simp [cellsAt]
 have ok1 : ∀ H, okCells H (some 1) (some [N]) = some (.agg [N], H) := fun _ => rfl
 refine call_x qZz.Φ rfl (Nat.le_of_ble_eq_true rfl) (fun env he g => ?_)
 have g0 := g 0 (by simp)
 have g1 := g 1 (by simp)
 change eget env 0 = .agg [N] at g0
 change eget env 1 = .int .i64 h at g1
 clear g
 simp [qZz.c] at he
 simp [qZz.c, qZz.r0, qZz.r1, qZz.r2, g0, g1, he, hcc, hb, c0, ok1, hA, evExt, l1, e2, st, c3, hk, hfin]
open Go Go.Ev
theorem is_iffB {f : List Nd} {h : Int} : is_ f h = true ↔ 1 ≤ h ∧ h ≤ f.length := by simp [is_]
def cAt (f : List Nd) (h : Int) : List V := if is_ f h then cN (at_ f h) else zN
theorem vZj (H : Heap) (f : List Nd) (h : Int) : AtIs H (.arr (f.map cN)) f.length h (cAt f h) (is_ f h) := by
 cases hi : is_ f h with
 | true =>
  have := is_iffB.1 hi
  exact .inl ⟨rfl, this.1, this.2, by simp only [cAt, hi, if_true]; exact shwAt_frozen H f hi⟩
 | false =>
  refine .inr ⟨rfl, ?_, by simp [cAt, hi]⟩
  have : ¬ (1 ≤ h ∧ h ≤ f.length) := fun q => by rw [is_iffB.2 q] at hi; cases hi
  omega
theorem cAt0 (f : List Nd) (h : Int) (H : Heap) : okCells H none (some (cAt f h)) = some (.int .u8 (kindOf f h), H) := by
 unfold cAt
 cases hi : is_ f h with
 | true => rfl
 | false =>
  have : ¬ (1 ≤ h ∧ h ≤ f.length) := fun q => by rw [is_iffB.2 q] at hi; cases hi
  have e : at_ f h = noNd := at_out (by omega)
  simp only [kindOf, e]
  rfl
theorem wZj (f : List Nd) (h : Int) (hl : f.length < 2 ^ 50) (H : Heap) : callW Φ qZb [eF f, .int .i64 h] H = some (.tup [.agg (cAt f h), .bool (is_ f h)], H ++ [.cells [.arr (f.map cN)], .cells (cAt f h)]) :=
 at_any (xZ8 H f hl) h (vZj H f h)
theorem jZd (f : List Nd) (h : Int) (hl : f.length < 2 ^ 50) (H : Heap) : ∃ E, callW Φ qZz [eF f, .int .i64 h] H = some (.int .u8 (kindOf f h), H ++ E) :=
 ⟨_, kZ7 (xZ8 H f hl) h (vZj H f h) (cAt0 f h)⟩
theorem kept {H : Heap} {i : Nat} {o : Ob} (h : H[i]? = some o) (E : Heap) : (H ++ E)[i]? = some o := by rw [List.getElem?_append_left (List.getElem?_eq_some_iff.1 h).1]; exact h
theorem jZ5 (n : Nd) (H : Heap) : callW Φ qZh [eN n] H = some (.int .i64 (above n), H) := by
 have : ∃ hh, evBodyW (callW Φ) qZh.c [eN n] [] = some (.int .i64 (above n), hh) := by
  refine qZ3 (Nat.le_of_ble_eq_true rfl) (fun env he h0 => ?_)
  have g0 := h0 0 (by simp)
  change eget env 0 = .agg (cN n) at g0
  clear h0
  simp [qZh.c] at he
  cases hk : (n.kind == 12) <;> simp [qZh.c, qZh.r0, qZh.r1, qZh.r2, qZh.r3, g0, he, V.cells, cellsN, cellsAt, hk, above]
 obtain ⟨h', hb⟩ := this
 exact zZ4 (h := H) qZh.Φ rfl (args := [eN n]) rfl hb rfl
theorem kZw (l : List Int) (h : Int) (hlen : l.length < 2 ^ 50) (H : Heap) : callW Φ zZH [eI l, .int .i64 h] H = some (.bool (cnt l h == 1), H) := by
 have : ∃ hh, evBodyW (callW Φ) zZH.c [eI l, .int .i64 h] [] = some (.bool (cnt l h == 1), hh) := by
  refine qZ3 (Nat.le_of_ble_eq_true rfl) (fun env he h0 => ?_)
  have g0 := h0 0 (by simp)
  have g1 := h0 1 (by simp)
  change eget env 0 = eI l at g0
  change eget env 1 = .int .i64 h at g1
  clear h0
  simp [zZH.c] at he
  simp [zZH.c, zZH.r0, zZH.r1, zZH.r2, g0, he, eI]
  refine kLoop (fun m s => ∃ i c : Nat, m = l.length - i ∧ i ≤ l.length ∧ c ≤ i ∧ s.env.length = 22 ∧ eget s.env 8 = eI l ∧ eget s.env 1 = .int .i64 h ∧ eget s.env 9 = .int .i64 l.length ∧ eget s.env 10 = .int .i64 i ∧ eget s.env 5 = .int .i64 c ∧ s.marks = [] ∧ s.heap = [] ∧ cnt l h = c + cnt (l.drop i) h) l.length ⟨0, 0, by simp [g0, g1, he, eI]⟩ ?_
  rintro m ⟨e, mk, hp⟩ ⟨i, c, rfl, hi, hc, he, k8, k1, k9, k10, k5, hm, hh, hpl⟩
  simp only at he k8 k1 k9 k10 k5 hm hh
  subst hm hh
  by_cases hlt : i < l.length
  ·obtain ⟨x, hx⟩ : ∃ x, l[i]? = some x := ⟨l[i], by simp [hlt]⟩
   have hw : IntKind.i64.wrap ((i : Int) + 1) = ((i + 1 : Nat) : Int) := by rw [Ev.wrap64] <;> omega
   have hw2 : IntKind.i64.wrap ((c : Int) + 1) = ((c + 1 : Nat) : Int) := by rw [Ev.wrap64] <;> omega
   rw [vZI hx] at hpl
   by_cases e : x = h
   ·simp [zZH.b8, zZH.r3, zZH.r4, zZH.r5, zZH.r6, zZH.r7, k8, k1, k9, k10, k5, he, eI, hlt, qZU wZS hx, e, cellI]
    exact ⟨l.length - (i + 1), by omega, i + 1, rfl, by omega, c + 1, by omega, by simpa using hw, by simpa using hw2, by simp [cnt, e] at hpl; omega⟩
   ·have eb : (x == h) = false := by simpa using e
    simp [zZH.b8, zZH.r3, zZH.r4, zZH.r5, zZH.r6, zZH.r7, k8, k1, k9, k10, k5, he, eI, hlt, qZU wZS hx, eb, cellI]
    exact ⟨l.length - (i + 1), by omega, i + 1, rfl, by omega, c, by omega, by simpa using hw, rfl, by simp [cnt, e] at hpl; omega⟩
  ·have : i = l.length := by omega
   subst this
   have hc' : cnt l h = c := by simpa [cnt] using hpl
   have hb1 : (((c : Nat) : Int) == 1) = (c == 1) := by rw [Bool.eq_iff_iff]; simp; omega
   rw [hc']
   simp [zZH.b8, zZH.r3, zZH.r9, k8, k1, k9, k10, k5, he, eI, hb1]
 obtain ⟨h', hb⟩ := this
 exact zZ4 (h := H) zZH.Φ rfl (args := [eI l, .int .i64 h]) rfl hb rfl
def cSt (s : ByteArray) : List V := [.str s]
theorem cSt_len (s : ByteArray) : (cSt s).length = 1 := rfl
def shortB (l : List ByteArray) : Bool := l.all fun s => decide (s.size ≤ 1024)
theorem cellSt (H : Heap) (s : ByteArray) : okCells H none (some (cSt s)) = some (.str s, H) := rfl
theorem jZ9 (l : List ByteArray) (hlen : l.length < 2 ^ 50) (H : Heap) : callW Φ zZG [.arr (l.map cSt)] H = some (.bool (shortB l), H) := by
 have : ∃ hh, evBodyW (callW Φ) zZG.c [.arr (l.map cSt)] [] = some (.bool (shortB l), hh) := by
  refine qZ3 (Nat.le_of_ble_eq_true rfl) (fun env he h0 => ?_)
  have g0 := h0 0 (by simp)
  change eget env 0 = .arr (l.map cSt) at g0
  clear h0
  simp [zZG.c] at he
  simp [zZG.c, zZG.r0, zZG.r1, g0, he]
  refine kLoop (fun m s => ∃ i : Nat, m = l.length - i ∧ i ≤ l.length ∧ s.env.length = 15 ∧ eget s.env 5 = .arr (l.map cSt) ∧ eget s.env 6 = .int .i64 l.length ∧ eget s.env 7 = .int .i64 i ∧ s.marks = [] ∧ shortB l = shortB (l.drop i)) l.length ⟨0, by simp [he]⟩ ?_
  rintro m ⟨e, mk, hp⟩ ⟨i, rfl, hi, he, k5, k6, k7, hm, hpl⟩
  simp only at he k5 k6 k7 hm
  subst hm
  by_cases hlt : i < l.length
  ·obtain ⟨x, hx⟩ : ∃ x, l[i]? = some x := ⟨l[i], by simp [hlt]⟩
   have hw : IntKind.i64.wrap ((i : Int) + 1) = ((i + 1 : Nat) : Int) := by rw [Ev.wrap64] <;> omega
   have hdx : l.drop i = x :: l.drop (i + 1) := by
    obtain ⟨hi', rfl⟩ := List.getElem?_eq_some_iff.1 hx
    exact List.drop_eq_getElem_cons hi'
   rw [hdx] at hpl
   simp only [shortB, List.all_cons] at hpl
   have ha := qZU (h := hp) (k := .i64) cSt_len hx
   by_cases hs : x.size ≤ 1024
   ·have hs' : ¬ (1024 : Int) < (x.size : Int) := by omega
    simp only [hs, decide_true, Bool.true_and] at hpl
    simp [zZG.b7, zZG.r2, zZG.r3, zZG.r4, zZG.r6, k5, k6, k7, he, hlt, ha, cellSt, hs']
    exact ⟨l.length - (i + 1), by omega, i + 1, rfl, by omega, by simpa using hw, hpl⟩
   ·have hs' : (1024 : Int) < (x.size : Int) := by omega
    simp only [hs, decide_false, Bool.false_and] at hpl
    have hz : shortB l = false := hpl
    rw [hz]
    simp [zZG.b7, zZG.r2, zZG.r3, zZG.r4, zZG.r5, k5, k6, k7, he, hlt, ha, cellSt, hs']
  ·have : i = l.length := by omega
   subst this
   have hz : shortB l = true := by rw [hpl, List.drop_length]; rfl
   rw [hz]
   simp [zZG.b7, zZG.r2, zZG.r8, k6, k7, he]
 obtain ⟨h', hb⟩ := this
 exact zZ4 (h := H) zZG.Φ rfl (args := [.arr (l.map cSt)]) rfl hb rfl
theorem vZX (l : List ByteArray) (hlen : l.length < 2 ^ 50) (H : Heap) : callW Φ zZG [.sl H.length 0 0 l.length] (H ++ [Ob.row 1 (l.map cSt) 0 true]) = some (.bool (shortB l), H ++ [Ob.row 1 (l.map cSt) 0 false]) := by
 have hr : (H ++ [Ob.row 1 (l.map cSt) 0 true])[H.length]? = some (.row 1 (l.map cSt) 0 true) := by simp
 have hz := fz_sl (d := 62) (off := 0) (len := l.length) hr (by simp) (fun e he => by
  obtain ⟨s, _, rfl⟩ := List.mem_map.1 he
  rfl)
 have e1 : ((l.map cSt).drop 0).take l.length = l.map cSt := by rw [List.drop_zero]; exact List.take_of_length_le (by simp)
 have e2 : (H ++ [Ob.row 1 (l.map cSt) 0 true]).set H.length (Ob.row 1 (l.map cSt) 0 false) = H ++ [Ob.row 1 (l.map cSt) 0 false] := by simp [List.set_append]
 rw [e1, e2] at hz
 have hm : mapH (fz fzDepth) (H ++ [Ob.row 1 (l.map cSt) 0 true]) [.sl H.length 0 0 l.length] = some ([.arr (l.map cSt)], H ++ [Ob.row 1 (l.map cSt) 0 false]) := by
  have hz' : fz fzDepth (H ++ [Ob.row 1 (l.map cSt) 0 true]) (.sl H.length 0 0 l.length) = some (.arr (l.map cSt), H ++ [Ob.row 1 (l.map cSt) 0 false]) := hz
  simp only [mapH, hz']
 exact jZV (Φ := Φ) zZG.Φ rfl (by simp [flat2, flat, scal]) hm (jZ9 l hlen [])
end Go.Proofs.It
