/- Scripts read and compared: Parse, SameAll, SameScript. No conditions. -/
import Derived.Test.YtcfgiajpbjbdpaaGreatDoorScZf
set_option maxHeartbeats 16000000
set_option maxRecDepth 100000
set_option linter.unusedVariables false
set_option linter.unusedSimpArgs false
set_option linter.unusedSectionVars false
namespace Go.Proofs.Sc
open Go Go.Ev
theorem scr_fz {H : Heap} {v0 v1 : V} {o0 o1 : Option Nat} {os : List (Option Nat)} {sc : Scr} (d : Nat) (h0 : VL H 12 v0 o0 (sc.cmds.map cC)) (h1 : VP H v1 o1 os sc.progs) (ha : ∀ id, o0 = some id → o1 ≠ some id ∧ some id ∉ os) :
  ∃ H', Go.Ev.fz (d + 4) H (.agg [v0, v1, .int .i64 sc.fuel]) = some (.agg (cS sc), H') := by
 obtain ⟨H1, f1, l1, k1⟩ := h0.fz (d := d + 1)
 obtain ⟨H2, f2, l2, k2⟩ := (h1.mono (H' := H1) fun id hid => k1 id fun e => by
  rcases hid with h | h
  ·exact (ha id e).1 h
  ·exact (ha id e).2 h).fz (d := d)
 refine ⟨H2, ?_⟩
 have e : ∀ (H : Heap) (n : Int), Go.Ev.fz (d + 3) H (.int .i64 n) = some (.int .i64 n, H) := fun _ _ => rfl
 show (mapH (Go.Ev.fz (d + 3)) H [v0, v1, .int .i64 sc.fuel]).map (fun p => (V.agg p.1, p.2)) = _
 simp only [mapH, f1, f2, e, Option.map_some]
abbrev parT (r : Scr × Int × Nat) : V := .tup [.agg (cS r.1), .int .i64 r.2.1, .int .i64 r.2.2]
theorem zYbh (s : Bs) (hz : s.length < 2 ^ 40) (H : Heap) : callW Φ zZ6 [T s] H = some (parT (parseR s), H) := by
 refine xZ5 zZ6.Φ rfl (args := [T s]) rfl ?_
 obtain ⟨P, hP⟩ : ∃ P : V → Heap → Prop, P = fun r h2 => ∃ h3, fz fzDepth h2 r = some (parT (parseR s), h3) := ⟨_, rfl⟩
 suffices hgo : ∃ r h', evBodyW (callW Φ) zZ6.c [T s] [] = some (r, h') ∧ P r h' by rw [hP] at hgo; exact hgo
 have hPz : ∀ r h2 h3, fz fzDepth h2 r = some (parT (parseR s), h3) → P r h2 := fun r h2 h3 hz => by rw [hP]; exact ⟨h3, hz⟩
 have hPn : ∀ r h2, flatN2 r = true → nz2 r = parT (parseR s) → P r h2 := fun r h2 h h1 => hPz r h2 h2 (by rw [← h1]; exact wZl h)
 clear hP
 refine xZ4 (Nat.le_of_ble_eq_true rfl) (fun env he h0 => ?_)
 have g0 := h0 0 (by simp)
 change eget env 0 = T s at g0
 clear h0
 simp [zZ6.c] at he
 have hbd0 : ∀ H, evBuild H z3 [] = some (.agg z3, H) := fun H => rfl
 have hcz : (V.agg z3).cells = z3 := rfl
 have fin : ∀ (H : Heap) (v0 v1 : V) (f w k : Int) (r : Scr) (H3 : Heap), Go.Ev.fz 63 H (.agg [v0, v1, .int .i64 f]) = some (.agg (cS r), H3) → parT (parseR s) = .tup [.agg (cS r), .int .i64 w, .int .i64 k] → P (.tup [.agg [v0, v1, .int .i64 f], .int .i64 w, .int .i64 k]) H := fun H v0 v1 f w k r H3 hf hr => hPz _ _ H3 (by
  rw [hr]
  show (mapH (Go.Ev.fz 63) H [.agg [v0, v1, .int .i64 f], .int .i64 w, .int .i64 k]).map (fun p => (V.tup p.1, p.2)) = _
  have e : ∀ (H : Heap) (n : Int), Go.Ev.fz 63 H (.int .i64 n) = some (.int .i64 n, H) := fun _ _ => rfl
  simp only [mapH, hf, e, Option.map_some])
 have fz0 : ∀ H : Heap, Go.Ev.fz 63 H (.agg z3) = some (.agg (cS {}), H) := fun H => rfl
 by_cases c : 1048576 < s.length
 ·have c1 : (1048576 : Int) < (s.length : Int) := by omega
  have hb := fin [.cells z3] .nils .nils 0 4 0 {} _ (fz0 _) (by unfold parseR; rw [if_pos (show s.length > maxS from c)]; rfl)
  have s1 : evStoreV [.cells z3] 3 (.ptr 0 0) (.agg z3) = some (V.non, [.cells z3]) := rfl
  have c2 : cellsAt [.cells z3] (.ptr 0 0) = some z3 := rfl
  simp [zZ6.c, zZ6.r0, zZ6.r1, zZ6.r2, g0, he, V.isCell, vZm, c, c1, hbd0, s1, c2, ofCells, hb]
 have c1 : ¬ (1048576 : Int) < (s.length : Int) := by omega
 have hpR : parseR s = stp ((lns s).2 == []) (lns s).1 0 0 0 {} := by unfold parseR; rw [if_neg (show ¬ s.length > maxS from c)]
 have hbd1 : ∀ H, evBuild H [.str ⟨#[]⟩, .int .i64 0, .int .i64 0, .int .i64 0] [(0, 1, T s)] = some (.agg (rdC s 0 0 0), H) := fun H => rfl
 have hcr : (V.agg (rdC s 0 0 0)).cells = rdC s 0 0 0 := rfl
 have hbx : evBox [.cells z3] (rdC s 0 0 0) = some (.ptr 1 0, [.cells z3, .cells (rdC s 0 0 0)]) := jZU [.cells z3] _ rfl
 obtain ⟨r, H1, hcall, left', k', many', w, v0, v1, f, rfl, hc0, hc1, hp1, kp1, hres⟩ := zYbe [.cells z3, .cells (rdC s 0 0 0)] 1 s rfl (by omega)
 have h01 : H1[0]? = some (.cells z3) := kp1.at (j := 0) rfl (by omega)
 have hl1 := (List.getElem?_eq_some_iff.1 hp1).1
 have st : evStoreV (H1 ++ [.cells z3]) 3 (.ptr H1.length 0) (.agg [v0, v1, .int .i64 f]) = some (V.non, H1 ++ [.cells [v0, v1, .int .i64 f]]) := by
  have hh : (H1 ++ [Ob.cells z3])[H1.length]? = some (.cells [.nils, .nils, .int .i64 0]) := by simp
  rw [st3 hh f hc0 hc1]
  simp [List.set_append]
 obtain ⟨H2, hH2⟩ : ∃ H2, H2 = H1 ++ [.cells [v0, v1, .int .i64 f]] := ⟨_, rfl⟩
 rw [← hH2] at st
 have hp2 : H2[1]? = some (.cells (rdC left' k' many' w)) := by rw [hH2, List.getElem?_append_left hl1]; exact hp1
 have h02 : H2[0]? = some (.cells z3) := by rw [hH2, List.getElem?_append_left (by omega)]; exact h01
 have hn2 : H2[H1.length]? = some (.cells [v0, v1, .int .i64 f]) := by rw [hH2]; simp
 have c2 := vZ5 hp2
 have cn := vZ5 hn2 0
 rcases hres with ⟨rfl, sc, o0, o1, os, hs, rfl, hv0, hv1, hap⟩ | ⟨hw, hs⟩
 ·have s2 := st3 h02 sc.fuel hc0 hc1
  obtain ⟨H3, hH3⟩ : ∃ H3, H3 = H2.set 0 (.cells [v0, v1, .int .i64 sc.fuel]) := ⟨_, rfl⟩
  rw [← hH3] at s2
  have c3 : cellsAt H3 (.ptr 0 0) = some [v0, v1, .int .i64 sc.fuel] := by rw [hH3]; exact vZ5 (zYaV h02 _) 0
  have n0 := hv0.ne h01 fun _ _ _ _ h => by cases h
  obtain ⟨n1, n2⟩ := hv1.ne h01
  have same : ∀ id, id < H1.length → id ≠ 0 → H3[id]? = H1[id]? := fun id hi hn => by rw [hH3, List.getElem?_set_ne (Ne.symm hn), hH2, List.getElem?_append_left hi]
  obtain ⟨H4, hz4⟩ := scr_fz (H := H3) 59 (hv0.mono fun id hid => same id (hv0.lt hid) fun e => n0 (by rw [hid, e])) (hv1.mono fun id hid => by
   rcases hid with h | h
   ·exact same id (hv1.lt.1 id h) fun e => n1 (by rw [h, e])
   ·exact same id (hv1.lt.2 id h) fun e => n2 (by rw [← e]; exact h)) hap
  have hf := fin H3 v0 v1 sc.fuel 0 0 sc H4 hz4 (by rw [hpR, hs]; rfl)
  simp [zZ6.c, zZ6.r0, zZ6.r1, zZ6.r3, zZ6.r4, zZ6.r5, zZ6.r7, evNilchk, g0, he, V.isCell, vZm, c, c1, hbd1, hcr, hbx, hcall, st, c2, cn, s2, c3, ofCells, hf]
 ·have s2 : evStoreV H2 3 (.ptr 0 0) (.agg z3) = some (V.non, H2.set 0 (.cells z3)) := st3 h02 0 rfl rfl
  obtain ⟨H3, hH3⟩ : ∃ H3, H3 = H2.set 0 (.cells z3) := ⟨_, rfl⟩
  rw [← hH3] at s2
  have c3 : cellsAt H3 (.ptr 0 0) = some z3 := by rw [hH3]; exact vZ5 (zYaV h02 _) 0
  have hp3 : H3[1]? = some (.cells (rdC left' k' many' w)) := by rw [hH3, List.getElem?_set_ne (by omega)]; exact hp2
  have c31 := vZ5 hp3
  have hne : (w != 0) = true := by simpa using hw
  have hf := fin H3 .nils .nils 0 w k' {} _ (fz0 _) (by rw [hpR, hs])
  have go : ∀ env : List V, env.length = 31 → eget env 2 = .ptr 0 0 → eget env 5 = .ptr 1 0 → WK (callW Φ) none (FinX [.cell 2 (some 3), .tmp 3, .tmp 4] P) [It.c (.draw zZ6.r6 [[], [], [1], [2], [3], [], [5], [6], [7], [0, 0], [4, 9, 0, 1, 2, 3, 4, 9], [8, 10, 0, 1, 2, 3, 4, 5, 6, 7, 8, 9, 10]] [0, 1, 2, 3, 5, 6, 7, 10, 11]), It.c .ret, It.c (xS zZ6.r7 .ret)] { env := env, marks := [], heap := H2 } := by
   intro env he k2 k5
   refine kDrawW zZ6.r6.ord ?_
   simp [zZ6.r6, List.filterMap_cons, evNilchk, he, k2, k5, hbd0, c2, c31, s2, c3, ofCells, hf]
   repeat' apply And.intro
   all_goals
    simp only [xZ7, xZ2, List.cons_append, List.nil_append]
    exact xZ6 _ rfl rfl rfl rfl
  simp [zZ6.c, zZ6.r0, zZ6.r1, zZ6.r3, zZ6.r4, zZ6.r5, evNilchk, g0, he, V.isCell, vZm, c, c1, hbd1, hcr, hbx, hcall, st, c2, cn, hne]
  exact go _ (by simp [he]) (by simp [he]) (by simp [he])
def SzA (l : List Cmd) : Prop := l.length ≤ 2 ^ 40 ∧ ∀ c ∈ l, Szc c
theorem zYbd (a b : List Cmd) (za : SzA a) (zb : SzA b) (H : Heap) : callW Φ zZR [.arr (a.map cC), .arr (b.map cC)] H = some (.bool (decide (a = b)), H) := by
 have : ∃ hh, evBodyW (callW Φ) zZR.c [.arr (a.map cC), .arr (b.map cC)] [] = some (.bool (decide (a = b)), hh) := by
  refine wZg (Nat.le_of_ble_eq_true rfl) (fun env he h0 => ?_)
  have g0 := h0 0 (by simp)
  change eget env 0 = .arr (a.map cC) at g0
  have g1 := h0 1 (by simp)
  change eget env 1 = .arr (b.map cC) at g1
  clear h0
  simp [zZR.c] at he
  cases hlen : ((a.length : Int) != b.length)
  ·have hl2 : a.length = b.length := by simp at hlen; omega
   have hll : (a.length : Int) = b.length := by omega
   simp [zZR.c, zZR.r0, zZR.r1, zZR.r3, g0, g1, he, hlen, hll]
   have zl := za.1
   refine kLoop (fun m s => ∃ i : Nat, m = a.length - i ∧ i ≤ a.length ∧ eget s.env 0 = .arr (a.map cC) ∧ eget s.env 1 = .arr (b.map cC) ∧ eget s.env 5 = .int .i64 i ∧ s.env.length = 27 ∧ s.marks = [] ∧ a.take i = b.take i) a.length
    ⟨0, rfl, by omega, by simpa using g0, by simpa using g1, by simp [he], by simpa using he, rfl, rfl⟩ ?_
   rintro m ⟨env, mk, Hh⟩ ⟨i, rfl, hi, k0, k1, k5, hl, hm, hw⟩
   simp only at k0 k1 k5 hl hm
   obtain rfl := hm
   simp only [zZR.b8]
   by_cases c : i < a.length
   ·obtain ⟨x, hx⟩ : ∃ x, a[i]? = some x := ⟨_, List.getElem?_eq_getElem c⟩
    obtain ⟨y, hy⟩ : ∃ y, b[i]? = some y := ⟨_, List.getElem?_eq_getElem (by omega)⟩
    have ia := zYbq (h := Hh) (k := .i64) hx
    have ib := zYbq (h := Hh) (k := .i64) hy
    have wr := wrap64 (n := (i : Int) + 1) (by omega) (by omega)
    have hs := kZo x y (za.2 x (List.mem_of_getElem? hx)) (zb.2 y (List.mem_of_getElem? hy)) Hh
    simp [zZR.r4, k0, k1, k5, hl, c]
    refine kDraw1 zZR.r5.ord ?_
    by_cases hq : x = y
    ·rw [decide_eq_true hq] at hs
     simp [zZR.r5, zZR.r7, k0, k1, k5, hl, ia, ib, ok12, hs, wr]
     exact ⟨a.length - (i + 1), by omega, i + 1, rfl, by omega, by simp, kZr hw hx (by rw [hy, hq])⟩
    ·rw [decide_eq_false hq] at hs
     have hne := ne_at hx hy hq
     simp [zZR.c, zZR.r5, zZR.r6, k0, k1, k5, hl, ia, ib, ok12, hs, hne]
   ·have hab : a = b := by
     rw [List.take_of_length_le (by omega), List.take_of_length_le (by omega)] at hw
     exact hw
    subst hab
    simp [zZR.c, zZR.r4, zZR.r9, k0, k1, k5, hl, c]
  ·have hne : a ≠ b := fun e => by subst e; simp at hlen
   simp [zZR.c, zZR.r0, zZR.r1, zZR.r2, g0, g1, he, hlen, hne]
 obtain ⟨h', hb⟩ := this
 exact qZ7 (h := H) zZR.Φ rfl (args := [.arr (a.map cC), .arr (b.map cC)]) rfl hb rfl
def SzQ (s : Scr) : Prop := SzA s.cmds ∧ s.progs.length ≤ 2 ^ 40 ∧ ∀ p ∈ s.progs, SzA p
theorem zYba (a b : Scr) (za : SzQ a) (zb : SzQ b) (H : Heap) : callW Φ zZx [.agg (cS a), .agg (cS b)] H = some (.bool (decide (a = b)), H) := by
 have : ∃ hh, evBodyW (callW Φ) zZx.c [.agg (cS a), .agg (cS b)] [] = some (.bool (decide (a = b)), hh) := by
  refine wZg (Nat.le_of_ble_eq_true rfl) (fun env he h0 => ?_)
  have g0 := h0 0 (by simp)
  change eget env 0 = .agg (cS a) at g0
  have g1 := h0 1 (by simp)
  change eget env 1 = .agg (cS b) at g1
  clear h0
  simp [zZx.c] at he
  have hcc : ∀ s : Scr, (V.agg (cS s)).cells = cS s := fun s => rfl
  have b0 : evBox [] (cS a) = some (.ptr 0 0, [.cells (cS a)]) := jZU [] _ rfl
  have b1 : evBox [.cells (cS a)] (cS b) = some (.ptr 1 0, [.cells (cS a), .cells (cS b)]) := jZU [.cells (cS a)] _ rfl
  have c0 : ∀ off, cellsAt [.cells (cS a), .cells (cS b)] (.ptr 0 off) = some ((cS a).drop off) := fun off => rfl
  have c1 : ∀ off, cellsAt [.cells (cS a), .cells (cS b)] (.ptr 1 off) = some ((cS b).drop off) := fun off => rfl
  by_cases q1 : (a.fuel != b.fuel) = true
  ·have hne : a ≠ b := fun e => by subst e; simp at q1
   simp [zZx.c, zZx.r0, zZx.r1, zZx.r2, g0, g1, he, hcc, b0, b1, c0, c1, evPick, q1, hne]
  have q1f : (a.fuel != b.fuel) = false := by simpa using q1
  by_cases q2 : ((a.progs.length : Int) != b.progs.length) = true
  ·have hne : a ≠ b := fun e => by subst e; simp at q2
   simp [zZx.c, zZx.r0, zZx.r1, zZx.r2, g0, g1, he, hcc, b0, b1, c0, c1, evPick, q1f, q2, hne]
  have q2f : ((a.progs.length : Int) != b.progs.length) = false := by simpa using q2
  have hll : a.progs.length = b.progs.length := by simp at q2f; omega
  have hs := zYbd a.cmds b.cmds za.1 zb.1
  by_cases q3 : a.cmds = b.cmds
  case neg =>
   have hne : a ≠ b := fun e => q3 (by rw [e])
   rw [decide_eq_false q3] at hs
   simp [zZx.c, zZx.r0, zZx.r1, zZx.r2, g0, g1, he, hcc, b0, b1, c0, c1, evPick, q1f, q2f, hs, hne]
  rw [decide_eq_true q3] at hs
  simp [zZx.c, zZx.r0, zZx.r1, zZx.r3, g0, g1, he, hcc, b0, b1, c0, c1, evPick, q1f, q2f, hs]
  have zl := za.2.1
  refine kLoop (fun m s => ∃ i : Nat, m = a.progs.length - i ∧ i ≤ a.progs.length ∧ eget s.env 2 = .ptr 0 0 ∧ eget s.env 3 = .ptr 1 0 ∧ eget s.env 5 = .int .i64 i ∧ s.env.length = 47 ∧ s.marks = [] ∧ s.heap = [.cells (cS a), .cells (cS b)] ∧ a.progs.take i = b.progs.take i) a.progs.length
   ⟨0, rfl, by omega, by simp [he], by simp [he], by simp [he], by simpa using he, rfl, rfl, rfl⟩ ?_
  rintro m ⟨env, mk, Hh⟩ ⟨i, rfl, hi, k2, k3, k5, hl, hm, hH, hw⟩
  simp only at k2 k3 k5 hl hm hH
  obtain rfl := hm
  obtain rfl := hH
  simp only [zZx.b8]
  by_cases c : i < a.progs.length
  ·obtain ⟨x, hx⟩ : ∃ x, a.progs[i]? = some x := ⟨_, List.getElem?_eq_getElem c⟩
   obtain ⟨y, hy⟩ : ∃ y, b.progs[i]? = some y := ⟨_, List.getElem?_eq_getElem (by omega)⟩
   have ia := fun h => zYbs (h := h) (k := .i64) hx
   have ib := fun h => zYbs (h := h) (k := .i64) hy
   have wr := wrap64 (n := (i : Int) + 1) (by omega) (by omega)
   have hs := zYbd x y (za.2.2 x (List.mem_of_getElem? hx)) (zb.2.2 y (List.mem_of_getElem? hy))
   simp [zZx.r4, k2, k3, k5, hl, c0, c1, c]
   refine kDraw1 zZx.r5.ord ?_
   by_cases hq : x = y
   ·rw [decide_eq_true hq] at hs
    simp [zZx.r5, zZx.r7, k2, k3, k5, hl, c0, c1, ia, ib, hs, wr]
    exact ⟨a.progs.length - (i + 1), by omega, i + 1, rfl, by omega, by simp, kZr hw hx (by rw [hy, hq])⟩
   ·rw [decide_eq_false hq] at hs
    have hne : a ≠ b := fun e => ne_at hx hy hq (by rw [e])
    simp [zZx.c, zZx.r5, zZx.r6, k2, k3, k5, hl, c0, c1, ia, ib, hs, hne]
  ·have hp : a.progs = b.progs := by
    rw [List.take_of_length_le (by omega), List.take_of_length_le (by omega)] at hw
    exact hw
   have hab : a = b := by
    have e1 : a.fuel = b.fuel := by simpa using q1f
    cases a; cases b
    simp only at *
    subst e1 hp q3
    rfl
   simp [zZx.c, zZx.r4, zZx.r9, k2, k3, k5, hl, c0, c1, c]
   exact hab
 obtain ⟨h', hb⟩ := this
 exact qZ7 (h := H) zZx.Φ rfl (args := [.agg (cS a), .agg (cS b)]) rfl hb rfl
end Go.Proofs.Sc
