/- Scripts there and back as texts: plain scripts. Scripts there and back as texts: the law's walk. No conditions. -/
import Derived.Test.YtcfgiajpbjbdpaaGreatDoorScZh
import Derived.Test.YtcfgiajpbjbdpaaGreatDoorScZb
set_option maxHeartbeats 16000000
set_option maxRecDepth 100000
set_option linter.unusedVariables false
set_option linter.unusedSimpArgs false
set_option linter.unusedSectionVars false
namespace Go.Proofs.Sc
open Go Go.Ev
theorem map_take {α β : Type} (g : α → β) (l : List α) {i : Nat} {x : α} (h : l[i]? = some x) : (l.take (i + 1)).map g = (l.take i).map g ++ [g x] := by rw [List.take_add_one, h]; simp
theorem zYbz (s : Scr) (z : SzS s) (H : Heap) : callW Φ zZC [.agg (cS s)] H = some (.agg (cS (plainS s)), H) := by
 refine xZ5 zZC.Φ rfl (args := [.agg (cS s)]) rfl ?_
 obtain ⟨P, hP⟩ : ∃ P : V → Heap → Prop, P = fun r h2 => ∃ h3, fz fzDepth h2 r = some (.agg (cS (plainS s)), h3) := ⟨_, rfl⟩
 suffices hgo : ∃ r h', evBodyW (callW Φ) zZC.c [.agg (cS s)] [] = some (r, h') ∧ P r h' by rw [hP] at hgo; exact hgo
 have hPz : ∀ r h2 h3, fz fzDepth h2 r = some (.agg (cS (plainS s)), h3) → P r h2 := fun r h2 h3 hz => by rw [hP]; exact ⟨h3, hz⟩
 have hPn : ∀ r h2, flatN2 r = true → nz2 r = .agg (cS (plainS s)) → P r h2 := fun r h2 h h1 => hPz r h2 h2 (by rw [← h1]; exact wZl h)
 clear hP
 refine xZ4 (Nat.le_of_ble_eq_true rfl) (fun env he h0 => ?_)
 have g0 := h0 0 (by simp)
 change eget env 0 = .agg (cS s) at g0
 clear h0
 simp [zZC.c] at he
 have hcc : (V.agg (cS s)).cells = cS s := rfl
 have b0 : evBox [] (cS s) = some (.ptr 0 0, [.cells (cS s)]) := jZU [] _ rfl
 have c0 : ∀ (X : Heap) off, cellsAt (.cells (cS s) :: X) (.ptr 0 off) = some ((cS s).drop off) := fun X off => rfl
 have hbd : ∀ H, evBuild H z3 [(2, 1, .int .i64 s.fuel)] = some (.agg [.nils, .nils, .int .i64 s.fuel], H) := fun H => rfl
 have s0 : evStoreV [.cells (cS s), .cells z3, .cells z3] 3 (.ptr 2 0) (.agg [.nils, .nils, .int .i64 s.fuel]) = some (V.non, [.cells (cS s), .cells z3, .cells [.nils, .nils, .int .i64 s.fuel]]) := st3 (H := [.cells (cS s), .cells z3, .cells z3]) (q := 2) rfl s.fuel rfl rfl
 have zc := z.1
 have zn := z.2.2
 have zcl : s.cmds.length ≤ 1048576 := by unfold count at zn; omega
 have fin : ∀ (Hh : Heap) (env : List V) (v0 v1 : V) (o0 o1 : Option Nat) (os : List (Option Nat)), env.length = 65 → eget env 2 = .ptr 1 0 → eget env 3 = .ptr 2 0 → Hh[1]? = some (.cells z3) → Hh[2]? = some (.cells [v0, v1, .int .i64 s.fuel]) → VL Hh 12 v0 o0 ((s.cmds.map plain).map cC) → VP Hh v1 o1 os (s.progs.map fun p => p.map plain) → (∀ id, o0 = some id → o1 ≠ some id ∧ some id ∉ os) →
   WK (callW Φ) none (FinX [.cell 2 (some 3)] P) [It.c (.region zZC.r18), It.c .ret] { env := env, marks := [], heap := Hh } := by
  intro Hh env v0 v1 o0 o1 os he k2 k3 h1 h2 hv0 hv1 hap
  have cc2 := vZ5 h2 0
  have s1 := st3 h1 s.fuel hv0.cell.1 hv1.cell.1
  obtain ⟨H3, hH3⟩ : ∃ H3, H3 = Hh.set 1 (.cells [v0, v1, .int .i64 s.fuel]) := ⟨_, rfl⟩
  rw [← hH3] at s1
  have c3 : cellsAt H3 (.ptr 1 0) = some [v0, v1, .int .i64 s.fuel] := by rw [hH3]; exact vZ5 (zYaV h1 _) 0
  have n0 := hv0.ne h1 fun _ _ _ _ h => by cases h
  obtain ⟨n1, n2⟩ := hv1.ne h1
  have same : ∀ id, id ≠ 1 → H3[id]? = Hh[id]? := fun id hn => by rw [hH3, List.getElem?_set_ne (Ne.symm hn)]
  obtain ⟨H4, hz4⟩ := scr_fz (H := H3) (sc := plainS s) 60 (hv0.mono fun id hid => same id fun e => n0 (by rw [hid, e])) (hv1.mono fun id hid => by
   rcases hid with h | h
   ·exact same id fun e => n1 (by rw [h, e])
   ·exact same id fun e => n2 (by rw [← e]; exact h)) hap
  have hf := hPz _ _ _ hz4
  have hfu : (plainS s).fuel = s.fuel := rfl
  rw [hfu] at hf
  simp [zZC.c, zZC.r18, k2, k3, he, cc2, s1, c3, ofCells, hf]
 have second : ∀ (Hh : Heap) (env : List V) (v0 : V) (o0 : Option Nat), env.length = 65 → eget env 1 = .ptr 0 0 → eget env 2 = .ptr 1 0 → eget env 3 = .ptr 2 0 → eget env 5 = .int .i64 0 → Hh[0]? = some (.cells (cS s)) → Hh[1]? = some (.cells z3) → Hh[2]? = some (.cells [v0, .nils, .int .i64 s.fuel]) → VL Hh 12 v0 o0 ((s.cmds.map plain).map cC) →
   WK (callW Φ) none (FinX [.cell 2 (some 3)] P) [It.c (.loop zZC.b17), It.b 2, It.c (xS zZC.r18 .ret)] { env := env, marks := [], heap := Hh } := by
  intro Hh env v0 o0 he k1 k2 k3 k5 h0 h1 h2 hv0
  obtain ⟨J, hJ⟩ : ∃ J : Nat → St → Prop, J = fun m st => ∃ (i : Nat) (v1 : V) (o1 : Option Nat) (os : List (Option Nat)), m = s.progs.length - i ∧ i ≤ s.progs.length ∧ (eget st.env 1 = .ptr 0 0 ∧ eget st.env 2 = .ptr 1 0 ∧ eget st.env 3 = .ptr 2 0 ∧ eget st.env 5 = .int .i64 i ∧ st.env.length = 65) ∧ st.marks = [] ∧ (st.heap[0]? = some (.cells (cS s)) ∧ st.heap[1]? = some (.cells z3) ∧ st.heap[2]? = some (.cells [v0, v1, .int .i64 s.fuel])) ∧ VL st.heap 12 v0 o0 ((s.cmds.map plain).map cC) ∧ VP st.heap v1 o1 os ((s.progs.take i).map fun p => p.map plain) ∧ ∀ id, o0 = some id → o1 ≠ some id ∧ some id ∉ os := ⟨_, rfl⟩
  refine kLoop J s.progs.length (by rw [hJ]; exact ⟨0, .nils, none, [], rfl, by omega, ⟨k1, k2, k3, by simpa using k5, he⟩, rfl, ⟨h0, h1, h2⟩, hv0, VP.nil _, fun _ _ => ⟨by simp, by simp⟩⟩) ?_
  clear h0 h1 h2 hv0 he k1 k2 k3 k5 Hh env
  rintro m ⟨env, mk, Hh⟩ hst
  rw [hJ] at hst
  obtain ⟨i, v1, o1, os, rfl, hi, ⟨k1, k2, k3, k5, hl⟩, hm, ⟨h0, h1, h2⟩, hv0, hv1, hap⟩ := hst
  simp only at k1 k2 k3 k5 hl hm h0 h1 h2 hv0 hv1
  obtain rfl := hm
  have cc0 := vZ5 h0
  simp only [zZC.b17]
  by_cases ci : i < s.progs.length
  case neg =>
   have hie : i = s.progs.length := by omega
   rw [hie, List.take_length] at hv1
   have hf := fin Hh
   simp [zZC.r8, k1, k2, k3, k5, hl, cc0, ci]
   simpa using hf _ v0 v1 o0 o1 os (by simp [hl]) (by simp [k2]) (by simp [k3]) h1 h2 hv0 hv1 hap
  obtain ⟨p, hp⟩ : ∃ p, s.progs[i]? = some p := ⟨_, List.getElem?_eq_getElem ci⟩
  have hpm := List.mem_of_getElem? hp
  have hpl := len_in hpm
  simp [zZC.r8, zZC.r9, zZC.r10, k1, k2, k3, k5, hl, cc0, ci]
  obtain ⟨K, hK⟩ : ∃ K : Nat → St → Prop, K = fun m st => ∃ (j : Nat) (v : V) (o : Option Nat), m = p.length - j ∧ j ≤ p.length ∧ (eget st.env 1 = .ptr 0 0 ∧ eget st.env 2 = .ptr 1 0 ∧ eget st.env 3 = .ptr 2 0 ∧ eget st.env 5 = .int .i64 i ∧ eget st.env 6 = v ∧ eget st.env 7 = .int .i64 j ∧ st.env.length = 65) ∧ st.marks = [] ∧ (∀ k, k < Hh.length → st.heap[k]? = Hh[k]?) ∧ Hh.length ≤ st.heap.length ∧ VL st.heap 12 v o (((p.take j).map plain).map cC) ∧ ∀ id, o = some id → Hh.length ≤ id := ⟨_, rfl⟩
  refine kLoop K p.length (by rw [hK]; exact ⟨0, .nils, none, rfl, by omega, ⟨by simp [k1], by simp [k2], by simp [k3], by simp [k5], by simp [hl], by simp [hl], by simp [hl]⟩, rfl, fun _ _ => rfl, Nat.le_refl _, VL.nil _ _, fun _ h => (by cases h)⟩) ?_
  rintro m2 ⟨env2, mk2, H2⟩ hst
  rw [hK] at hst
  clear k1 k2 k3 k5 hl
  obtain ⟨j, v, o, rfl, hj, ⟨k1, k2, k3, k5, k6, k7, hl⟩, hm, hold, hlen, hv, hfr⟩ := hst
  simp only at k1 k2 k3 k5 k6 k7 hl hm hold hlen hv
  obtain rfl := hm
  have l0 := (List.getElem?_eq_some_iff.1 h0).1
  have l2 := (List.getElem?_eq_some_iff.1 h2).1
  have g0' : H2[0]? = some (.cells (cS s)) := by rw [hold 0 l0]; exact h0
  have g1 : H2[1]? = some (.cells z3) := by rw [hold 1 (by omega)]; exact h1
  have g2 : H2[2]? = some (.cells [v0, v1, .int .i64 s.fuel]) := by rw [hold 2 l2]; exact h2
  have cg0 := vZ5 g0'
  have iap := fun h => zYbs (h := h) (k := .i64) hp
  simp only [zZC.b14]
  by_cases cj : j < p.length
  ·obtain ⟨c, hc⟩ : ∃ c, p[j]? = some c := ⟨_, List.getElem?_eq_getElem cj⟩
   have zcc := zc.2 p hpm c (List.mem_of_getElem? hc)
   have iac := fun h => zYbq (h := h) (k := .i64) hc
   have hpn := jZm c zcc.szp
   have bs := bsC H2 (plain c)
   obtain ⟨v', o', H3, ha, hv', hl', hr', hn'⟩ := VL.addC (l := (p.take j).map plain) hv (plain c) (by simp; omega)
   have wr := wrap64 (n := (j : Int) + 1) (by omega) (by omega)
   simp [zZC.r11, zZC.r12, zZC.r13, k1, k2, k3, k5, k6, k7, hl, cg0, iap, iac, cj, ok12, hpn, bs, ha, wr]
   refine ⟨p.length - (j + 1), by omega, ?_⟩
   rw [hK]
   refine ⟨j + 1, v', o', rfl, by omega, ⟨by simp [k1], by simp [k2], by simp [k3], by simp [k5], by simp [hl], by simp [hl], by simp [hl]⟩, rfl, fun k hk => ?_, Nat.le_trans hlen hl', ?_, fun id hid => ?_⟩
   ·show H3[k]? = _; rw [hr' k (by omega) (fun e => by have := hfr k e; omega)]; exact hold k hk
   ·rw [map_take plain p hc]; exact hv'
   ·rcases hn' id hid with h | h
    ·exact hfr id h
    ·omega
  ·have hje : j = p.length := by omega
   rw [hje, List.take_length] at hv
   have hv02 : VL H2 12 v0 o0 ((s.cmds.map plain).map cC) := hv0.mono fun id hid => hold id (hv0.lt hid)
   have hv12 : VP H2 v1 o1 os ((s.progs.take i).map fun p => p.map plain) := hv1.mono fun id hid => hold id (by
    rcases hid with h | h
    ·exact hv1.lt.1 id h
    ·exact hv1.lt.2 id h)
   have bs := bsP H2 v hv.cell
   obtain ⟨v3, o3, H3, ha, hvp3, hl3, hr3, hn3⟩ := hv12.add (p := p.map plain) hv (fun o' ho' id hid e => by
     subst hid
     have := hfr id e
     have := hv1.lt.2 id ho'
     omega) (fun id hid e => by
     have := hfr id e
     have := hv1.lt.1 id hid
     omega) (by simp; omega)
   have hne3 : ∀ {k : Nat} {cs : List V}, H2[k]? = some (.cells cs) → H3[k]? = some (.cells cs) := fun {k cs} hk => by rw [hr3 k (List.getElem?_eq_some_iff.1 hk).1 (hv12.ne hk).1, hk]
   have q2 := hne3 g2
   have s4 := vZo (off := 1) q2 (by simp) hvp3.cell
   simp only [List.set_cons_succ, List.set_cons_zero] at s4
   have cg2 := vZ5 g2
   have wr := wrap64 (n := (i : Int) + 1) (by omega) (by omega)
   have cjj : ¬ (j : Int) < (p.length : Int) := by omega
   simp [zZC.r11, zZC.r15, zZC.r16, k1, k2, k3, k5, k6, k7, hl, cg0, cg2, iap, cj, cjj, bs, ha, s4, wr]
   refine ⟨s.progs.length - (i + 1), by omega, ?_⟩
   rw [hJ]
   obtain ⟨n1, n2⟩ := hvp3.ne q2
   have n0 := hv02.ne g2 fun _ _ _ _ h => by cases h
   refine ⟨i + 1, v3, o3, os ++ [o], rfl, by omega, ⟨by simp [k1], by simp [k2], by simp [k3], by simp [hl], by simp [hl]⟩, rfl, ⟨by rw [List.getElem?_set_ne (by omega)]; exact hne3 g0', by rw [List.getElem?_set_ne (by omega)]; exact hne3 g1, zYaV q2 _⟩, hv02.mono fun id hid => ?_, ?_, fun id hid => ⟨fun e => ?_, fun e => ?_⟩⟩
   ·rw [List.getElem?_set_ne (fun e => n0 (by rw [hid, e])), hr3 id (hv02.lt hid) (fun e => (hap id hid).1 e)]
   ·rw [map_take (fun p => p.map plain) s.progs hp]
    refine hvp3.mono fun id hid => ?_
    rw [List.getElem?_set_ne]
    rintro rfl
    rcases hid with h | h
    ·exact n1 h
    ·exact n2 h
   ·rcases hn3 id e with h | h
    ·exact (hap id hid).1 h
    ·have := hv0.lt hid; omega
   ·rcases List.mem_append.1 e with h | h
    ·exact (hap id hid).2 h
    ·have := hfr id (List.mem_singleton.1 h).symm; have := hv0.lt hid; omega
 simp [zZC.c, zZC.r0, zZC.r1, zZC.r2, g0, he, V.isCell, hcc, b0, c0, hbd, s0]
 obtain ⟨I, hI⟩ : ∃ I : Nat → St → Prop, I = fun m st => ∃ (i : Nat) (v0 : V) (o0 : Option Nat), m = s.cmds.length - i ∧ i ≤ s.cmds.length ∧ (eget st.env 1 = .ptr 0 0 ∧ eget st.env 2 = .ptr 1 0 ∧ eget st.env 3 = .ptr 2 0 ∧ eget st.env 4 = .int .i64 i ∧ st.env.length = 65) ∧ st.marks = [] ∧ (st.heap[0]? = some (.cells (cS s)) ∧ st.heap[1]? = some (.cells z3) ∧ st.heap[2]? = some (.cells [v0, .nils, .int .i64 s.fuel])) ∧ VL st.heap 12 v0 o0 (((s.cmds.take i).map plain).map cC) := ⟨_, rfl⟩
 refine kLoop I s.cmds.length (by rw [hI]; exact ⟨0, .nils, none, rfl, by omega, ⟨by simp [he], by simp [he], by simp [he], by simp [he], by simp [he]⟩, rfl, ⟨rfl, rfl, rfl⟩, VL.nil _ _⟩) ?_
 rintro m ⟨env, mk, Hh⟩ hst
 rw [hI] at hst
 obtain ⟨i, v0, o0, rfl, hi, ⟨k1, k2, k3, k4, hl⟩, hm, ⟨h0, h1, h2⟩, hv0⟩ := hst
 simp only at k1 k2 k3 k4 hl hm h0 h1 h2 hv0
 obtain rfl := hm
 have cc0 := vZ5 h0
 have cc2 := vZ5 h2
 simp only [zZC.b6]
 by_cases ci : i < s.cmds.length
 ·obtain ⟨c, hc⟩ : ∃ c, s.cmds[i]? = some c := ⟨_, List.getElem?_eq_getElem ci⟩
  have zcc := zc.1 c (List.mem_of_getElem? hc)
  have iac := fun h => zYbq (h := h) (k := .i64) hc
  have hpn := jZm c zcc.szp
  have bs := bsC Hh (plain c)
  obtain ⟨v', o', H3, ha, hv', hl', hr', hn'⟩ := VL.addC (l := (s.cmds.take i).map plain) hv0 (plain c) (by simp; omega)
  have n2 : o0 ≠ some 2 := hv0.ne h2 fun _ _ _ _ h => by cases h
  have n1 : o0 ≠ some 1 := hv0.ne h1 fun _ _ _ _ h => by cases h
  have n0 : o0 ≠ some 0 := hv0.ne h0 fun _ _ _ _ h => by cases h
  have l2 := (List.getElem?_eq_some_iff.1 h2).1
  have q2 : H3[2]? = some (.cells [v0, .nils, .int .i64 s.fuel]) := by rw [hr' 2 l2 n2, h2]
  have s4 := vZo (off := 0) q2 (by simp) hv'.cell
  simp only [List.set_cons_succ, List.set_cons_zero] at s4
  have n2' := hv'.ne q2 fun _ _ _ _ h => by cases h
  have wr := wrap64 (n := (i : Int) + 1) (by omega) (by omega)
  have new : ∀ env : List V, eget env 1 = .ptr 0 0 → eget env 2 = .ptr 1 0 → eget env 3 = .ptr 2 0 → eget env 4 = .int .i64 ((i : Int) + 1) → env.length = 65 → I (s.cmds.length - (i + 1)) { env := env, marks := [], heap := H3.set 2 (.cells [v', .nils, .int .i64 s.fuel]) } := by
   intro env k1 k2 k3 k4 hl
   rw [hI]
   refine ⟨i + 1, v', o', rfl, by omega, ⟨k1, k2, k3, by simp [k4], hl⟩, rfl, ⟨by rw [List.getElem?_set_ne (by omega), hr' 0 (by omega) n0]; exact h0, by rw [List.getElem?_set_ne (by omega), hr' 1 (by omega) n1]; exact h1, zYaV q2 _⟩, ?_⟩
   rw [map_take plain s.cmds hc]
   exact hv'.mono fun id hid => by rw [List.getElem?_set_ne (fun e => n2' (by rw [hid, e]))]
  simp [zZC.r3, k1, k2, k3, k4, hl, cc0, ci]
  refine kDrawW zZC.r4.ord ?_
  simp [zZC.r4, List.filterMap_cons, zZC.r5, k1, k2, k3, k4, hl, cc0, cc2, iac, ok12, hpn, bs, ha, s4, wr]
  refine ⟨?_, s.cmds.length - (i + 1), by omega, ?_⟩
  ·simp only [xZ7, xZ2, List.cons_append, List.nil_append]
   exact xZ6 _ rfl rfl rfl rfl
  ·exact new _ (by simp [k1]) (by simp [k2]) (by simp [k3]) (by simp [hl]) (by simp [hl])
 ·have hie : i = s.cmds.length := by omega
  rw [hie, List.take_length] at hv0
  simp [zZC.r3, zZC.r7, k1, k2, k3, k4, hl, cc0, ci]
  exact second _ _ v0 o0 (by simp [hl]) (by simp [k1]) (by simp [k2]) (by simp [k3]) (by simp [hl]) h0 h1 h2 hv0
open Go Go.Ev
theorem SzL.szq {s : Scr} (h : allC s SzL) (hn : count s + s.progs.length ≤ 1048576) : SzQ s := by
 refine ⟨⟨by unfold count at hn; omega, fun c hc => (h.1 c hc).szc⟩, by omega, fun p hp => ⟨by have := len_in hp; omega, fun c hc => (h.2 p hp c hc).szc⟩⟩
theorem plainS_sz {s : Scr} (z : SzS s) : SzS (plainS s) := by
 refine ⟨⟨fun c hc => ?_, fun p hp c hc => ?_⟩, z.2.1, ?_⟩
 ·obtain ⟨d, hd, rfl⟩ := List.mem_map.1 hc
  exact (z.1.1 d hd).plain
 ·obtain ⟨q, hq, rfl⟩ := List.mem_map.1 hp
  obtain ⟨d, hd, rfl⟩ := List.mem_map.1 hc
  exact (z.1.2 q hq d hd).plain
 ·have := z.2.2
  simp only [count, plainS, List.length_map, List.map_map, Function.comp_def] at this ⊢
  exact this
theorem zYbx {l : List Cmd} {c : Cmd} (h : c ∈ l) : (lineB c).length ≤ (lnB l).length := by
 induction l with
 | nil => cases h
 | cons d l ih =>
  unfold lnB at ih ⊢
  simp only [List.flatMap_cons, List.length_append]
  rcases List.mem_cons.1 h with rfl | h
  ·omega
  ·have := ih h; omega
theorem mem_print {s : Scr} {P : Nat} (h : (printB s).length ≤ P) : allC s fun c => (lineB c).length ≤ P := by
 unfold printB at h
 simp only [List.length_append, List.length_cons] at h
 refine ⟨fun c hc => by have := zYbx hc; omega, fun p hp c hc => ?_⟩
 have h1 := zYbx hc
 have h2 : ∀ ps : List (List Cmd), p ∈ ps → (lnB p).length ≤ (ps.flatMap prB).length := by
  intro ps
  induction ps with
  | nil => intro h; cases h
  | cons q ps ih =>
   intro h
   simp only [List.flatMap_cons, List.length_append]
   rcases List.mem_cons.1 h with rfl | h
   ·simp only [prB, List.length_append, List.length_cons]; omega
   ·have := ih h; omega
 have := h2 _ hp
 omega
theorem parsed_sz {t : Bs} {r : Scr} {a : Nat} (h : parseR t = (r, 0, a)) : SzS r ∧ printR r = (t, 0) := by
 obtain ⟨h1, h2, h3, h4, h5⟩ := (zYbB h).1 rfl
 have hp : printB r = t ∧ r.progs.length ≤ 256 ∧ count r ≤ 8192 := by
  have h2' := h2
  unfold printR at h2'
  split at h2'
  ·cases h2'
  rename_i hn
  split at h2'
  ·split at h2'
   ·cases h2'
   ·cases h2'; exact ⟨rfl, by omega, by omega⟩
  ·cases h2'
 have hm := mem_print (s := r) (P := 1048576) (by rw [hp.1]; exact h1)
 have hz : ∀ c, fine c → (lineB c).length ≤ 1048576 → SzL c := fun c hf hl => ⟨by have := known_lt hf.1; omega, hf.2.2, by have := bulk_line hf.2.1; omega⟩
 exact ⟨⟨⟨fun c hc => hz c (h3.1 c hc) (hm.1 c hc), fun p hp c hc => hz c (h3.2 p hp c hc) (hm.2 p hp c hc)⟩, h5, by omega⟩, h2⟩
theorem szq_zero : SzQ {} := ⟨⟨by simp, fun c hc => by cases hc⟩, by simp, fun p hp => by cases hp⟩
theorem sameS_zero (H : Heap) : callW Φ zZx [.agg (cS {}), .agg z3] H = some (.bool true, H) := by
 have h := zYba {} {} szq_zero szq_zero []
 rw [decide_eq_true rfl] at h
 exact wZ3 (h0 := []) (h0' := []) zZx.Φ rfl (args := [.agg (cS {}), .agg z3]) («as» := [.agg (cS {}), .agg (cS {})]) rfl rfl h
theorem stS (X : Heap) (s : Scr) : evStoreV (X ++ [.cells z3]) 3 (.ptr X.length 0) (.agg (cS s)) = some (V.non, X ++ [.cells (cS s)]) := by
 have hh : (X ++ [Ob.cells z3])[X.length]? = some (.cells [.nils, .nils, .int .i64 0]) := by simp
 have := st3 hh (v0 := .arr (s.cmds.map cC)) (v1 := .arr (s.progs.map cP)) s.fuel rfl rfl
 rw [this]
 simp [List.set_append]
theorem clS (X : Heap) (s : Scr) (off : Nat) : cellsAt (X ++ [.cells (cS s)]) (.ptr X.length off) = some ((cS s).drop off) := by simp [cellsAt]
theorem okS (s : Scr) (H : Heap) : okCells H (some 3) (some (cS s)) = some (.agg (cS s), H) := rfl
theorem printR_len (s : Scr) : (printR s).1.length ≤ 1048576 := by
 unfold printR
 split
 ·simp
 ·split
  ·split
   ·simp
   ·rename_i h; unfold maxS at h; show (printB s).length ≤ _; omega
  ·simp
theorem zYbm (s : Scr) (t : Bs) (z : SzS s) (ht : t.length < 2 ^ 40) (H : Heap) : callW Φ zZf [.agg (cS s), T t] H = some (.bool true, H) := by
 have : ∃ hh, evBodyW (callW Φ) zZf.c [.agg (cS s), T t] [] = some (.bool true, hh) := by
  have hb := zYao
  have hcc : (V.agg (cS s)).cells = cS s := rfl
  have b0 : evBox [] (cS s) = some (.ptr 0 0, [.cells (cS s)]) := jZU [] _ rfl
  have hbd0 : ∀ H, evBuild H z3 [] = some (.agg z3, H) := fun H => rfl
  have key2 : ∀ (env : List V) (X : Heap), env.length = 97 → eget env 1 = T t →
    WK (callW Φ) none (FinV [.tmp 4] (.bool true)) [It.o zZf.r15, It.c (.seq (xS zZf.r16 (.cond (.t 74) (xS zZf.r17 .ret) .skip)) (xS zZf.r18 (xS zZf.r19 .ret)))] { env := env, marks := [], heap := X } := by
   intro env X he k1
   obtain ⟨r, w, a, hr⟩ : ∃ r w a, parseR t = (r, w, a) := ⟨_, _, _, rfl⟩
   have hp := zYbh t ht
   rw [hr] at hp
   simp only [parT] at hp
   have s1 := stS X r
   have l1 := clS X r
   by_cases h0 : w = 0
   ·subst h0
    obtain ⟨zr, hpr⟩ := parsed_sz hr
    have hq := zYbi r zr
    rw [hpr] at hq
    simp only at hq
    simp [zZf.r15, zZf.r16, zZf.r18, zZf.r19, k1, he, V.isCell, hp, evExt, s1, l1, okS, hq, evPick, T_beq]
   ·obtain ⟨rfl, hiff⟩ := (zYbB hr).2 h0
    have hne : (w != 0) = true := by simpa using h0
    have hz : ∀ H, callW Φ zZx [.agg [.arr [], .arr [], .int .i64 0], .agg z3] H = some (.bool true, H) := sameS_zero
    have hbe : (decide (0 < a) == (w != 4)) = true := by
     by_cases h4 : w = 4
     ·have : ¬ 0 < a := fun h => hiff.1 h h4
      have e1 : decide (0 < a) = false := by simp; omega
      have e2 : (w != 4) = false := by simpa using h4
      rw [e1, e2]; rfl
     ·have : 0 < a := hiff.2 h4
      have e1 : decide (0 < a) = true := by simp; omega
      have e2 : (w != 4) = true := by simpa using h4
      rw [e1, e2]; rfl
    have hge : ∀ H, evEqc H false (.leaf .b) (.bool (decide (0 < a))) (.bool (w != 4)) = some (.bool true, H) := fun H => by rw [eqc_bf, hbe]
    have l1' : cellsAt (X ++ [Ob.cells (cS {})]) (.ptr X.length 0) = some (cS {}) := l1 0
    simp [zZf.r15, zZf.r16, zZf.r17, k1, he, V.isCell, hp, evExt, s1, l1', okS, hne, hbd0, hz, evPick, -decide_eq_true_eq, -gt_iff_lt, hge]
  refine wZg (Nat.le_of_ble_eq_true rfl) (fun env he h0 => ?_)
  have g0 := h0 0 (by simp)
  change eget env 0 = .agg (cS s) at g0
  have g1 := h0 1 (by simp)
  change eget env 1 = T t at g1
  clear h0
  simp [zZf.c] at he
  have c0 : ∀ (X : Heap) off, cellsAt (.cells (cS s) :: X) (.ptr 0 off) = some ((cS s).drop off) := fun X off => rfl
  have hq := zYbi s z
  have hlen := printR_len s
  by_cases h0 : (printR s).2 = 0
  case neg =>
   have hne : ((printR s).2 == 0) = false := by simpa using h0
   simp [zZf.c, zZf.r0, zZf.r1, zZf.r3, zZf.r4, g0, g1, he, hcc, b0, hb, c0, okS, hq, hne, evExt, -FinV]
   exact key2 _ _ (by simp [he]) (by simp [g1])
  obtain ⟨hpr, hpp⟩ := parse_print ⟨fun c hc => (z.1.1 c hc).2.1, fun p hp c hc => (z.1.2 p hp c hc).2.1⟩ z.2.1 h0
  have hc10 := count_print s
  rw [← hpr] at hpp hc10
  obtain ⟨u, hu⟩ : ∃ u, u = (printR s).1 := ⟨_, rfl⟩
  rw [← hu] at hpp hc10 hq hlen
  rw [h0] at hq
  have hpa := zYbh u (by omega)
  rw [hpp] at hpa
  simp only [parT] at hpa
  have s1 := stS [.cells (cS s)] (plainS s)
  have l1 := clS [.cells (cS s)] (plainS s)
  simp only [List.cons_append, List.nil_append, List.length_cons, List.length_nil] at s1 l1
  have hpl := zYbz s z
  have zp := plainS_sz z
  have hss := zYba (plainS s) (plainS s) (SzL.szq zp.1 zp.2.2) (SzL.szq zp.1 zp.2.2)
  rw [decide_eq_true rfl] at hss
  have hct := zYbg s z
  have zn := z.2.2
  simp [zZf.c, zZf.r0, zZf.r1, zZf.r3, zZf.r4, zZf.r5, zZf.r6, zZf.r7, V.isCell, g0, g1, he, hcc, b0, hb, c0, okS, hq, hpa, s1, evExt, -FinV]
  obtain ⟨I, hI⟩ : ∃ I : Nat → St → Prop, I = fun m st => ∃ (i : Nat), m = u.length - i ∧ i ≤ u.length ∧ (eget st.env 1 = T t ∧ eget st.env 2 = .ptr 0 0 ∧ eget st.env 5 = T u ∧ eget st.env 7 = .ptr 1 0 ∧ eget st.env 8 = .int .i64 0 ∧ eget st.env 9 = .int .i64 0 ∧ eget st.env 10 = .int .i64 ((u.take i).count 10 : Nat) ∧ eget st.env 11 = .int .i64 i ∧ st.env.length = 97) ∧ st.marks = [] ∧ st.heap = [.cells (cS s), .cells (cS (plainS s))] := ⟨_, rfl⟩
  refine kLoop I u.length (by rw [hI]; exact ⟨0, rfl, by omega, ⟨by simp [g1], by simp [he], by simp [he], by simp [he], by simp [he], by simp [he], by simp [he], by simp [he], by simp [he]⟩, rfl, rfl⟩) ?_
  rintro m ⟨env, mk, Hh⟩ hst
  rw [hI] at hst
  obtain ⟨i, rfl, hi, ⟨k1, k2, k5, k7, k8, k9, k10, k11, hl⟩, hm, hh⟩ := hst
  simp only at k1 k2 k5 k7 k8 k9 k10 k11 hl hm hh
  obtain rfl := hm
  obtain rfl := hh
  simp only [zZf.b12]
  by_cases c : i < u.length
  ·obtain ⟨b, hb⟩ : ∃ b, u[i]? = some b := ⟨_, List.getElem?_eq_getElem c⟩
   have ix := idx_T (h := [Ob.cells (cS s), .cells (cS (plainS s))]) (k := .i64) (n := (i : Int)) (by omega) (by simpa using hb)
   have wr := wrap64 (n := (i : Int) + 1) (by omega) (by omega)
   have hcn : (u.take (i + 1)).count 10 = (u.take i).count 10 + (if b = 10 then 1 else 0) := by
    rw [List.take_add_one, hb, List.count_append]
    by_cases e : b = 10
    ·subst e; simp
    ·simp [e]
   have hcl : (u.take i).count 10 ≤ i := by have := List.count_le_length (a := 10) (l := u.take i); rw [List.length_take] at this; omega
   have wr2 := wrap64 (n := (((u.take i).count 10 : Nat) : Int) + 1) (by omega) (by omega)
   have e10 : (((10 : UInt8).toNat : Nat) : Int) = 10 := rfl
   have hbq := eqB b 10
   rw [e10] at hbq
   by_cases e : b = 10
   ·have q := hbq true (by simp [e])
    simp [zZf.r8, zZf.r9, zZf.r10, zZf.r11, k1, k2, k5, k7, k8, k9, k10, k11, hl, vZm, c, ix, q, wr, wr2]
    refine ⟨u.length - (i + 1), by omega, ?_⟩
    rw [hI]
    exact ⟨i + 1, rfl, by omega, ⟨by simp [k1], by simp [k2], by simp [k5], by simp [k7], by simp [k8], by simp [k9], by rw [hcn, if_pos e]; simp [hl], by simp [hl], by simp [hl]⟩, rfl, rfl⟩
   ·have q := hbq false (by simpa using e)
    simp [zZf.r8, zZf.r9, zZf.r11, k1, k2, k5, k7, k8, k9, k10, k11, hl, vZm, c, ix, q, wr]
    refine ⟨u.length - (i + 1), by omega, ?_⟩
    rw [hI]
    exact ⟨i + 1, rfl, by omega, ⟨by simp [k1], by simp [k2], by simp [k5], by simp [k7], by simp [k8], by simp [k9], by rw [hcn, if_neg e]; simp [k10], by simp [hl], by simp [hl]⟩, rfl, rfl⟩
  have hie : i = u.length := by omega
  rw [hie, List.take_length, hc10] at k10
  have cI : ¬ (i : Int) < (u.length : Int) := by omega
  simp only [Int.natCast_add, Int.natCast_mul, Int.cast_ofNat_Int] at k10
  have go : ∀ env : List V, env.length = 97 → eget env 1 = T t → eget env 2 = .ptr 0 0 → eget env 7 = .ptr 1 0 → eget env 8 = .int .i64 0 → eget env 9 = .int .i64 0 → eget env 10 = .int .i64 ((count s : Int) + 2 * (s.progs.length : Int) + 2) →
    WK (callW Φ) none (FinV [.tmp 4] (.bool true)) [It.c (.draw zZf.r13 [[], [0], [1], [2], [3, 2], [2, 4], [5, 2], [6], [6], [8, 6, 6], [7, 9, 9, 6], [10, 6], [6, 11], [12, 10], [13], [13], [15, 13, 13], [13], [17, 13], [18, 13], [19, 13], [16, 20, 13], [21, 13], [14, 22, 13], [13, 23]] [0, 1, 2, 3, 4, 5, 6, 11, 12, 13, 14, 17, 20, 21, 22, 23, 24]), It.c (.cond (.t 66) (xS zZf.r14 .ret) .skip), It.c (xS zZf.r15 (.seq (xS zZf.r16 (.cond (.t 74) (xS zZf.r17 .ret) .skip)) (xS zZf.r18 (xS zZf.r19 .ret))))] { env := env, marks := [], heap := [.cells (cS s), .cells (cS (plainS s))] } := by
   intro env hl k1 k2 k7 k8 k9 k10
   have w1 := wrap64 (n := 2 * (s.progs.length : Int)) (by omega) (by omega)
   have w2 := wrap64 (n := (count s : Int) + 2 * (s.progs.length : Int)) (by omega) (by omega)
   have w3 := wrap64 (n := (count s : Int) + 2 * (s.progs.length : Int) + 2) (by omega) (by omega)
   refine kDrawW zZf.r13.ord ?_
   simp (config := { maxSteps := 5000000 }) [zZf.r13, List.filterMap_cons, k2, k7, k8, k9, k10, hl, c0, l1, okS, hpl, hss, hct, w1, w2, w3, evPick, -FinV]
   refine ⟨?_, ?_⟩
   ·repeat' apply And.intro
    all_goals
     simp only [xZ7, xZ2, List.cons_append, List.nil_append]
     exact xZ6 _ rfl rfl rfl rfl
   ·exact key2 _ _ (by simp [hl]) (by simp [k1])
  simp [zZf.r8, k1, k2, k5, k7, k8, k9, k10, k11, hl, vZm, c, cI, -FinV]
  exact go _ (by simp [hl]) (by simp [k1]) (by simp [k2]) (by simp [k7]) (by simp [k8]) (by simp [k9]) (by simp [k10])
 obtain ⟨h', hb⟩ := this
 exact qZ7 (h := H) zZf.Φ rfl (args := [.agg (cS s), T t]) rfl hb rfl
end Go.Proofs.Sc
