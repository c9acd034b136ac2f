/- Whether a watch is right by itself. No conditions. -/
import Derived.Test.YtphigbmaimineabGreatObH
set_option maxHeartbeats 16000000
set_option maxRecDepth 100000
set_option linter.unusedVariables false
set_option linter.unusedSimpArgs false
set_option linter.unusedSectionVars false
namespace Go.Proofs.Ob
open Go Go.Ev
def badG (n : Int) (k : Nat) (last : Int) (g : Rg) : Prop := g.id ≤ last ∨ n ≤ g.id ∨ g.obs < 1 ∨ (k : Int) < g.obs ∨ g.node < 1 ∨ g.src < 0 ∨ g.id ≤ g.src ∨ settledB g.o = false
noncomputable def aloneR (n : Int) (k : Nat) : Int → List Pr2 → List Rg → Bool
 | _, _, [] => true
 | last, seen, g :: r => by
  classical exact if badG n k last g then false else if g.src = 0 then (if (g.obs, g.node) ∈ seen then false else aloneR n k g.id (seen ++ [(g.obs, g.node)]) r) else aloneR n k g.id seen r
theorem vZJ {n : Int} {k : Nat} {last : Int} {seen : List Pr2} {g : Rg} {r : List Rg} (h : badG n k last g) : aloneR n k last seen (g :: r) = false := by simp only [aloneR]; rw [if_pos h]
theorem kZg {n : Int} {k : Nat} {last : Int} {seen : List Pr2} {g : Rg} {r : List Rg} (h : ¬ badG n k last g) : aloneR n k last seen (g :: r) = if g.src = 0 then (if (g.obs, g.node) ∈ seen then false else aloneR n k g.id (seen ++ [(g.obs, g.node)]) r) else aloneR n k g.id seen r := by
 simp only [aloneR]; rw [if_neg h]
 try split <;> rfl
def badW (w : Wch) : Prop := 256 < w.qs.length ∨ 1024 < w.regs.length ∨ w.next < 0 ∨ 1099511627776 < w.next ∨ (w.next = 0 ∧ 0 < w.regs.length)
instance (w : Wch) : Decidable (badW w) := by unfold badW; infer_instance
noncomputable def aloneB (w : Wch) : Bool := if badW w then false else if w.qs.any (fun q => decide (4096 < q.length)) then false else aloneR w.next w.qs.length 0 [] w.regs
theorem kEnv {call : CallF} {rnd : Option Nat} {Q : Ex → St → Prop} {k : List It} {env : List V} {mk : List Nat} {H : Heap} (h : ∀ env2 : List V, env2 = env → WK call rnd Q k { env := env2, marks := mk, heap := H }) : WK call rnd Q k { env := env, marks := mk, heap := H } := h _ rfl
def AI (w : Wch) (m : Nat) (s : St) : Prop := s.marks = [] ∧ ∃ (i : Nat) (seen : List Pr2) (last : Int), m = w.regs.length - i ∧ i ≤ w.regs.length ∧ (eget s.env 1 = .ptr 0 0 ∧ eget s.env 3 = .map 1 ∧ eget s.env 4 = .int .i64 last ∧ eget s.env 43 = .arr (w.regs.map cG) ∧ eget s.env 44 = .int .i64 w.regs.length ∧ eget s.env 45 = .int .i64 i ∧ s.env.length = 120) ∧
 s.heap[0]? = some (.cells (cW w)) ∧ s.heap[1]? = some (.map (mpE 0 seen) seen.length) ∧ aloneR w.next w.qs.length 0 [] w.regs = aloneR w.next w.qs.length last seen (w.regs.drop i)
theorem jZx (w : Wch) (z : SzW w) (H : Heap) : callW Φ zZh [.agg (cW w)] H = some (.bool (aloneB w), H) := by
 have : ∃ hh, evBodyW (callW Φ) zZh.c [.agg (cW w)] [] = some (.bool (aloneB w), hh) := by
  refine jZa (Nat.le_of_ble_eq_true rfl) (fun env he h0 => ?_)
  have g0 := h0 0 (by simp)
  change eget env 0 = .agg (cW w) at g0
  clear h0
  simp [zZh.c] at he
  obtain ⟨zl, zq, zg, zr⟩ := z
  have b0 : evBox [] (cW w) = some (.ptr 0 0, [.cells (cW w)]) := wZc [] _ (by simp [V.isCell])
  have hcc : ∀ c, (V.agg (cW c)).cells = cW c := fun c => rfl
  have x0 : ∀ off, cellsAt [.cells (cW w)] (.ptr 0 off) = some ((cW w).drop off) := fun _ => rfl
  obtain ⟨rc, hc', hC, rfl, rfl⟩ := cfR w.qs zq (fun q hq => (zr q hq).1) [.cells (cW w)]
  by_cases q1 : (256 : Int) < w.qs.length
  ·have hb : aloneB w = false := by unfold aloneB; rw [if_pos (by unfold badW; omega)]
   simp [zZh.c, zZh.r0, zZh.r1, zZh.r2, g0, he, hcc, b0, x0, evPick, qZO, q1, hb]
  by_cases q2 : (1024 : Int) < w.regs.length
  ·have hb : aloneB w = false := by unfold aloneB; rw [if_pos (by unfold badW; omega)]
   simp [zZh.c, zZh.r0, zZh.r1, zZh.r2, g0, he, hcc, b0, x0, evPick, qZO, q1, q2, hb]
  by_cases q3 : w.next < 0
  ·have hb : aloneB w = false := by unfold aloneB; rw [if_pos (by unfold badW; omega)]
   simp [zZh.c, zZh.r0, zZh.r1, zZh.r2, g0, he, hcc, b0, x0, evPick, qZO, q1, q2, q3, hb]
  by_cases q4 : (1099511627776 : Int) < w.next
  ·have hb : aloneB w = false := by unfold aloneB; rw [if_pos (by unfold badW; omega)]
   simp [zZh.c, zZh.r0, zZh.r1, zZh.r2, g0, he, hcc, b0, x0, evPick, qZO, q1, q2, q3, q4, hb]
  by_cases q5 : (w.next == 0 && decide ((0 : Int) < w.regs.length)) = true
  ·have hb : aloneB w = false := by unfold aloneB; rw [if_pos (by unfold badW; simp at q5; omega)]
   simp only [Bool.and_eq_true, beq_iff_eq, decide_eq_true_eq] at q5
   obtain ⟨q5, q6⟩ := q5
   have q8 : 0 < w.regs.length := by omega
   simp [zZh.c, zZh.r0, zZh.r1, zZh.r2, g0, he, hcc, b0, x0, evPick, qZO, q1, q2, q3, q4, q5, q8, hb]
  have nb : ¬ badW w := by
   unfold badW
   simp only [Bool.and_eq_true, beq_iff_eq, decide_eq_true_eq, not_and] at q5
   rintro (h | h | h | h | ⟨h1, h2⟩)
   ·omega
   ·omega
   ·omega
   ·omega
   ·exact q5 h1 (by omega)
  have hw0 : aloneB w = if w.qs.any (fun q => decide (4096 < q.length)) then false else aloneR w.next w.qs.length 0 [] w.regs := by unfold aloneB; rw [if_neg nb]
  have go : ∀ env : List V, env.length = 120 → eget env 1 = .ptr 0 0 → WK (callW Φ) none (FinV [Rv.tmp 2] (.bool (aloneB w))) [It.o zZh.r3, It.c (.cond (.t 40) (xS zZh.r4 .ret) .skip), It.c (xS zZh.r5 (xS zZh.r6 (.seq (xS zZh.r7 (.block 0 (.loop zZh.b18))) (xS zZh.r19 .ret))))] { env := env, marks := [], heap := [.cells (cW w)] } := by
   intro env hl k1
   have hgt : w.regs.length ≤ 1024 := by omega
   cases hany : w.qs.any (fun q => decide (4096 < q.length))
   case true =>
    rw [hany] at hC hw0
    simp [zZh.r3, zZh.r4, k1, hl, x0, hC, hw0]
   rw [hany] at hC hw0
   simp only [Bool.false_eq_true, if_false] at hw0
   rw [hw0]
   simp [zZh.r3, zZh.r5, zZh.r6, zZh.r7, k1, hl, x0, hC, qZO, vZn]
   have c2 : ∀ off, cellsAt [.cells (cW w), .map [] 0] (.ptr 0 off) = some ((cW w).drop off) := fun _ => rfl
   simp [c2, qZO]
   refine kLoop (AI w) w.regs.length ⟨rfl, 0, [], 0, rfl, by omega, ⟨by simp [hl, k1], by simp [hl], by simp [hl], by simp [hl], by simp [hl], by simp [hl], by simpa using hl⟩, rfl, rfl, rfl⟩ ?_
   clear k1 hl env
   rintro m ⟨env, mk, H0⟩ ⟨hm, i, seen, last, rfl, hi, ⟨k1, k3, k4, k43, k44, k45, hl⟩, h0, h1, hal⟩
   simp only at hm k1 k3 k4 k43 k44 k45 hl h0 h1
   obtain rfl := hm
   by_cases c : i < w.regs.length
   ·have cc1 : (i : Int) < w.regs.length := by omega
    obtain ⟨x, hx⟩ : ∃ x, w.regs[i]? = some x := ⟨_, List.getElem?_eq_getElem c⟩
    have hd : w.regs.drop i = x :: w.regs.drop (i + 1) := by
     rw [List.drop_eq_getElem_cons c, ← Option.some.inj ((List.getElem?_eq_getElem c).symm.trans hx)]
    rw [hd] at hal
    have ia := fun H => jZv (h := H) (k := .i64) hx
    have wr := wrap64 (n := (i : Int) + 1) (by omega) (by omega)
    have sx : evStoreV (H0 ++ [.cells zG]) 12 (.ptr H0.length 0) (.agg (cG x)) = some (V.non, H0 ++ [.cells (cG x)]) := vZX rfl rfl rfl
    simp [zZh.b18, zZh.r8, zZh.r9, k1, k3, k4, k43, k44, k45, hl, cc1, ia, okG, sx]
    obtain ⟨H1, hH1⟩ : ∃ H1, H1 = H0 ++ [.cells (cG x)] := ⟨_, rfl⟩
    rw [← hH1]
    have h01 : H1[0]? = some (.cells (cW w)) := by rw [hH1, List.getElem?_append_left (List.getElem?_eq_some_iff.1 h0).1]; exact h0
    have h11 : H1[1]? = some (.map (mpE 0 seen) seen.length) := by rw [hH1, List.getElem?_append_left (List.getElem?_eq_some_iff.1 h1).1]; exact h1
    have cw : ∀ off, cellsAt H1 (.ptr 0 off) = some ((cW w).drop off) := fun off => qZ4 h01 off
    have cx : ∀ off, cellsAt H1 (.ptr H0.length off) = some ((cGv x (.arr (x.o.filt.map cT))).drop off) := fun off => by rw [hH1]; exact wZi _ _ _
    have S := settled_spec x.o (zg x (List.mem_of_getElem? hx)) H1
    have ok8 : ∀ H : Heap, okCells H (some 8) (some ((cGv x (.arr (x.o.filt.map cT))).drop 3)) = some (.agg (cO x.o), H) := fun _ => rfl
    have ok8' : ∀ H : Heap, okCells H (some 8) (some [V.bool x.o.kids, V.bool x.o.sub, V.int .u8 x.o.at_, V.int .u8 x.o.da, V.int .u8 x.o.oa, V.int .u8 x.o.od, V.arr (x.o.filt.map cT), V.bool x.o.fs, V.int .i64 x.src]) = some (.agg (cO x.o), H) := fun _ => rfl
    by_cases p1 : x.id ≤ last
    ·have hb := hal.trans (vZJ (by unfold badG; omega))
     simp [zZh.r10, k1, k3, k4, k43, k44, k45, hl, cw, cx, evPick, qZO, zZh.r11, p1, hb]
    by_cases p2 : w.next ≤ x.id
    ·have hb := hal.trans (vZJ (by unfold badG; omega))
     simp [zZh.r10, k1, k3, k4, k43, k44, k45, hl, cw, cx, evPick, qZO, zZh.r11, p1, p2, hb]
    by_cases p3 : x.obs < 1
    ·have hb := hal.trans (vZJ (by unfold badG; omega))
     simp [zZh.r10, k1, k3, k4, k43, k44, k45, hl, cw, cx, evPick, qZO, zZh.r11, p1, p2, p3, hb]
    by_cases p4 : (w.qs.length : Int) < x.obs
    ·have hb := hal.trans (vZJ (by unfold badG; omega))
     simp [zZh.r10, k1, k3, k4, k43, k44, k45, hl, cw, cx, evPick, qZO, zZh.r11, p1, p2, p3, p4, hb]
    by_cases p5 : x.node < 1
    ·have hb := hal.trans (vZJ (by unfold badG; omega))
     simp [zZh.r10, k1, k3, k4, k43, k44, k45, hl, cw, cx, evPick, qZO, zZh.r11, p1, p2, p3, p4, p5, hb]
    by_cases p6 : x.src < 0
    ·have hb := hal.trans (vZJ (by unfold badG; omega))
     simp [zZh.r10, k1, k3, k4, k43, k44, k45, hl, cw, cx, evPick, qZO, zZh.r11, p1, p2, p3, p4, p5, p6, hb]
    by_cases p7 : x.id ≤ x.src
    ·have hb := hal.trans (vZJ (by unfold badG; omega))
     simp [zZh.r10, k1, k3, k4, k43, k44, k45, hl, cw, cx, evPick, qZO, zZh.r11, p1, p2, p3, p4, p5, p6, p7, hb]
    by_cases p8 : settledB x.o = false
    ·have hb := hal.trans (vZJ (by unfold badG; simp [p8]))
     rw [p8] at S
     simp [zZh.r10, k1, k3, k4, k43, k44, k45, hl, cw, cx, evPick, qZO, zZh.r11, p1, p2, p3, p4, p5, p6, p7, ok8, ok8', S, hb]
    have p8t : settledB x.o = true := by simpa using p8
    rw [p8t] at S
    have nb2 : ¬ badG w.next w.qs.length last x := by
     unfold badG
     rintro (h | h | h | h | h | h | h | h)
     ·omega
     ·omega
     ·omega
     ·omega
     ·omega
     ·omega
     ·omega
     ·rw [h] at p8; exact absurd p8 (by simp)
    rw [kZg nb2] at hal
    by_cases p9 : x.src = 0
    ·have p9b : (x.src == 0) = true := by simpa using p9
     rw [if_pos p9] at hal
     simp [zZh.r10, k1, k3, k4, k43, k44, k45, hl, cw, cx, evPick, qZO, p1, p2, p3, p4, p5, p6, p7, ok8, ok8', S, zZh.r12, zZh.r13, p9b]
     refine kEnv fun env2 hE => ?_
     have j1 : eget env2 1 = .ptr 0 0 := by rw [hE]; simp [hl, k1]
     have j3 : eget env2 3 = .map 1 := by rw [hE]; simp [hl, k3]
     have j4 : eget env2 4 = .int .i64 x.id := by rw [hE]; simp [hl]
     have j6 : eget env2 6 = .ptr H0.length 0 := by rw [hE]; simp [hl]
     have j43 : eget env2 43 = .arr (w.regs.map cG) := by rw [hE]; simp [hl, k43]
     have j44 : eget env2 44 = .int .i64 w.regs.length := by rw [hE]; simp [hl, k44]
     have j45 : eget env2 45 = .int .i64 i := by rw [hE]; simp [hl, k45]
     have jl : env2.length = 120 := by rw [hE]; simp [hl]
     clear hE k1 k3 k4 k43 k44 k45 hl env
     have bk : ∀ H : Heap, evBuild H [.int .i64 0, .int .i64 0] [(0, 1, .int .i64 x.obs), (1, 1, .int .i64 x.node)] = some (kp (x.obs, x.node), H) := fun _ => rfl
     have w1 : IntKind.i64.wrap 1 = 1 := wrap64 (by omega) (by omega)
     have w2 : IntKind.i64.wrap 2 = 2 := wrap64 (by omega) (by omega)
     refine kDrawW zZh.r14.ord ?_
     by_cases p10 : (x.obs, x.node) ∈ seen
     ·rw [if_pos p10] at hal
      obtain ⟨j, H2, e1, e2, ⟨es, cl, hH2⟩, e3⟩ := twice h11 p10
      have l1 := look_yes h11 p10
      have cx2 : ∀ off, cellsAt H2 (.ptr H0.length off) = some ((cGv x (.arr (x.o.filt.map cT))).drop off) := fun off => by
       have := (List.getElem?_eq_some_iff.1 h1).1
       rw [hH2, hH1]; refine qZ4 ?_ off
       rw [List.getElem?_set_ne (by omega)]; simp; rfl
      simp [zZh.r14, zZh.r15, zZh.r16, List.filterMap_cons, j1, j3, j4, j6, j43, j44, j45, jl, cx, cx2, bk, l1, e1, e2, e3, evExt, w2, hal]
      simp only [set_puts, kZF, List.cons_append, List.nil_append]
      exact puts_ext _ rfl rfl rfl rfl
     ·rw [if_neg p10] at hal
      have hlt := (List.getElem?_eq_some_iff.1 h1).1
      have e1 := ent_no h11 p10
      have l1 := look_no h11 p10
      obtain ⟨H2, hH2⟩ : ∃ H2, H2 = H1.set 1 (.map (mpE 0 seen ++ [(kp (x.obs, x.node), .int .i64 0, seen.length)]) (seen.length + 1)) := ⟨_, rfl⟩
      rw [← hH2] at e1
      have h21 : H2[1]? = some (.map (mpE 0 seen ++ [(kp (x.obs, x.node), .int .i64 0, seen.length)]) (seen.length + 1)) := by rw [hH2, List.getElem?_set_self (List.getElem?_eq_some_iff.1 h11).1]
      have l2 := look_ent h21 p10
      have e2 := entst_no h21
      obtain ⟨H3, hH3⟩ : ∃ H3, H3 = H2.set 1 (.map (mpE 0 (seen ++ [(x.obs, x.node)])) (seen ++ [(x.obs, x.node)]).length) := ⟨_, rfl⟩
      rw [← hH3] at e2
      have h31 : H3[1]? = some (.map (mpE 0 (seen ++ [(x.obs, x.node)])) (seen ++ [(x.obs, x.node)]).length) := by rw [hH3, List.getElem?_set_self (List.getElem?_eq_some_iff.1 h21).1]
      have l3 := look_yes h31 (p := (x.obs, x.node)) (by simp)
      have h30 : H3[0]? = some (.cells (cW w)) := by rw [hH3, hH2, List.getElem?_set_ne (by omega), List.getElem?_set_ne (by omega)]; exact h01
      have cx2 : ∀ off, cellsAt H2 (.ptr H0.length off) = some ((cGv x (.arr (x.o.filt.map cT))).drop off) := fun off => by
       rw [hH2, hH1]; refine qZ4 ?_ off
       rw [List.getElem?_set_ne (by omega)]; simp; rfl
      have cx3 : ∀ off, cellsAt H3 (.ptr H0.length off) = some ((cGv x (.arr (x.o.filt.map cT))).drop off) := fun off => by
       rw [hH3, hH2, hH1]; refine qZ4 ?_ off
       rw [List.getElem?_set_ne (by omega), List.getElem?_set_ne (by omega)]; simp; rfl
      simp [zZh.r14, zZh.r15, zZh.r17, List.filterMap_cons, j1, j3, j4, j6, j43, j44, j45, jl, cx, cx2, cx3, bk, l1, l2, l3, e1, e2, evExt, w1, wr]
      refine ⟨?_, w.regs.length - (i + 1), by omega, rfl, i + 1, seen ++ [(x.obs, x.node)], x.id, rfl, by omega, ⟨by simp [jl, j1], by simp [jl, j3], by simp [jl, j4], by simp [jl, j43], by simp [jl, j44], by simp [jl], by simp [jl]⟩, h30, h31, hal⟩
      simp only [set_puts, kZF, List.cons_append, List.nil_append]
      exact puts_ext _ rfl rfl rfl rfl
    ·have p9b : (x.src == 0) = false := by simpa using p9
     rw [if_neg p9] at hal
     simp [zZh.r10, k1, k3, k4, k43, k44, k45, hl, cw, cx, evPick, qZO, p1, p2, p3, p4, p5, p6, p7, ok8, ok8', S, zZh.r12, zZh.r13, zZh.r17, p9b, wr]
     exact ⟨w.regs.length - (i + 1), by omega, rfl, i + 1, seen, x.id, rfl, by omega, ⟨by simp [hl, k1], by simp [hl, k3], by simp [hl], by simp [hl, k43], by simp [hl, k44], by simp [hl], by simp [hl]⟩, h01, h11, hal⟩
   ·have c1 : ¬ (i : Int) < w.regs.length := by omega
    rw [List.drop_eq_nil_of_le (by omega)] at hal
    have hal2 : aloneR w.next w.qs.length 0 [] w.regs = true := hal
    simp [zZh.b18, zZh.r8, zZh.r19, k1, k3, k4, k43, k44, k45, hl, c1, hal2]
  by_cases q6 : w.next = 0
  ·have q7 : ¬ 0 < w.regs.length := by simp [q6] at q5; simp [q5]
   simp [zZh.c, zZh.r0, zZh.r1, zZh.r2, g0, he, hcc, b0, x0, evPick, qZO, q1, q2, q3, q4, q6, q7]
   exact go _ (by simp [he]) (by simp [he])
  have q6f : (w.next == 0) = false := by simpa using q6
  simp [zZh.c, zZh.r0, zZh.r1, zZh.r2, g0, he, hcc, b0, x0, evPick, qZO, q1, q2, q3, q4, q6f]
  exact go _ (by simp [he]) (by simp [he])
 obtain ⟨h', hb⟩ := this
 exact vZG (h := H) zZh.Φ rfl (args := [.agg (cW w)]) rfl hb rfl
end Go.Proofs.Ob
