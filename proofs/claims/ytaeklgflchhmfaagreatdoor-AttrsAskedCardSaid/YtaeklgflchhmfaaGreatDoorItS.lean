/- The program's forest: attributes, by a map. The program's forest: attributes. No conditions. -/
import Derived.Test.YtaeklgflchhmfaaGreatDoorItQ
set_option maxHeartbeats 16000000
set_option maxRecDepth 100000
set_option linter.unusedVariables false
set_option linter.unusedSimpArgs false
set_option linter.unusedSectionVars false
namespace Go.Proofs.It
open Go Go.Ev
abbrev ksA : Eqd := .cons 0 none (.leaf .s) (.cons 1 none (.leaf .s) .nil)
theorem eqK (n m : Nm) : eqdV ksA (.agg (cK n)) (.agg (cK m)) = some (beqS n.sp m.sp && beqS n.lo m.lo) := by
 cases h1 : beqS n.sp m.sp <;> cases h2 : beqS n.lo m.lo <;> simp [eqdV, ofCells, cellEq, cK, h1, h2]
theorem keyK (n : Nm) : keyOk ksA (.agg (cK n)) = true := by
 simp only [keyOk, eqK, jZv]
 rfl
theorem beqS_comm (a b : ByteArray) : beqS a b = beqS b a := by
 simp only [beqS]
 exact Bool.beq_comm
def mapF : List Atr → Nat → List (V × V × Nat)
 | [], _ => []
 | a :: l, j => (.agg (cK a.nm), .int .i64 1, j) :: mapF l (j + 1)
theorem mapF_len : ∀ (l : List Atr) (j : Nat), (mapF l j).length = l.length
 | [], _ => rfl
 | a :: l, j => by simp [mapF, mapF_len l (j + 1)]
theorem mapF_app : ∀ (l : List Atr) (j : Nat) (a : Atr), mapF (l ++ [a]) j = mapF l j ++ [(.agg (cK a.nm), .int .i64 1, j + l.length)]
 | [], j, a => by simp [mapF]
 | x :: l, j, a => by
  simp only [List.cons_append, mapF, mapF_app l (j + 1) a, List.length_cons]
  congr 3
  simp only [List.cons.injEq, Prod.mk.injEq, true_and, and_true]
  omega
theorem xZ4 : ∀ (l : List Atr) (j : Nat) (e : V × V × Nat), e ∈ mapF l j → e.2.2 < j + l.length
 | [], _, _, h => by cases h
 | a :: l, j, e, h => by
  simp only [mapF, List.mem_cons] at h
  rcases h with rfl | h
  ·simp
  ·have := xZ4 l (j + 1) e h
   simp only [List.length_cons]
   omega
theorem jZC : ∀ (l : List Atr) (n : Nm) (i k j : Nat), (find l n i < 0 → findKey ksA (.agg (cK n)) (mapF l j) k = some none) ∧ (¬ find l n i < 0 → ∃ p, findKey ksA (.agg (cK n)) (mapF l j) k = some (some (p, .int .i64 1)))
 | [], n, i, k, j => by simp [find, mapF, findKey]
 | a :: l, n, i, k, j => by
  have ih := jZC l n (i + 1) (k + 1) (j + 1)
  simp only [find, mapF, findKey, eqK, beqS_comm n.sp a.nm.sp, beqS_comm n.lo a.nm.lo]
  cases h : beqS a.nm.sp n.sp && beqS a.nm.lo n.lo with
  | true =>
   simp only [if_true]
   exact ⟨fun h => by omega, fun _ => ⟨k, rfl⟩⟩
  | false =>
   simp only [Bool.false_eq_true, if_false]
   exact ih
theorem xZe {α : Type} (f : α → α) (a : α) : ∀ l : List α, (l ++ [a]).modify l.length f = l ++ [f a]
 | [] => rfl
 | x :: l => by simp [List.modify_succ_cons, xZe f a l]
section
variable {H : Heap} {l : List Atr} {n : Nm} {c : Nat}
theorem look_new (hm : H[0]? = some (.map (mapF l 0) c)) (hf : find l n 0 < 0) : evLook H ksA false (.int .i64 0) (.map 0) (.agg (cK n)) = some (.int .i64 0, H) := by
 have := (jZC l n 0 0 0).1 hf
 simp only [evLook, keyK, if_true, hm, this, found]
 rfl
theorem look_old (hm : H[0]? = some (.map (mapF l 0) c)) (hf : ¬ find l n 0 < 0) : evLook H ksA false (.int .i64 0) (.map 0) (.agg (cK n)) = some (.int .i64 1, H) := by
 obtain ⟨p, hp⟩ := (jZC l n 0 0 0).2 hf
 simp only [evLook, keyK, if_true, hm, hp, found]
 rfl
theorem kZ5 (k : V) (ks : Eqd) : ∀ (es : List (V × V × Nat)) (i : Nat) (e : V × V × Nat), findKey ks k es i = some none → eqdV ks k e.1 = some true → findKey ks k (es ++ [e]) i = some (some (i + es.length, e.2.1))
 | [], i, e, _, h2 => by simp [findKey, h2]
 | x :: es, i, e, h1, h2 => by
  simp only [findKey, List.cons_append] at h1 ⊢
  split at h1
  ·cases h1
  ·rename_i hx
   rw [kZ5 k ks es (i + 1) e h1 h2]
   have e1 : i + 1 + es.length = i + (x :: es).length := by simp only [List.length_cons]; omega
   rw [e1]
  ·cases h1
theorem ent_new (hm : H[0]? = some (.map (mapF l 0) l.length)) (hf : find l n 0 < 0) :
  evMapent H ksA (.int .i64 0) (.map 0) (.agg (cK n)) = some (.tup [.int .i64 0, .int .i64 l.length], H.set 0 (.map (mapF l 0 ++ [(.agg (cK n), .int .i64 0, l.length)]) (l.length + 1))) := by
 have := (jZC l n 0 0 0).1 hf
 simp only [evMapent, keyK, if_true, hm, this, qZ5, qZW]
theorem look_ent {H3 : Heap} (h3 : H3[0]? = some (.map (mapF l 0 ++ [(.agg (cK n), .int .i64 0, l.length)]) (l.length + 1))) (hf : find l n 0 < 0) :
  evLook H3 ksA false (.int .i64 0) (.map 0) (.agg (cK n)) = some (.int .i64 0, H3) := by
 have h1 := (jZC l n 0 0 0).1 hf
 have h2 := kZ5 (.agg (cK n)) ksA (mapF l 0) 0 (.agg (cK n), .int .i64 0, l.length) h1 (by rw [eqK, jZv, jZv]; rfl)
 simp only [evLook, keyK, if_true, h3, h2, found]
 rfl
theorem entst_new {H3 : Heap} (h3 : H3[0]? = some (.map (mapF l 0 ++ [(.agg (cK n), .int .i64 0, l.length)]) (l.length + 1))) :
  evEntst H3 (.map 0) (.int .i64 l.length) (.int .i64 1) = some (V.non, H3.set 0 (.map (mapF l 0 ++ [(.agg (cK n), .int .i64 1, l.length)]) (l.length + 1))) := by
 have hi : (mapF l 0 ++ [((.agg (cK n) : V), (.int .i64 0 : V), l.length)]).findIdx? (fun e => (e.2.2 : Int) == (l.length : Int)) = some (mapF l 0).length := by
  rw [List.findIdx?_append]
  have : (mapF l 0).findIdx? (fun e => (e.2.2 : Int) == (l.length : Int)) = none := by
   rw [List.findIdx?_eq_none_iff]
   intro e he
   have := xZ4 l 0 e he
   simp
   omega
  rw [this]
  simp
 simp only [evEntst, h3, hi, qZW]
 rw [xZe]
end
open Go Go.Ev
def snd2 : Cc → Cc
 | .seq _ b => b
 | x => x
def fst2 : Cc → Cc
 | .seq a _ => a
 | x => x
def inb2 : Cc → Cc
 | .block _ x => x
 | x => x
abbrev attD : Cc := snd2 (snd2 (snd2 (inb2 (fst2 (snd2 (snd2 zZj.b12))))))
theorem att_draw {H : Heap} {l : List Atr} {x : Atr} (hm : H[0]? = some (.map (mapF l 0) l.length)) (hf : find l x.nm 0 < 0) {b : Nat} (hb : H[b]? = some (.cells (cK x.nm))) (hlen : l.length < 2 ^ 50)
  {env : List V} (he : env.length = 43) (g3 : eget env 3 = .map 0) (g6 : eget env 6 = .ptr b 0) :
  WK (callW Φ) none (fun e s' => e = .normal ∧ s'.env.length = 43 ∧ eget s'.env 0 = eget env 0 ∧ eget s'.env 3 = .map 0 ∧ eget s'.env 11 = eget env 11 ∧ eget s'.env 12 = eget env 12 ∧ eget s'.env 13 = eget env 13 ∧ s'.marks = [] ∧ s'.heap[0]? = some (.map (mapF (l ++ [x]) 0) (l ++ [x]).length))
   [.c attD] { env := env, marks := [], heap := H } := by
 have h0l := (List.getElem?_eq_some_iff.1 hm).1
 have m1 := look_new hm hf
 have m2 := ent_new hm hf
 obtain ⟨H3, hH3⟩ : ∃ H3, H3 = H.set 0 (.map (mapF l 0 ++ [(.agg (cK x.nm), .int .i64 0, l.length)]) (l.length + 1)) := ⟨_, rfl⟩
 rw [← hH3] at m2
 have h3 : H3[0]? = some (.map (mapF l 0 ++ [(.agg (cK x.nm), .int .i64 0, l.length)]) (l.length + 1)) := by rw [hH3, List.getElem?_set_self h0l]
 have hb0 : b ≠ 0 := fun e => by rw [e, hm] at hb; cases hb
 have hb3 : H3[b]? = some (.cells (cK x.nm)) := by rw [hH3, List.getElem?_set_ne (Ne.symm hb0)]; exact hb
 have m3 := look_ent h3 hf
 have m4 := entst_new h3
 have c0 : cellsAt H (.ptr b 0) = some (cK x.nm) := by simp [cellsAt, hb]
 have c3 : cellsAt H3 (.ptr b 0) = some (cK x.nm) := by simp [cellsAt, hb3]
 have hfin : (H3.set 0 (.map (mapF l 0 ++ [(.agg (cK x.nm), .int .i64 1, l.length)]) (l.length + 1)))[0]? = some (.map (mapF (l ++ [x]) 0) (l ++ [x]).length) := by
  rw [List.getElem?_set_self (by rw [hH3]; simpa using h0l), mapF_app]
  simp
 obtain ⟨H4, hH4⟩ : ∃ H4, H4 = H3.set 0 (.map (mapF l 0 ++ [(.agg (cK x.nm), .int .i64 1, l.length)]) (l.length + 1)) := ⟨_, rfl⟩
 rw [← hH4] at m4 hfin
 have hk : ∀ H, okCells H (some 2) (some (cK x.nm)) = some (.agg (cK x.nm), H) := fun H => rfl
 have w1 : IntKind.i64.wrap 1 = 1 := by decide
 simp only [attD, fst2, snd2, inb2, zZj.b12]
 refine kDraw2 zZj.r10.ord ?_
 simp (config := { maxSteps := 5000000 }) [zZj.r10, List.filterMap_cons, g3, g6, he, okV, fV_eq, evExt, c0, c3, hk, m1, m2, m3, m4, w1]
 refine ⟨?_, by simpa using hfin⟩
 repeat' apply And.intro
 all_goals
  simp only [jZa, wZf, List.cons_append, List.nil_append]
  exact wZ8 _ rfl rfl rfl rfl
theorem att_r8 {H : Heap} {l : List Atr} {x : Atr} {c a b : Nat} (hm : H[0]? = some (.map (mapF l 0) c)) (ha : H[a]? = some (.cells (cA x))) (hb : H[b]? = some (.cells (cK x.nm)))
  {env : List V} (he : env.length = 43) (g3 : eget env 3 = .map 0) (g5 : eget env 5 = .ptr a 0) (g6 : eget env 6 = .ptr b 0) :
  WK (callW Φ) none (fun e s' => e = .normal ∧ s'.env.length = 43 ∧ eget s'.env 3 = .map 0 ∧ eget s'.env 6 = .ptr b 0 ∧ eget s'.env 11 = eget env 11 ∧ eget s'.env 12 = eget env 12 ∧ eget s'.env 13 = eget env 13 ∧ s'.marks = [] ∧ s'.heap = H ∧ eget s'.env 35 = .bool (!(named x.nm && decide (x.val.size ≤ 4096) && decide (find l x.nm 0 < 0))))
   [.c (.region zZj.r8)] { env := env, marks := [], heap := H } := by
 have c0 : cellsAt H (.ptr a 0) = some (cA x) := by simp [cellsAt, ha]
 have c3 : cellsAt H (.ptr a 3) = some [.str x.val] := by simp [cellsAt, ha, cA]
 have d0 : cellsAt H (.ptr b 0) = some (cK x.nm) := by simp [cellsAt, hb]
 have hk : ∀ H, okCells H (some 2) (some (cK x.nm)) = some (.agg (cK x.nm), H) := fun H => rfl
 have hn3 : ∀ H, okCells H (some 3) (some (cA x)) = some (eNm x.nm, H) := fun H => rfl
 have hnm := fun H => vZP x.nm H
 cases hn : named x.nm with
 | false =>
  simp only [hn] at hnm
  simp [zZj.r8, g3, g5, g6, he, faddrP, c0, hn3, hnm, evPick]
 | true =>
  simp only [hn] at hnm
  by_cases hv : x.val.size ≤ 4096
  case neg =>
   have hv' : (4096 : Int) < (x.val.size : Int) := by omega
   simp [zZj.r8, g3, g5, g6, he, faddrP, c0, c3, hn3, hnm, hv, hv', evPick]
  have hv' : ¬ (4096 : Int) < (x.val.size : Int) := by omega
  by_cases hf : find l x.nm 0 < 0
  case neg =>
   have hlk := look_old hm hf
   simp [zZj.r8, g3, g5, g6, he, faddrP, c0, c3, d0, hk, hlk, hn3, hnm, hv, hv', hf, evPick]
  have hlk := look_new hm hf
  simp [zZj.r8, g3, g5, g6, he, faddrP, c0, c3, d0, hk, hlk, hn3, hnm, hv, hv', hf, evPick]
theorem wZP (l : List Atr) (hlen : l.length < 2 ^ 50) (H : Heap) : callW Φ zZj [eAs l] H = some (.bool (attrs l), H) := by
 have : ∃ hh, evBodyW (callW Φ) zZj.c [eAs l] [] = some (.bool (attrs l), hh) := by
  refine qZ3 (Nat.le_of_ble_eq_true rfl) (fun env he h0 => ?_)
  have g0 := h0 0 (by simp)
  change eget env 0 = eAs l at g0
  clear h0
  simp [zZj.c] at he
  by_cases h64 : l.length ≤ 64
  case neg =>
   have h1 : (64 : Int) < (l.length : Int) := by omega
   simp [zZj.c, zZj.r0, zZj.r1, zZj.r2, g0, he, eAs, h1, attrs, h64]
  have h1 : ¬ (64 : Int) < (l.length : Int) := by omega
  simp [zZj.c, zZj.r0, zZj.r1, zZj.r3, zZj.r4, g0, he, eAs, h1]
  refine kLoop (fun m s => ∃ i : Nat, m = l.length - i ∧ i ≤ l.length ∧ s.env.length = 43 ∧ eget s.env 3 = .map 0 ∧ eget s.env 11 = .arr (l.map cA) ∧ eget s.env 12 = .int .i64 l.length ∧ eget s.env 13 = .int .i64 i ∧ s.marks = [] ∧ s.heap[0]? = some (.map (mapF (l.take i) 0) (l.take i).length) ∧ attrs l = attrsGo (l.take i) (l.drop i)) l.length ⟨0, by
   simp [g0, he, eAs, attrs, h64, mapF]⟩ ?_
  rintro m ⟨e, mk, hp⟩ ⟨i, rfl, hi, he, k3, k11, k12, k13, hm, hmp, hat⟩
  simp only at he k3 k11 k12 k13 hm hmp
  subst hm
  by_cases hlt : i < l.length
  ·obtain ⟨x, hx⟩ : ∃ x, l[i]? = some x := ⟨l[i], by simp [hlt]⟩
   have hw : IntKind.i64.wrap ((i : Int) + 1) = ((i + 1 : Nat) : Int) := by rw [Ev.wrap64] <;> omega
   rw [vZI hx] at hat
   simp only [attrsGo] at hat
   obtain ⟨H1, hH1⟩ : ∃ H1 : Heap, H1 = hp ++ [Ob.cells (cA x)] := ⟨_, rfl⟩
   have hs1 : evStoreV (hp ++ [.cells [.str ⟨#[]⟩, .str ⟨#[]⟩, .str ⟨#[]⟩, .str ⟨#[]⟩]]) 4 (.ptr hp.length 0) (.agg (cA x)) = some (V.non, H1) := by
    rw [hH1, storeA]; simp [evStore, setRange, wZr, ob_set]
   have l1 : H1.length = hp.length + 1 := by rw [hH1]; simp
   obtain ⟨H2, hH2⟩ : ∃ H2 : Heap, H2 = H1 ++ [Ob.cells (cK x.nm)] := ⟨_, rfl⟩
   have hs2 : evStoreV (H1 ++ [.cells [.str ⟨#[]⟩, .str ⟨#[]⟩]]) 2 (.ptr H1.length 0) (.agg (cK x.nm)) = some (V.non, H2) := by
    rw [hH2]; simp [evStoreV, evStore, setRange, V.cells, V.isCell, cK]
   have a1 : H1[hp.length]? = some (.cells (cA x)) := by rw [hH1]; simp
   have a2 : H2[hp.length]? = some (.cells (cA x)) := by rw [hH2, List.getElem?_append_left (by omega)]; exact a1
   have b2 : H2[H1.length]? = some (.cells (cK x.nm)) := by rw [hH2]; simp
   have c1 : ∀ off, cellsAt H1 (.ptr hp.length off) = some ((cA x).drop off) := fun off => wZc a1
   have c2 : ∀ off, cellsAt H2 (.ptr hp.length off) = some ((cA x).drop off) := fun off => wZc a2
   have c10 := c1 0
   have c20 := c2 0
   have c23 := c2 3
   have d2 : cellsAt H2 (.ptr H1.length 0) = some (cK x.nm) := by simp [cellsAt, b2]
   have hpl := (List.getElem?_eq_some_iff.1 hmp).1
   have hm2 : H2[0]? = some (.map (mapF (l.take i) 0) (l.take i).length) := by
    rw [hH2, List.getElem?_append_left (by omega), hH1, List.getElem?_append_left hpl]; exact hmp
   have hkey := fun H => jZ6 x.nm H
   have hnm := fun H => vZP x.nm H
   simp only [eNm] at hkey hnm
   have htk : l.take (i + 1) = l.take i ++ [x] := by rw [List.take_add_one, hx]; rfl
   have ha1 := qZU (h := hp) (k := .i64) wZr hx
   have hk2 : ∀ H, okCells H (some 2) (some (cK x.nm)) = some (.agg (cK x.nm), H) := fun H => rfl
   simp only [cA, List.drop_zero, List.drop_succ_cons] at c10 c20 c23 hs1
   rw [l1] at hs2 d2
   have q8 := fun (e : List V) he g3 g5 g6 => att_r8 (env := e) hm2 a2 b2 he g3 g5 g6
   simp [zZj.b12, zZj.r5, zZj.r6, zZj.r7, k3, k11, k12, k13, he, hlt, ha1, okA, cA, hs1, faddrP, c10, hkey, l1, hs2, ofCells]
   rw [l1] at q8
   refine kNormalO (q8 _ ?_ ?_ ?_ ?_) ?_
   ·simp [he]
   ·simp [k3]
   ·simp [he]
   ·simp [he]
   rintro ⟨e', mk, H'⟩ ⟨he', j3, j6, j11, j12, j13, hmk, hheap, j35⟩
   simp only at he' j3 j6 j11 j12 j13 hmk hheap j35
   obtain rfl := hmk
   obtain rfl := hheap
   simp [k11, k12, k13] at j11 j12 j13
   cases hc : (named x.nm && decide (x.val.size ≤ 4096) && decide (find (l.take i) x.nm 0 < 0)) with
   | false =>
    rw [hc] at hat j35
    simp only [Bool.false_and] at hat
    rw [hat]
    simp [j35, zZj.r9, he']
   | true =>
    rw [hc] at hat j35
    simp only [Bool.true_and] at hat
    simp only [Bool.and_eq_true, decide_eq_true_eq] at hc
    have dr := fun (e : List V) he g3 g6 => att_draw hm2 hc.2 b2 (by rw [List.length_take]; omega) (env := e) he g3 g6
    simp only [attD, fst2, snd2, inb2, zZj.b12] at dr
    simp [j35]
    refine kNormal (dr _ he' j3 (by rw [j6, l1])) ?_
    rintro ⟨e2, mk, H3⟩ ⟨he2, m0, m3, m11, m12, m13, hmk, hmap⟩
    simp only at he2 m0 m3 m11 m12 m13 hmk hmap
    obtain rfl := hmk
    rw [j11] at m11
    rw [j12] at m12
    rw [j13] at m13
    simp [zZj.r11, m13, he2]
    rw [← htk] at hmap
    exact ⟨l.length - (i + 1), by omega, i + 1, rfl, by omega, m3, m11, m12, by simpa using hw, by simpa using hmap, by rw [hat, htk]⟩
  ·have : i = l.length := by omega
   subst this
   rw [hat]
   simp [zZj.b12, zZj.r5, zZj.r13, k12, k13, he, attrsGo]
 obtain ⟨h', hb⟩ := this
 exact zZ4 (h := H) zZj.Φ rfl (args := [eAs l]) rfl hb rfl
end Go.Proofs.It
