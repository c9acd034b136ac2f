/- Scripts read: the reader's line, its command. Lists of commands in the heap, and lists of those; the reader's main and programs. No conditions. -/
import Derived.Test.YtcfgiajpbjbdpaaGreatDoorScZb
import Derived.Test.YtcfgiajpbjbdpaaGreatDoorScQi
import Derived.Test.YtcfgiajpbjbdpaaGreatDoorScO
set_option maxHeartbeats 16000000
set_option maxRecDepth 100000
set_option linter.unusedVariables false
set_option linter.unusedSimpArgs false
set_option linter.unusedSectionVars false
namespace Go.Proofs.Sc
open Go Go.Ev
theorem cutLine_take (t : Bs) : cutLine t = if 10 ∈ t then some (t.takeWhile (· != 10), t.drop ((t.takeWhile (· != 10)).length + 1)) else none := by
 induction t with
 | nil => rfl
 | cons b t ih =>
  unfold cutLine
  by_cases hb : b = 10
  ·subst hb; simp
  ·have h2 : (b != 10) = true := by simpa using hb
   rw [if_neg hb, ih]
   by_cases hm : 10 ∈ t
   ·simp [hm, h2]
   ·simp [hm, Ne.symm hb]
abbrev rdC (left : Bs) (k many : Nat) (why : Int) : List V := [T left, .int .i64 k, .int .i64 many, .int .i64 why]
theorem zYaV {H : Heap} {p : Nat} {a : List V} (h : H[p]? = some (.cells a)) (b : List V) : (H.set p (.cells b))[p]? = some (.cells b) := by
 rw [List.getElem?_set_self (List.getElem?_eq_some_iff.1 h).1]
def lineP (H : Heap) (p : Nat) (left : Bs) (k many : Nat) (w : Int) (r : V) (H' : Heap) : Prop := match cutLine left with
 | some (l, rest) => r = .tup [T l, .bool true] ∧ H' = H.set p (.cells (rdC rest (k + 1) many w))
 | none => r = .tup [T [], .bool false] ∧ H' = H.set p (.cells (rdC left (k + 1) many 20))
theorem zYaW (H : Heap) (p : Nat) (left : Bs) (k many : Nat) (w : Int) (hp : H[p]? = some (.cells (rdC left k many w))) (hz : left.length < 2 ^ 40) (hk : k < 2 ^ 41) : ∃ r h', callW Φ (.fn (.func zZE.k) [] []) [.ptr p 0] H = some (r, h') ∧ (lineP H p left k many w) r h' := by
 obtain ⟨P, hP⟩ : ∃ P : V → Heap → Prop, P = lineP H p left k many w := ⟨_, rfl⟩
 suffices hgo : ∃ r h', callW Φ (.fn (.func zZE.k) [] []) [.ptr p 0] H = some (r, h') ∧ P r h' by rw [hP] at hgo; exact hgo
 have hPi : ∀ r h', (lineP H p left k many w) r h' → P r h' := fun r h' q => by rw [hP]; exact q
 clear hP
 refine kZY zZE.Φ rfl (Nat.le_of_ble_eq_true rfl) (fun env he h0 => ?_)
 have g0 := h0 0 (by simp)
 change eget env 0 = .ptr p 0 at g0
 clear h0
 simp [zZE.c] at he
 have c0 := vZ5 hp
 have wr := wrap64 (n := (k : Int) + 1) (by omega) (by omega)
 have s1 := vZo (off := 1) (x := .int .i64 ((k : Int) + 1)) hp (by simp) ⟨rfl, rfl⟩
 simp only [List.set_cons_succ, List.set_cons_zero] at s1
 have hp1 := zYaV hp (rdC left (k + 1) many w)
 obtain ⟨H1, hH1⟩ : ∃ H1, H1 = H.set p (.cells (rdC left (k + 1) many w)) := ⟨_, rfl⟩
 have hH1' : H.set p (.cells [T left, .int .i64 ((k : Int) + 1), .int .i64 many, .int .i64 w]) = H1 := by rw [hH1]; simp [rdC]
 rw [hH1'] at s1
 rw [← hH1] at hp1
 have c1 := vZ5 hp1
 have hcut := xZT left 10 hz
 unfold cutV at hcut
 have hcut' : ∀ H, callW Φ qZU [T left, .str ⟨#[10]⟩] H = _ := hcut
 have hct := cutLine_take left
 by_cases hm : 10 ∈ left
 ·rw [if_pos hm] at hct
  obtain ⟨l, hl⟩ : ∃ l, l = left.takeWhile (· != 10) := ⟨_, rfl⟩
  obtain ⟨rest, hr⟩ : ∃ rest, rest = left.drop ((left.takeWhile (· != 10)).length + 1) := ⟨_, rfl⟩
  rw [← hl] at hct hcut'
  rw [← hl] at hr
  rw [← hr] at hct hcut'
  have s2 := vZo (off := 0) (x := T rest) hp1 (by simp) ⟨rfl, rfl⟩
  simp only [List.set_cons_succ, List.set_cons_zero] at s2
  have hf := hPi (.tup [T l, .bool true]) (H1.set p (.cells (rdC rest (k + 1) many w))) (by unfold lineP; rw [hct]; exact ⟨rfl, by rw [hH1, List.set_set]⟩)
  simp only [hm, decide_true] at hcut'
  simp only [Int.natCast_add, Int.cast_ofNat_Int] at s2 c1
  simp [zZE.c, zZE.r0, zZE.r1, zZE.r2, zZE.r3, zZE.r4, zZE.r5, zZE.r6, zZE.r7, evNilchk, g0, he, c0, wr, s1, c1, hcut', evExt, s2]
  exact hf
 ·rw [if_neg hm] at hct
  have s2 := vZo (off := 3) (x := .int .i64 20) hp1 (by simp) ⟨rfl, rfl⟩
  simp only [List.set_cons_succ, List.set_cons_zero] at s2
  have hf := hPi (.tup [T [], .bool false]) (H1.set p (.cells (rdC left (k + 1) many 20))) (by unfold lineP; rw [hct]; exact ⟨rfl, by rw [hH1, List.set_set]⟩)
  simp only [hm, decide_false] at hcut'
  simp only [Int.natCast_add, Int.cast_ofNat_Int] at s2 c1
  simp [zZE.c, zZE.r0, zZE.r1, zZE.r2, zZE.r3, zZE.r4, zZE.r5, zZE.r6, zZE.r7, evNilchk, g0, he, c0, wr, s1, c1, hcut', evExt, s2]
  exact hf
def whyC (s : Bs) (many : Nat) : Int := if cmdB s then (if many ≥ 8192 then 3 else 0) else 20
theorem zYaY (H : Heap) (p : Nat) (left s : Bs) (k many : Nat) (hp : H[p]? = some (.cells (rdC left k many 0))) (hz : s.length ≤ 1048576) (hk : many < 2 ^ 41) : ∃ r h', callW Φ (.fn (.func zZm.k) [] []) [.ptr p 0, T s] H = some (r, h') ∧ (fun r H' => r = .tup [.agg (cC (cmdA s)), .bool (whyC s many == 0)] ∧ H'[p]? = some (.cells (rdC left k (many + 1) (whyC s many))) ∧ Keep p H H') r h' := by
 obtain ⟨P, hP⟩ : ∃ P : V → Heap → Prop, P = fun r H' => r = .tup [.agg (cC (cmdA s)), .bool (whyC s many == 0)] ∧ H'[p]? = some (.cells (rdC left k (many + 1) (whyC s many))) ∧ Keep p H H' := ⟨_, rfl⟩
 suffices hgo : ∃ r h', callW Φ (.fn (.func zZm.k) [] []) [.ptr p 0, T s] H = some (r, h') ∧ P r h' by rw [hP] at hgo; exact hgo
 have hPi : ∀ r h', (fun r H' => r = .tup [.agg (cC (cmdA s)), .bool (whyC s many == 0)] ∧ H'[p]? = some (.cells (rdC left k (many + 1) (whyC s many))) ∧ Keep p H H') r h' → P r h' := fun r h' q => by rw [hP]; exact q
 clear hP
 refine kZY zZm.Φ rfl (Nat.le_of_ble_eq_true rfl) (fun env he h0 => ?_)
 have g0 := h0 0 (by simp)
 change eget env 0 = .ptr p 0 at g0
 have g1 := h0 1 (by simp)
 change eget env 1 = T s at g1
 clear h0
 simp [zZm.c] at he
 have hpl := (List.getElem?_eq_some_iff.1 hp).1
 obtain ⟨q, hq⟩ : ∃ q, q = H.length := ⟨_, rfl⟩
 obtain ⟨H1, hH1⟩ : ∃ H1, H1 = H ++ [.cells z12] := ⟨_, rfl⟩
 have hl1 : H1.length = q + 1 := by rw [hH1, hq]; simp
 have hc := xZM s hz
 have st := st12 H1 (cmdA s)
 obtain ⟨H2, hH2⟩ : ∃ H2, H2 = H1 ++ [.cells (cC (cmdA s))] := ⟨_, rfl⟩
 rw [← hH2, hl1] at st
 have hp2 : H2[p]? = some (.cells (rdC left k many 0)) := by rw [hH2, hH1, List.getElem?_append_left (by simp; omega), List.getElem?_append_left hpl, hp]
 have hq2 : H2[q]? = some (.cells z12) := by rw [hH2, hH1, hq, List.getElem?_append_left (by simp)]; simp
 have hd2 : H2[q + 1]? = some (.cells (cC (cmdA s))) := by rw [hH2, ← hl1]; simp
 have kp2 : Keep p H H2 := by rw [hH2, hH1, List.append_assoc]; exact Keep.push p H _
 have c2 := vZ5 hp2
 have wr := wrap64 (n := (many : Int) + 1) (by omega) (by omega)
 have s3 := vZo (off := 2) (x := .int .i64 ((many : Int) + 1)) hp2 (by simp) ⟨rfl, rfl⟩
 simp only [List.set_cons_succ, List.set_cons_zero] at s3
 obtain ⟨H3, hH3⟩ : ∃ H3, H3 = H2.set p (.cells (rdC left k (many + 1) 0)) := ⟨_, rfl⟩
 have hH3' : H2.set p (.cells [T left, .int .i64 k, .int .i64 ((many : Int) + 1), .int .i64 0]) = H3 := by rw [hH3]; simp [rdC]
 rw [hH3'] at s3
 have hp3 : H3[p]? = some (.cells (rdC left k (many + 1) 0)) := by rw [hH3]; exact zYaV hp2 _
 have hpq : p ≠ q := by omega
 have hpq1 : p ≠ q + 1 := by omega
 have hq3 : H3[q]? = some (.cells z12) := by rw [hH3, List.getElem?_set_ne hpq]; exact hq2
 have hd3 : H3[q + 1]? = some (.cells (cC (cmdA s))) := by rw [hH3, List.getElem?_set_ne hpq1]; exact hd2
 have kp3 : Keep p H H3 := by rw [hH3]; exact kp2.trans (Keep.set _ _ _)
 have hal : (V.agg z12).cells = z12 := rfl
 have fin : ∀ (H4 : Heap) (env : List V), Keep p H H4 → H4[p]? = some (.cells (rdC left k (many + 1) (whyC s many))) → H4[q]? = some (.cells z12) → H4[q + 1]? = some (.cells (cC (cmdA s))) → env.length = 41 → eget env 0 = .ptr p 0 → eget env 4 = .ptr q 0 → eget env 6 = .ptr (q + 1) 0 →
   WK (callW Φ) none (FinX [.cell 4 (some 12), .tmp 5] P) [It.c (.draw zZm.r7 [[], [], [1], [2], [3], [4], [0, 0], [5, 6, 0, 1, 2, 3, 4, 5, 6]] [1, 2, 3, 5, 7]), It.c .ret] { env := env, marks := [], heap := H4 } := by
  intro H4 env kp hp hq4 hd4 he k0 k4 k6
  have c4 := vZ5 hp
  have cd := vZ5 hd4 0
  have hqp : q ≠ p := fun e => hpq e.symm
  have hql := (List.getElem?_eq_some_iff.1 hq4).1
  have s4 : evStoreV H4 12 (.ptr q 0) (.agg (cC (cmdA s))) = some (V.non, H4.set q (.cells (cC (cmdA s)))) := by
   have hcc : (V.agg (cC (cmdA s))).cells = cC (cmdA s) := rfl
   have hall : (cC (cmdA s)).all V.isCell = true := rfl
   unfold evStoreV
   rw [hcc, hall]
   simp [evStore, hq4, setRange]
  have c4q : ∀ off, cellsAt (H4.set q (.cells (cC (cmdA s)))) (.ptr p off) = some ((rdC left k (many + 1) (whyC s many)).drop off) := fun off => vZ5 (by rw [List.getElem?_set_ne hqp]; exact hp) off
  have hqn : ¬ q < H.length := by omega
  have cf : cellsAt (H4.set q (.cells (cC (cmdA s)))) (.ptr q 0) = some (cC (cmdA s)) := by simp [cellsAt, hql]
  have hf := hPi (.tup [.agg (cC (cmdA s)), .bool (whyC s many == 0)]) (H4.set q (.cells (cC (cmdA s)))) ⟨rfl, by rw [List.getElem?_set_ne hqp]; exact hp, by
   refine ⟨by rw [List.length_set]; exact kp.1, fun j hj hjp => ?_⟩
   rw [List.getElem?_set_ne (by omega)]
   exact kp.2 j hj hjp⟩
  refine kDrawW zZm.r7.ord ?_
  simp [zZm.r7, List.filterMap_cons, evNilchk, k0, k4, k6, he, c4, c4q, cd, ok12, s4, cf, ofCells, hf]
  all_goals try (simp only [xZ7, xZ2, List.cons_append, List.nil_append]; exact xZ6 _ rfl rfl rfl rfl)
 cases hB : cmdB s
 ·have hw : whyC s many = 20 := by unfold whyC; rw [hB]; rfl
  have s5 := vZo (off := 3) (x := .int .i64 20) hp3 (by simp) ⟨rfl, rfl⟩
  simp only [List.set_cons_succ, List.set_cons_zero] at s5
  rw [hB] at hc
  obtain ⟨H5, hH5⟩ : ∃ H5, H5 = H3.set p (.cells (rdC left k (many + 1) 20)) := ⟨_, rfl⟩
  rw [← hH5] at s5
  simp [zZm.c, zZm.r0, zZm.r1, zZm.r2, zZm.r3, zZm.r4, evNilchk, V.isCell, g0, g1, he, ← hq, ← hH1, hl1, hc, evExt, st, c2, wr, s3]
  simp [s5, ← hH2, ← hq, ← hH1, hl1, he]
  exact fin H5 _ (by rw [hH5]; exact kp3.trans (Keep.set _ _ _)) (by rw [hw, hH5]; exact zYaV hp3 _) (by rw [hH5, List.getElem?_set_ne hpq]; exact hq3) (by rw [hH5, List.getElem?_set_ne hpq1]; exact hd3) (by simp [he]) (by simp [g0]) (by simp [he]) (by simp [he])
 ·rw [hB] at hc
  have c3 := vZ5 hp3
  by_cases hm : many ≥ 8192
  ·have hw : whyC s many = 3 := by unfold whyC; rw [hB]; simp [hm]
   have hm' : (8192 : Int) < (many : Int) + 1 := by omega
   have s5 := vZo (off := 3) (x := .int .i64 3) hp3 (by simp) ⟨rfl, rfl⟩
   simp only [List.set_cons_succ, List.set_cons_zero] at s5
   obtain ⟨H5, hH5⟩ : ∃ H5, H5 = H3.set p (.cells (rdC left k (many + 1) 3)) := ⟨_, rfl⟩
   rw [← hH5] at s5
   simp [zZm.c, zZm.r0, zZm.r1, zZm.r2, zZm.r3, zZm.r5, zZm.r6, evNilchk, V.isCell, g0, g1, he, ← hq, ← hH1, hl1, hc, evExt, st, c2, wr, s3, c3, hm', s5]
   exact fin H5 _ (by rw [hH5]; exact kp3.trans (Keep.set _ _ _)) (by rw [hw, hH5]; exact zYaV hp3 _) (by rw [hH5, List.getElem?_set_ne hpq]; exact hq3) (by rw [hH5, List.getElem?_set_ne hpq1]; exact hd3) (by simp [he]) (by simp [g0]) (by simp [he]) (by simp [he])
  ·have hw : whyC s many = 0 := by unfold whyC; rw [hB]; simp [hm]
   have hm' : ¬ (8192 : Int) < (many : Int) + 1 := by omega
   simp [zZm.c, zZm.r0, zZm.r1, zZm.r2, zZm.r3, zZm.r5, evNilchk, V.isCell, g0, g1, he, ← hq, ← hH1, hl1, hc, evExt, st, c2, wr, s3, c3, hm']
   exact fin H3 _ kp3 (by rw [hw]; exact hp3) hq3 hd3 (by simp [he]) (by simp [g0]) (by simp [he]) (by simp [he])
open Go Go.Ev
theorem plainC (l : List Cmd) : plainR 12 (l.map cC) := plainR.map (enc := cC) (fun _ => rfl) (fun _ => rfl) (fun _ => rfl) l
theorem bsC (H : Heap) (c : Cmd) : evBslice H z12 1 12 [(0, .agg (cC c))] = some (.sl H.length 0 0 1, H ++ [.row 12 [cC c] 0 true]) := by
 have hcc : (V.agg (cC c)).cells = cC c := rfl
 have hall : (cC c).all V.isCell = true := rfl
 simp only [evBslice, List.map_cons, List.map_nil, placeParts, hcc, hall]
 simp [setRange, chunks, qZ5]
theorem VL.addC {H : Heap} {v : V} {o : Option Nat} {l : List Cmd} (hs : VL H 12 v o (l.map cC)) (c : Cmd) (hr : l.length + 1 ≤ 2 ^ 38) :
  ∃ v' o' H2, evApp (H ++ [.row 12 [cC c] 0 true]) 12 160 v (.sl H.length 0 0 1) = some (v', H2) ∧ VL H2 12 v' o' ((l ++ [c]).map cC) ∧ H.length ≤ H2.length ∧ (∀ j, j < H.length → o ≠ some j → H2[j]? = H[j]?) ∧ ∀ id, o' = some id → o = some id ∨ H.length ≤ id := by
 obtain ⟨v', o', H2, h1, h2, h3, h4, h5⟩ := (hs.push [.row 12 [cC c] 0 true]).app (by_ := 160) (es := [cC c]) (plainC [c]) (q := .sl H.length 0 0 1) (by simp [elemsOf]) (by simp [roomB]; omega)
 simp only [List.length_append, List.length_cons, List.length_nil] at h3 h4 h5
 refine ⟨v', o', H2, h1, by simpa using h2, by omega, fun j hj hne => ?_, fun id hid => (h5 id hid).imp (fun h => h) fun h => by omega⟩
 rw [h4 j (by omega) hne, List.getElem?_append_left hj]
theorem VL.keep {H H' : Heap} {p sz : Nat} {v : V} {o : Option Nat} {xs : List (List V)} (h : VL H sz v o xs) (hk : Keep p H H') (hp : o ≠ some p) : VL H' sz v o xs := h.mono fun id hid => hk.2 id (h.lt hid) fun e => hp (by rw [hid, e])
def Subs (H : Heap) : List V → List (Option Nat) → List (List Cmd) → Prop
 | [], [], [] => True
 | e :: es, o :: os, p :: ps => VL H 12 e o (p.map cC) ∧ (∀ o' ∈ os, Apart o o') ∧ Subs H es os ps
 | _, _, _ => False
theorem Subs.mono {H H' : Heap} : ∀ {es : List V} {os : List (Option Nat)} {ps : List (List Cmd)}, Subs H es os ps → (∀ id, some id ∈ os → H'[id]? = H[id]?) → Subs H' es os ps
 | [], [], [], _, _ => trivial
 | e :: es, o :: os, p :: ps, ⟨h1, h2, h3⟩, hh => ⟨h1.mono fun id hid => hh id (by simp [hid]), h2, h3.mono fun id hid => hh id (by simp [hid])⟩
 | [], [], _ :: _, h, _ => h.elim
 | [], _ :: _, _, h, _ => h.elim
 | _ :: _, [], _, h, _ => h.elim
 | _ :: _, _ :: _, [], h, _ => h.elim
theorem Subs.snoc {H : Heap} {e : V} {o : Option Nat} {p : List Cmd} (hv : VL H 12 e o (p.map cC)) : ∀ {es : List V} {os : List (Option Nat)} {ps : List (List Cmd)}, Subs H es os ps → (∀ o' ∈ os, Apart o' o) → Subs H (es ++ [e]) (os ++ [o]) (ps ++ [p])
 | [], [], [], _, _ => ⟨hv, by simp, trivial⟩
 | e1 :: es, o1 :: os, p1 :: ps, ⟨h1, h2, h3⟩, hh => ⟨h1, fun o' ho' => by
   rcases List.mem_append.1 ho' with ho' | ho'
   ·exact h2 o' ho'
   ·rw [List.mem_singleton.1 ho']; exact hh o1 (by simp), h3.snoc hv fun o' ho' => hh o' (by simp [ho'])⟩
 | [], [], _ :: _, h, _ => h.elim
 | [], _ :: _, _, h, _ => h.elim
 | _ :: _, [], _, h, _ => h.elim
 | _ :: _, _ :: _, [], h, _ => h.elim
theorem Subs.len {H : Heap} : ∀ {es : List V} {os : List (Option Nat)} {ps : List (List Cmd)}, Subs H es os ps → es.length = ps.length ∧ os.length = ps.length
 | [], [], [], _ => ⟨rfl, rfl⟩
 | _ :: _, _ :: _, _ :: _, ⟨_, _, h⟩ => by have := h.len; simp [this]
 | [], [], _ :: _, h => h.elim
 | [], _ :: _, _, h => h.elim
 | _ :: _, [], _, h => h.elim
 | _ :: _, _ :: _, [], h => h.elim
theorem Subs.lt {H : Heap} {id : Nat} : ∀ {es : List V} {os : List (Option Nat)} {ps : List (List Cmd)}, Subs H es os ps → some id ∈ os → id < H.length
 | [], [], [], _, h => by cases h
 | _ :: _, _ :: _, _ :: _, ⟨h1, _, h3⟩, h => by
  rcases List.mem_cons.1 h with h | h
  ·exact h1.lt h.symm
  ·exact h3.lt h
 | [], [], _ :: _, h, _ => h.elim
 | [], _ :: _, _, h, _ => h.elim
 | _ :: _, [], _, h, _ => h.elim
 | _ :: _, _ :: _, [], h, _ => h.elim
theorem Subs.fz {d : Nat} : ∀ {H : Heap} {es : List V} {os : List (Option Nat)} {ps : List (List Cmd)}, Subs H es os ps → ∃ H', mapH (mapH (fz (d + 2))) H (es.map fun e => [e]) = some (ps.map cP, H') ∧ H.length = H'.length ∧ ∀ j, some j ∉ os → H'[j]? = H[j]?
 | H, [], [], [], _ => ⟨H, rfl, rfl, fun _ _ => rfl⟩
 | H, e :: es, o :: os, p :: ps, ⟨h1, h2, h3⟩ => by
  obtain ⟨H1, f1, l1, k1⟩ := h1.fz (d := d)
  obtain ⟨H2, f2, l2, k2⟩ := (h3.mono (H' := H1) fun id hid => k1 id fun e => h2 (some id) hid id e rfl).fz (d := d)
  refine ⟨H2, ?_, by omega, fun j hj => ?_⟩
  ·simp only [List.map_cons, mapH, f1, f2]
  ·simp only [List.mem_cons, not_or] at hj
   rw [k2 j hj.2, k1 j (fun e => hj.1 e.symm)]
 | _, [], [], _ :: _, h => h.elim
 | _, [], _ :: _, _, h => h.elim
 | _, _ :: _, [], _, h => h.elim
 | _, _ :: _, _ :: _, [], h => h.elim
def VP (H : Heap) (v : V) (o : Option Nat) (os : List (Option Nat)) (ps : List (List Cmd)) : Prop :=
 (v = .nils ∧ ps = [] ∧ o = none ∧ os = []) ∨ ∃ id ep es, o = some id ∧ v = .sl id ep 0 ps.length ∧ H[id]? = some (.row 1 (es.map fun e => [e]) ep true) ∧ Subs H es os ps ∧ some id ∉ os
theorem VP.nil (H : Heap) : VP H .nils none [] [] := .inl ⟨rfl, rfl, rfl, rfl⟩
theorem VP.lt {H : Heap} {v : V} {o : Option Nat} {os : List (Option Nat)} {ps : List (List Cmd)} (h : VP H v o os ps) : (∀ id, o = some id → id < H.length) ∧ ∀ id, some id ∈ os → id < H.length := by
 rcases h with ⟨rfl, rfl, rfl, rfl⟩ | ⟨id, ep, es, rfl, rfl, hr, hs, hn⟩
 ·exact ⟨fun _ h => (by cases h), fun _ h => (by cases h)⟩
 ·exact ⟨fun i h => by cases h; exact (List.getElem?_eq_some_iff.1 hr).1, fun i h => hs.lt h⟩
theorem VP.mono {H H' : Heap} {v : V} {o : Option Nat} {os : List (Option Nat)} {ps : List (List Cmd)} (h : VP H v o os ps) (hh : ∀ id, (o = some id ∨ some id ∈ os) → H'[id]? = H[id]?) : VP H' v o os ps := by
 rcases h with h | ⟨id, ep, es, ho, hv, hr, hs, hn⟩
 ·exact .inl h
 ·exact .inr ⟨id, ep, es, ho, hv, by rw [hh id (.inl ho)]; exact hr, hs.mono fun i hi => hh i (.inr hi), hn⟩
theorem VP.cell {H : Heap} {v : V} {o : Option Nat} {os : List (Option Nat)} {ps : List (List Cmd)} (h : VP H v o os ps) : v.isCell = true ∧ v.cells = [v] := by
 rcases h with ⟨rfl, _⟩ | ⟨_, _, _, _, rfl, _⟩ <;> exact ⟨rfl, rfl⟩
theorem VP.len {H : Heap} {v : V} {o : Option Nat} {os : List (Option Nat)} {ps : List (List Cmd)} (h : VP H v o os ps) (H2 : Heap) : evLen H2 .l v = some (.int .i64 ps.length, H2) := by
 rcases h with ⟨rfl, rfl, _⟩ | ⟨_, _, _, _, rfl, _⟩ <;> simp [evLen, lenV, qZ0]
theorem VP.add {H : Heap} {v : V} {o : Option Nat} {os : List (Option Nat)} {ps : List (List Cmd)} (h : VP H v o os ps) {e : V} {oe : Option Nat} {p : List Cmd} (he : VL H 12 e oe (p.map cC)) (ha : ∀ o' ∈ os, Apart o' oe) (hoe : ∀ id, o = some id → oe ≠ some id) (hr : ps.length + 1 ≤ 2 ^ 40) :
  ∃ v' o' H2, evApp (H ++ [.row 1 [[e]] 0 true]) 1 24 v (.sl H.length 0 0 1) = some (v', H2) ∧ VP H2 v' o' (os ++ [oe]) (ps ++ [p]) ∧ H.length ≤ H2.length ∧ (∀ j, j < H.length → o ≠ some j → H2[j]? = H[j]?) ∧ ∀ id, o' = some id → o = some id ∨ H.length ≤ id := by
 have hq : elemsOf (H ++ [.row 1 [[e]] 0 true]) (.sl H.length 0 0 1) = some [[e]] := by simp [elemsOf]
 have hsz : szOk 1 [[e]] = true := rfl
 rcases h with ⟨rfl, rfl, rfl, rfl⟩ | ⟨id, ep, es, rfl, rfl, hrw, hs, hn⟩
 ·refine ⟨.sl (H.length + 1) 0 0 1, some (H.length + 1), H ++ [.row 1 [[e]] 0 true] ++ [.row 1 [[e]] 0 true], ?_, .inr ⟨H.length + 1, 0, [e], rfl, rfl, by simp, ⟨he.mono fun id hid => ?_, by simp, trivial⟩, ?_⟩, by simp, fun j hj _ => ?_, fun id hid => by cases hid; right; omega⟩
  ·simp only [evApp, hq, hsz, qZ0, qZ5]
   simp [roomB]
  ·rw [List.append_assoc, List.getElem?_append_left (he.lt hid)]
  ·simp only [List.nil_append, List.mem_singleton]
   intro e2
   have := he.lt e2.symm
   omega
  ·rw [List.append_assoc, List.getElem?_append_left hj]
 ·have hlt := (List.getElem?_eq_some_iff.1 hrw).1
  have hl := hs.len
  have hr2 : (H ++ [.row 1 [[e]] 0 true])[id]? = some (.row 1 (es.map fun e => [e]) ep true) := by rw [List.getElem?_append_left hlt]; exact hrw
  refine ⟨.sl id (ep + 1) 0 (ps.length + 1), some id, (H ++ [Ob.row 1 [[e]] 0 true]).set id (.row 1 ((es ++ [e]).map fun e => [e]) (ep + 1) true), ?_, .inr ⟨id, ep + 1, es ++ [e], rfl, by simp, by rw [List.getElem?_set_self (by simp; omega)], ?_, ?_⟩, by simp, fun j hj hne => ?_, fun i hi => .inl hi⟩
  ·have hl2 : 0 + ps.length = (es.map fun e => [e]).length := by rw [List.length_map, hl.1]; omega
   simp only [evApp, hq, hr2, hsz, qZ0, qZX, true_and, List.length_cons, List.length_nil, and_true]
   rw [if_pos (by unfold roomB; omega), if_pos hl2]
   simp
  ·refine Subs.snoc (he.mono fun i hi => ?_) (hs.mono fun i hi => ?_) ha
   ·rw [List.getElem?_set_ne (fun e2 => hoe id rfl (by rw [hi, e2])), List.getElem?_append_left (he.lt hi)]
   ·rw [List.getElem?_set_ne (fun e2 => hn (by rw [e2]; exact hi)), List.getElem?_append_left (hs.lt hi)]
  ·simp only [List.mem_append, List.mem_singleton, not_or]
   exact ⟨hn, fun e2 => hoe id rfl e2.symm⟩
  ·rw [List.getElem?_set_ne (fun e2 => hne (by rw [e2])), List.getElem?_append_left hj]
theorem VP.fz {d : Nat} {H : Heap} {v : V} {o : Option Nat} {os : List (Option Nat)} {ps : List (List Cmd)} (h : VP H v o os ps) : ∃ H', fz (d + 3) H v = some (.arr (ps.map cP), H') ∧ H.length = H'.length ∧ ∀ j, o ≠ some j → some j ∉ os → H'[j]? = H[j]? := by
 rcases h with ⟨rfl, rfl, rfl, rfl⟩ | ⟨id, ep, es, rfl, rfl, hr, hs, hn⟩
 ·exact ⟨H, rfl, rfl, fun _ _ _ => rfl⟩
 ·have hl := hs.len
  obtain ⟨H2, f2, l2, k2⟩ := (hs.mono (H' := H.set id (.row 1 (es.map fun e => [e]) ep false)) fun i hi => by rw [List.getElem?_set_ne (fun e2 => hn (by rw [e2]; exact hi))]).fz (d := d)
  refine ⟨H2, ?_, by rw [← l2]; simp, fun j hj hj2 => by rw [k2 j hj2, List.getElem?_set_ne (fun e2 => hj (by rw [e2]))]⟩
  show (match H[id]? with
   | some (.row z xs cur _) =>
    if ep = cur ∧ 0 + ps.length ≤ xs.length then
     (mapH (mapH (Go.Ev.fz (d + 2))) (H.set id (.row z xs cur false)) ((xs.drop 0).take ps.length)).map fun (p : List (List V) × Heap) => (V.arr p.1, p.2)
    else none
   | _ => none) = _
  rw [hr]
  simp only [true_and]
  rw [if_pos (by rw [List.length_map, hl.1]; omega), List.drop_zero, List.take_of_length_le (by rw [List.length_map, hl.1]; omega), f2]
  rfl
def mainP (H : Heap) (p : Nat) (left : Bs) (k many : Nat) (r : V) (H' : Heap) : Prop := ∃ (left' : Bs) (k' many' : Nat) (w : Int) (o : Option Nat) (l : List Cmd), H'[p]? = some (.cells (rdC left' k' many' w)) ∧ Keep p H H' ∧ VL H' 12 r o (l.map cC) ∧ (∀ id, o = some id → H.length ≤ id) ∧
 ((w = 0 ∧ ∀ out : Scr, stp ((lns left).2 == []) (lns left).1 3 many k out = ({ out with cmds := out.cmds ++ l }, 0, 0)) ∨ (w ≠ 0 ∧ ∀ out : Scr, stp ((lns left).2 == []) (lns left).1 3 many k out = ({}, w, k')))
theorem whyC_0 {s : Bs} {many : Nat} (h : whyC s many = 0) : command s = some (cmdA s) ∧ ¬ many ≥ 8192 := by
 unfold whyC at h
 rw [command_X]
 cases hB : cmdB s
 ·rw [hB] at h; cases h
 ·rw [hB] at h
  simp only [if_true] at h ⊢
  refine ⟨by first | rfl | trivial, fun hm => ?_⟩
  rw [if_pos hm] at h
  cases h
theorem stp_cmd {fin : Bool} {l : Bs} {ls : List Bs} {st many k : Nat} {out : Scr} (hst : st = 3 ∨ (st = 2 ∧ l ≠ wEnd)) : stp fin (l :: ls) st many k out = if whyC l many = 0 then stp fin ls st (many + 1) (k + 1) (addC st (cmdA l) out) else ({}, whyC l many, k + 1) := by
 have h0 : ¬ st = 0 := by omega
 have h1 : ¬ st = 1 := by omega
 have h2 : ¬ (st = 2 ∧ l = wEnd) := by
  rintro ⟨a, b⟩
  rcases hst with h | h
  ·omega
  ·exact h.2 b
 rw [stp, if_neg h0, if_neg h1, if_neg h2, command_X]
 unfold whyC
 cases hB : cmdB l
 ·rfl
 ·simp only [if_true]
  by_cases hm : many ≥ 8192
  ·rw [if_pos hm, if_pos hm]; rfl
  ·rw [if_neg hm, if_neg hm]; rfl
theorem zYbk (H : Heap) (p : Nat) (left : Bs) (k many : Nat) (hp : H[p]? = some (.cells (rdC left k many 0))) (hz : left.length ≤ 1048576) (hk : k + left.length ≤ 2 ^ 40) (hm : many + left.length ≤ 2 ^ 40) : ∃ r h', callW Φ (.fn (.func zZq.k) [] []) [.ptr p 0] H = some (r, h') ∧ (mainP H p left k many) r h' := by
 obtain ⟨P, hP⟩ : ∃ P : V → Heap → Prop, P = mainP H p left k many := ⟨_, rfl⟩
 suffices hgo : ∃ r h', callW Φ (.fn (.func zZq.k) [] []) [.ptr p 0] H = some (r, h') ∧ P r h' by rw [hP] at hgo; exact hgo
 have hPi : ∀ r h', (mainP H p left k many) r h' → P r h' := fun r h' q => by rw [hP]; exact q
 clear hP
 refine kZY zZq.Φ rfl (Nat.le_of_ble_eq_true rfl) (fun env he h0 => ?_)
 have g0 := h0 0 (by simp)
 change eget env 0 = .ptr p 0 at g0
 clear h0
 simp [zZq.c] at he
 simp [zZq.c, zZq.r0, zZq.r1, g0, he]
 have hpl := (List.getElem?_eq_some_iff.1 hp).1
 obtain ⟨I, hI⟩ : ∃ I : Nat → St → Prop, I = fun n st => ∃ (li : Bs) (ki mi : Nat) (v : V) (o : Option Nat) (l : List Cmd), n = li.length ∧ (eget st.env 0 = .ptr p 0 ∧ eget st.env 3 = v ∧ st.env.length = 32) ∧ st.marks = [] ∧ st.heap[p]? = some (.cells (rdC li ki mi 0)) ∧ Keep p H st.heap ∧ VL st.heap 12 v o (l.map cC) ∧ (∀ id, o = some id → H.length ≤ id) ∧ l.length + li.length ≤ left.length ∧ ki + li.length ≤ k + left.length ∧ mi + li.length ≤ many + left.length ∧ (lns li).2 = (lns left).2 ∧
   ∀ out : Scr, stp ((lns left).2 == []) (lns left).1 3 many k out = stp ((lns left).2 == []) (lns li).1 3 mi ki { out with cmds := out.cmds ++ l } := ⟨_, rfl⟩
 refine kLoop I left.length (by rw [hI]; exact ⟨left, k, many, .nils, none, [], rfl, ⟨by simp [g0], by simp [he], by simpa using he⟩, rfl, hp, .refl _ _, VL.nil _ _, fun _ h => (by cases h), by simp, by omega, by omega, rfl, fun out => by simp⟩) ?_
 rintro n ⟨env, mk, Hh⟩ hst
 rw [hI] at hst
 obtain ⟨li, ki, mi, v, o, l, rfl, ⟨k0, k3, hl⟩, hmk, hpi, hkp, hvl, hfr, hb1, hb2, hb3, hln, hstp⟩ := hst
 simp only at k0 k3 hl hmk hpi hkp hvl
 obtain rfl := hmk
 have c0 := vZ5 hpi
 have e0 : ∀ l : Bs, beqS ⟨l.toArray⟩ ⟨#[]⟩ = (l == []) := fun l => T_beq l []
 simp only [zZq.b10]
 by_cases hli : li = []
 ·have q0 : (li == []) = true := by simpa using hli
  have hend : lns li = ([], []) := by rw [hli]; exact zYbb rfl
  have hf := hPi v Hh ⟨li, ki, mi, 0, o, l, hpi, hkp, hvl, hfr, .inl ⟨rfl, fun out => by
   rw [hstp out, hend]
   have : ((lns left).2 == []) = true := by rw [← hln, hend]; rfl
   rw [this]
   simp [stp]⟩⟩
  simp [zZq.r2, zZq.r11, evNilchk, k0, k3, hl, c0, e0, q0, hf]
 have q0 : (li == []) = false := by simpa using hli
 have hlp : 0 < li.length := List.length_pos_iff.2 hli
 obtain ⟨r1, H1, hcall1, hr1⟩ := zYaW Hh p li ki mi 0 hpi (by omega) (by omega)
 have hop : o ≠ some p := hvl.ne hpi fun _ _ _ _ h => by cases h
 cases hct : cutLine li with
 | none =>
  unfold lineP at hr1
  rw [hct] at hr1
  obtain ⟨rfl, hH1⟩ := hr1
  have hf := hPi .nils H1 ⟨li, ki + 1, mi, 20, none, [], by rw [hH1]; exact zYaV hpi _, by rw [hH1]; exact hkp.trans (Keep.set _ _ _), VL.nil _ _, fun _ h => (by cases h), .inr ⟨by decide, fun out => by
   rw [hstp out, zYbb hct]
   have : ((lns left).2 == []) = false := by rw [← hln, zYbb hct]; exact q0
   rw [this]
   simp [stp]⟩⟩
  simp [zZq.c, zZq.r2, zZq.r3, zZq.r4, zZq.r5, evNilchk, k0, k3, hl, c0, e0, q0, hcall1, evExt, hf]
 | some q =>
  obtain ⟨s, rest⟩ := q
  unfold lineP at hr1
  rw [hct] at hr1
  obtain ⟨rfl, hH1⟩ := hr1
  have hlns := zYbj hct
  obtain ⟨hj, _⟩ := zYaX hct
  have hjl := congrArg List.length hj
  simp only [List.length_append, List.length_cons] at hjl
  have hp1 : H1[p]? = some (.cells (rdC rest (ki + 1) mi 0)) := by rw [hH1]; exact zYaV hpi _
  have hk1 : Keep p H H1 := by rw [hH1]; exact hkp.trans (Keep.set _ _ _)
  have hv1 : VL H1 12 v o (l.map cC) := hvl.keep (p := p) (by rw [hH1]; exact Keep.set _ _ _) hop
  obtain ⟨r2, H2, hcall2, rfl, hp2, hk2⟩ := zYaY H1 p rest s (ki + 1) mi hp1 (by omega) (by omega)
  have hv2 := hv1.keep hk2 hop
  have hk2' := hk1.trans hk2
  have hp2l := (List.getElem?_eq_some_iff.1 hp2).1
  by_cases hw : whyC s mi = 0
  ·have qw : (whyC s mi == 0) = true := by simpa using hw
   rw [qw] at hcall2
   have st := st12 H2 (cmdA s)
   have cl := cl12 H2 (cmdA s) 0
   obtain ⟨H3, hH3⟩ : ∃ H3, H3 = H2 ++ [.cells (cC (cmdA s))] := ⟨_, rfl⟩
   rw [← hH3] at st cl
   have hv3 : VL H3 12 v o (l.map cC) := by rw [hH3]; exact hv2.push _
   have bs := bsC H3 (cmdA s)
   obtain ⟨v4, o4, H4, ha, hv4, hl4, hr4, hn4⟩ := hv3.addC (cmdA s) (by omega)
   have hl3 : H3.length = H2.length + 1 := by rw [hH3]; simp
   have hk3 : Keep p H H3 := by rw [hH3]; exact hk2'.trans (Keep.push p _ _)
   have hp3 : H3[p]? = some (.cells (rdC rest (ki + 1) (mi + 1) 0)) := by rw [hH3, List.getElem?_append_left hp2l, hp2, hw]
   have hp4 : H4[p]? = some (.cells (rdC rest (ki + 1) (mi + 1) 0)) := by rw [hr4 p (by omega) hop, hp3]
   have hk4 : Keep p H H4 := ⟨Nat.le_trans hk3.1 hl4, fun j hj hjp => by
    rw [hr4 j (by have := hk3.1; omega) (fun e => by have := hfr j e; omega)]
    exact hk3.2 j hj hjp⟩
   simp [zZq.r2, zZq.r3, zZq.r4, zZq.r6, zZq.r7, zZq.r9, evNilchk, V.isCell, k0, k3, hl, c0, e0, q0, hcall1, hcall2, evExt, st, cl, ok12, bs, ha]
   refine ⟨rest.length, by omega, ?_⟩
   rw [hI]
   refine ⟨rest, ki + 1, mi + 1, v4, o4, l ++ [cmdA s], rfl, ⟨by simp [k0], by simp [hl], by simp [hl]⟩, rfl, hp4, hk4, hv4, fun id hid => ?_, by simp; omega, by omega, by omega, ?_, fun out => ?_⟩
   ·rcases hn4 id hid with h | h
    ·exact hfr id h
    ·have := hk3.1; omega
   ·rw [← hln, hlns]
   ·rw [hstp out, hlns, stp_cmd (.inl rfl), if_pos hw]
    simp [addC]
  ·have qw : (whyC s mi == 0) = false := by simpa using hw
   rw [qw] at hcall2
   have st := st12 H2 (cmdA s)
   have hf := hPi .nils (H2 ++ [.cells (cC (cmdA s))]) ⟨rest, ki + 1, mi + 1, whyC s mi, none, [], by rw [List.getElem?_append_left hp2l]; exact hp2, hk2'.trans (Keep.push p _ _), VL.nil _ _, fun _ h => (by cases h), .inr ⟨hw, fun out => by
    rw [hstp out, hlns, stp_cmd (.inl rfl), if_neg hw]⟩⟩
   simp [zZq.c, zZq.r2, zZq.r3, zZq.r4, zZq.r6, zZq.r7, zZq.r8, evNilchk, V.isCell, k0, k3, hl, c0, e0, q0, hcall1, hcall2, evExt, st, hf]
end Go.Proofs.Sc
