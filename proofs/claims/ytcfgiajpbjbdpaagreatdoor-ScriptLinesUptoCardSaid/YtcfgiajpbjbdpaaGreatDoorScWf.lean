/- The book's line of a command. A number at the head of a text, by its sign and its digits. No conditions. -/
import Derived.Test.YtcfgiajpbjbdpaaGreatDoorScWd
set_option maxHeartbeats 16000000
set_option maxRecDepth 100000
set_option linter.unusedVariables false
set_option linter.unusedSimpArgs false
set_option linter.unusedSectionVars false
namespace Go.Proofs.Sc
open Go Go.Ev
theorem tail_takeS (l : Bs) (c : Cmd) {i : Nat} {r : UInt8} (h : l[i]? = some r) : tail (l.take (i + 1)) c = tail (l.take i) c ++ [32] ++ wf r c := by
 rw [tail_take l c h]; simp
theorem zYaJ (c : Cmd) (z : SzL c) (H : Heap) : callW Φ zZX [.agg (cC c)] H = some (.tup [T (lineR c).1, .int .i64 (lineR c).2], H) := by
 have : ∃ hh, evBodyW (callW Φ) zZX.c [.agg (cC c)] [] = some (.tup [T (lineR c).1, .int .i64 (lineR c).2], hh) := by
  refine wZg (Nat.le_of_ble_eq_true rfl) (fun env he h0 => ?_)
  have g0 := h0 0 (by simp)
  change eget env 0 = .agg (cC c) at g0
  clear h0
  simp [zZX.c] at he
  have hcc : ∀ c, (V.agg (cC c)).cells = cC c := fun c => rfl
  have b0 : evBox [] (cC c) = some (.ptr 0 0, [.cells (cC c)]) := jZU [] _ (by simp [V.isCell])
  have ok : ∀ c H, okCells H (some 12) (some (cC c)) = some (.agg (cC c), H) := fun c H => rfl
  have hk1 := fun H => wZc c.op z.1 H
  have c0 : ∀ c off, cellsAt [.cells (cC c)] (.ptr 0 off) = some ((cC c).drop off) := fun c off => rfl
  cases hk : known c.op
  ·have hres : lineR c = ([], 23) := by simp [lineR, hk]
   simp [zZX.c, zZX.r0, zZX.r1, zZX.r2, g0, he, hcc, b0, c0, hk1, hk, hres]
  have hpl := fun H => jZC c z.szp H
  have hsp : evStoreV [.cells (cC c)] 12 (.ptr 0 0) (.agg (cC (plain c))) = some (V.non, [.cells (cC (plain c))]) := by
   have hall : (cC (plain c)).all V.isCell = true := rfl
   unfold evStoreV
   rw [hcc, hall]
   simp [evStore, setRange]
  have hsz := fun H => zYaL (plain c) z.plain H
  have hszl := size_line (zYaH c)
  rw [zYap] at hszl
  have hszb : sizeN (plain c) ≤ 2 ^ 40 := by
   obtain ⟨_, _, hb⟩ := z.plain
   unfold bulk at hb
   have := sum3_le (plain c).names
   unfold sizeN
   omega
  by_cases cs : 1048576 < sizeN (plain c)
  ·have hres : lineR c = ([], 4) := by
    unfold lineR
    rw [hk]
    simp only [if_true]
    rw [if_pos (by unfold maxS; omega)]
   have cs' : (1048576 : Int) < ((sizeN (plain c) : Nat) : Int) := by omega
   simp [zZX.c, zZX.r0, zZX.r1, zZX.r3, zZX.r4, zZX.r5, g0, he, hcc, b0, c0, ok, hk1, hk, hpl, hsp, hsz, cs, cs', hres]
  have cs' : ¬ (1048576 : Int) < ((sizeN (plain c) : Nat) : Int) := by omega
  obtain ⟨p, hp⟩ : ∃ p, p = plain c := ⟨_, rfl⟩
  have zp : SzL p := by rw [hp]; exact z.plain
  have hpo : p.op = c.op := by rw [hp]; exact jZM c
  obtain ⟨G, hG⟩ : ∃ G : Heap, G = [.cells (cC p)] := ⟨_, rfl⟩
  have hA0 : AP G none [] (.sl 1 0 0 0) (G ++ [.row 1 [] 0 true]) := ⟨some 1, .inr ⟨1, 0, rfl, rfl, by rw [hG]; rfl, plainB []⟩, by simp, fun j hj _ => List.getElem?_append_left hj, fun id h => by cases h; right; rw [hG]; exact Nat.le_refl _⟩
  have hwl := word_len c.op
  obtain ⟨v1, H1, ha, hA1⟩ := hA0.app (word c.op) (q := T (word c.op)) (by simp only [elemsOf, T_bytes]) (by simp; omega)
  rw [List.nil_append] at hA1
  have hbs0 : evBslice G [.int .u8 0] 0 1 [] = some (.sl 1 0 0 0, G ++ [.row 1 [] 0 true]) := by rw [hG]; rfl
  have cG : ∀ {l2 : Bs} {r : V} {h2 : Heap}, AP G none l2 r h2 → ∀ off, cellsAt h2 (.ptr 0 off) = some ((cC p).drop off) := fun h off => by
   obtain ⟨o1, a1, a2, a3, a4⟩ := h
   exact vZ5 (by rw [a3 0 (by rw [hG]; exact Nat.zero_lt_one) (by simp), hG]; rfl) off
  have cG0 := fun off => cG hA0 off
  have cG1 := fun off => cG hA1 off
  have hw := fun H => wZp c.op z.1 H
  have hfd := fun H => jZf c.op z.1 H
  rw [← hp] at hpl hsp hsz cs cs'
  rw [← hG] at hsp
  have cGG : ∀ off, cellsAt G (.ptr 0 off) = some ((cC p).drop off) := fun off => by rw [hG]; rfl
  have hcp0 : (cC p).drop 0 = cC p := rfl
  simp [zZX.c, zZX.r0, zZX.r1, zZX.r3, zZX.r4, zZX.r6, zZX.r7, zZX.r8, g0, he, hcc, b0, c0, ok, hk1, hk, hpl, hsp, cGG, hsz, cs, cs', hbs0, cG0, hpo, hw, ha, cG1, hfd]
  obtain ⟨fl, hfl⟩ : ∃ fl, fl = flds c.op := ⟨_, rfl⟩
  have hfl10 := flds_len c.op
  rw [← hfl] at hfl10
  rw [← hfl]
  obtain ⟨I, hI⟩ : ∃ I : Nat → St → Prop, I = fun m st => ∃ (i : Nat) (w : V), m = fl.length - i ∧ i ≤ fl.length ∧ (eget st.env 1 = .ptr 0 0 ∧ eget st.env 4 = w ∧ eget st.env 5 = T fl ∧ eget st.env 6 = .int .i64 i ∧ st.env.length = 43) ∧ st.marks = [] ∧ AP G none (word c.op ++ tail (fl.take i) p) w st.heap := ⟨_, rfl⟩
  refine kLoop I fl.length (by rw [hI]; exact ⟨0, v1, rfl, by omega, ⟨by simp [he], by simp [he], by simp [he], by simp [he], by simpa using he⟩, rfl, by simpa [tail] using hA1⟩) ?_
  rintro m ⟨env, mk, Hh⟩ hst
  rw [hI] at hst
  obtain ⟨i, w, rfl, hi, ⟨k1, k4, k5, k6, hl⟩, hm, hAP⟩ := hst
  simp only at k1 k4 k5 k6 hl hm hAP
  obtain rfl := hm
  have htl := tail_take_len zp (fl.take i)
  rw [List.length_take] at htl
  have htl2 : (tail (fl.take i) p).length ≤ 10 * 2 ^ 26 := Nat.le_trans htl (Nat.mul_le_mul_right _ (by omega))
  by_cases c1 : i < fl.length
  ·obtain ⟨r, hr⟩ : ∃ r, fl[i]? = some r := ⟨_, List.getElem?_eq_getElem c1⟩
   have hmem : r ∈ flds c.op := by rw [← hfl]; exact List.mem_of_getElem? hr
   have hlet := (jZ6 c.op).2 r hmem
   have ix := idx_T (h := Hh) (k := .i64) (n := (i : Int)) (by omega) (by simpa using hr)
   have wr := wrap64 (n := (i : Int) + 1) (by omega) (by omega)
   have q32 : (((32 : UInt8).toNat : Nat) : Int) = 32 := rfl
   have hbs := bs1 Hh (.int .u8 0) (.int .u8 32) ⟨rfl, rfl⟩
   have cH := cG hAP
   have cHp := cG (hAP.push [.row 1 [[.int .u8 32]] 0 true])
   obtain ⟨w1, H2, ha2, hA2⟩ := hAP.add [32] (by simp only [List.length_append, List.length_cons, List.length_nil]; omega)
   simp only [List.map_cons, List.map_nil, cB, List.length_cons, List.length_nil, q32] at ha2
   have cH2 := cG hA2
   obtain ⟨o1, a1, a2, a3, a4⟩ := hA2
   obtain ⟨w2, H3, hc, hA3⟩ := zYaA H2 w1 o1 _ p r hlet zp a1 (by simp only [List.length_append, List.length_cons, List.length_nil]; omega)
   have hA4 := AP.trans a2 a3 a4 hA3
   have c1' : (i : Int) < fl.length := by omega
   have key : ∀ (Q : Ex → St → Prop) (env : List V), env.length = 43 → eget env 1 = .ptr 0 0 → eget env 4 = w → eget env 5 = T fl → eget env 6 = .int .i64 i →
     (∀ env2 : List V, env2.length = 43 → eget env2 1 = .ptr 0 0 → eget env2 4 = w2 → eget env2 5 = T fl → eget env2 6 = .int .i64 ((i : Int) + 1) → Q .normal { env := env2, marks := [], heap := H3 }) →
     WK (callW Φ) none Q [It.c (.draw zZX.r10 [[], [], [0, 1], [], [], [], [4, 5], [2, 3, 6, 2], [7, 7, 0, 1, 2, 3, 4, 5, 6, 7]] [0, 4, 5, 6, 8]), It.b 1, It.c (.region zZX.r11)] { env := env, marks := [], heap := Hh } := by
    intro Q env hl k1 k4 k5 k6 hQ
    refine kDrawW zZX.r10.ord ?_
    simp [zZX.r10, zZX.r11, List.filterMap_cons, k1, k4, k5, k6, hl, ix, hbs, ha2, cH, cHp, cH2, ok, hc, wr]
    refine ⟨⟨?_, ?_⟩, ?_⟩
    ·simp only [xZ7, xZ2, List.cons_append, List.nil_append]
     exact xZ6 _ rfl rfl rfl rfl
    ·simp only [xZ7, xZ2, List.cons_append, List.nil_append]
     exact xZ6 _ rfl rfl rfl rfl
    ·exact hQ _ (by simp [hl]) (by simp [k1]) (by simp [hl]) (by simp [k5]) (by simp [hl])
   simp only [zZX.b12]
   simp [zZX.r9, k1, k4, k5, k6, hl, vZm, c1, c1', -FinV]
   refine key _ _ (by simp [hl]) (by simp [k1]) (by simp [k4]) (by simp [k5]) (by simp [k6]) ?_
   intro env2 e0 e1 e4 e5 e6
   refine ⟨fl.length - (i + 1), by omega, ?_⟩
   rw [hI]
   refine ⟨i + 1, w2, rfl, by omega, ⟨e1, e4, e5, by simpa using e6, e0⟩, rfl, ?_⟩
   rw [tail_takeS _ _ hr, ← List.append_assoc, ← List.append_assoc]
   exact hA4
  ·have hie : i = fl.length := by omega
   rw [hie, List.take_length] at hAP htl2
   have c1' : ¬ (i : Int) < fl.length := by omega
   have hlb : word c.op ++ tail fl p = lineB c := by rw [← zYap c, ← hp]; unfold lineB; rw [hpo, hfl]
   rw [hlb] at hAP
   have hll : (lineB c).length ≤ 2 ^ 40 := by rw [← hlb, List.length_append]; omega
   obtain ⟨o1, a1, a2, a3, a4⟩ := hAP
   have hlen := a1.len Hh
   rw [List.length_map] at hlen
   have hcv := xZq a1
   simp only [zZX.b12]
   by_cases cb : 1048576 < (lineB c).length
   ·have cb' : (1048576 : Int) < ((lineB c).length : Nat) := by omega
    have hres : lineR c = ([], 4) := by
     unfold lineR
     rw [hk]
     simp only [if_true]
     rw [if_pos (show (lineB c).length > maxS from cb)]
    simp [zZX.r9, zZX.r13, zZX.r14, k1, k4, k5, k6, hl, vZm, c1, c1', hlen, cb, cb', hres]
   ·have cb' : ¬ (1048576 : Int) < ((lineB c).length : Nat) := by omega
    have hres : lineR c = (lineB c, 0) := by
     unfold lineR
     rw [hk]
     simp only [if_true]
     rw [if_neg (show ¬ (lineB c).length > maxS from cb)]
    simp [zZX.r9, zZX.r13, zZX.r15, k1, k4, k5, k6, hl, vZm, c1, c1', hlen, cb, cb', hcv, hres]
 obtain ⟨h', hb⟩ := this
 exact qZ7 (h := H) zZX.Φ rfl (args := [.agg (cC c)]) rfl hb rfl
open Go Go.Ev
theorem dec_0 : dec 0 = [48] := by rw [dec, if_pos (by omega)]; rfl
theorem dec_head : ∀ (N : Nat), (dec N).head? = some 48 → N = 0 := fun N => by
 induction N using Nat.strongRecOn with
 | _ N ih =>
  intro h
  rw [dec] at h
  split at h
  ·rename_i hn
   simp only [List.head?_cons, Option.some.injEq] at h
   have := congrArg UInt8.toNat h
   rw [toNat_ofNat (by omega)] at this
   have e : (48 : UInt8).toNat = 48 := rfl
   omega
  ·have h2 : (dec (N / 10)).head? = some 48 := by
    cases hd : dec (N / 10) with
    | nil => exact absurd hd (zYaQ _)
    | cons b l => rw [hd] at h; simpa using h
   have := ih (N / 10) (by omega) h2
   omega
theorem ofNat_dig {b : UInt8} (h : dig b = true) : UInt8.ofNat (48 + (b.toNat - 48)) = b := by
 simp only [dig, Bool.and_eq_true, decide_eq_true_eq] at h
 apply UInt8.toNat_inj.1
 rw [toNat_ofNat (by omega)]
 omega
theorem dec_valD : ∀ (n : Nat) (D : Bs), D.length = n → D ≠ [] → (∀ b ∈ D, dig b = true) → (D.head? ≠ some 48 ∨ D.length = 1) → dec (valD D) = D
 | 0, D, hn, h0, _, _ => absurd (List.length_eq_zero_iff.1 hn) h0
 | n + 1, D, hn, h0, hd, hh => by
  obtain ⟨l, b, rfl⟩ : ∃ l b, D = l ++ [b] := ⟨D.dropLast, D.getLast h0, (List.dropLast_concat_getLast h0).symm⟩
  have hb := hd b (by simp)
  have hb2 := hb
  simp only [dig, Bool.and_eq_true, decide_eq_true_eq] at hb2
  rw [zYax]
  by_cases hl : l = []
  ·subst hl
   rw [show valD [] = 0 from rfl, dec, if_pos (by omega)]
   simp only [Nat.mul_zero, Nat.zero_add, List.nil_append, ofNat_dig hb]
  ·have hlen : l.length = n := by simpa using hn
   have hhl : l.head? ≠ some 48 := by
    rcases hh with h | h
    ·cases l with
     | nil => exact absurd rfl hl
     | cons x l => simpa using h
    ·exfalso
     rw [List.length_append, List.length_singleton] at h
     have := List.length_pos_iff.2 hl
     omega
   have ih := dec_valD n l hlen hl (fun x hx => hd x (by simp [hx])) (.inl hhl)
   have hv : valD l ≠ 0 := fun e => by
    rw [e, dec_0] at ih
    exact hhl (by rw [← ih]; rfl)
   rw [dec, if_neg (by omega)]
   have e1 : (10 * valD l + (b.toNat - 48)) / 10 = valD l := by omega
   have e2 : (10 * valD l + (b.toNat - 48)) % 10 = b.toNat - 48 := by omega
   rw [e1, e2, ih, ofNat_dig hb]
theorem zYav {p : UInt8 → Bool} : ∀ (l : Bs) (b : UInt8), (l.drop (l.takeWhile p).length).head? = some b → p b = false
 | [], b, h => by simp at h
 | x :: l, b, h => by
  cases hx : p x
  ·simp only [List.takeWhile_cons, hx, Bool.false_eq_true, if_false, List.length_nil, List.drop_zero, List.head?_cons, Option.some.injEq] at h
   rw [← h]; exact hx
  ·simp only [List.takeWhile_cons, hx, if_true, List.length_cons, List.drop_succ_cons] at h
   exact zYav l b h
theorem tw_drop (p : UInt8 → Bool) : ∀ l : Bs, l.takeWhile p ++ l.drop (l.takeWhile p).length = l
 | [] => rfl
 | x :: l => by
  cases hx : p x
  ·simp [List.takeWhile_cons, hx]
  ·simp only [List.takeWhile_cons, hx, if_true, List.length_cons, List.drop_succ_cons, List.cons_append, tw_drop p l]
def badN (neg : Bool) (D : Bs) : Prop := D = [] ∨ 19 < D.length ∨ (neg = true ∧ 9223372036854775808 < valD D) ∨ (neg = false ∧ 9223372036854775807 < valD D) ∨ (D.head? = some 48 ∧ (1 < D.length ∨ neg = true))
theorem numPre_by {x y : Bs} {neg : Bool} (hx : x = if neg then 45 :: y else y) (hn : neg = false → y.head? ≠ some 45) : numPre x = if neg then 45 :: y.takeWhile dig else y.takeWhile dig := by
 cases neg with
 | true => simp only [if_true] at hx ⊢; rw [hx]; simp [numPre]
 | false =>
  simp only [Bool.false_eq_true, if_false] at hx ⊢
  rw [hx]
  cases y with
  | nil => rfl
  | cons b y =>
   have : b ≠ 45 := fun e => hn rfl (by rw [e]; rfl)
   simp only [numPre, if_neg this]
theorem number_bad {x y : Bs} {neg : Bool} (hx : x = if neg then 45 :: y else y) (hn : neg = false → y.head? ≠ some 45) (hb : badN neg (y.takeWhile dig)) : number x = none := by
 have hp := numPre_by hx hn
 cases h : number x with
 | none => rfl
 | some q =>
  exfalso
  unfold number at h
  split at h
  ·cases h
  ·rename_i v hv
   split at h
   ·rename_i hi
    have hok := atoi_ok hv
    obtain ⟨h1, h2⟩ := hok
    obtain ⟨D, hD⟩ : ∃ D, D = y.takeWhile dig := ⟨_, rfl⟩
    rw [← hD] at hp hb
    have hdd : ∀ b ∈ D, dig b = true := by rw [hD]; exact zYar y
    rw [hp] at hi
    have key : D = dec v.natAbs ∧ (neg = true ↔ v < 0) := by
     unfold itoa at hi
     by_cases hv0 : v < 0
     ·rw [if_pos hv0] at hi
      cases neg with
      | true => simp only [if_true, List.cons.injEq, true_and] at hi; exact ⟨hi.symm, by simp [hv0]⟩
      | false =>
       simp only [Bool.false_eq_true, if_false] at hi
       have := hdd 45 (by rw [← hi]; simp)
       cases this
     ·rw [if_neg hv0] at hi
      cases neg with
      | true =>
       simp only [if_true] at hi
       have := jZV v.natAbs 45 (by rw [hi]; simp)
       cases this
      | false => simp only [Bool.false_eq_true, if_false] at hi; exact ⟨hi.symm, by simp [hv0]⟩
    obtain ⟨k1, k2⟩ := key
    have hval : valD D = v.natAbs := by rw [k1, valD_dec]
    have hlen : D.length ≤ 19 := by rw [k1]; exact dec_len _ 19 (by omega) (by omega)
    rcases hb with hb | hb | ⟨hb1, hb2⟩ | ⟨hb1, hb2⟩ | ⟨hb1, hb2⟩
    ·exact zYaQ _ (k1.symm.trans hb)
    ·omega
    ·omega
    ·have : ¬ v < 0 := fun e => by rw [k2.2 e] at hb1; cases hb1
     omega
    ·have h0 := dec_head _ (by rw [← k1]; exact hb1)
     rcases hb2 with hb2 | hb2
     ·rw [k1, h0, dec_0] at hb2
      simp at hb2
     ·have := k2.1 hb2
      omega
   ·cases h
theorem number_good {x y : Bs} {neg : Bool} (hx : x = if neg then 45 :: y else y) (hn : neg = false → y.head? ≠ some 45) (hb : ¬ badN neg (y.takeWhile dig)) :
  number x = some (if neg then -(valD (y.takeWhile dig) : Int) else (valD (y.takeWhile dig) : Int), y.drop (y.takeWhile dig).length) := by
 obtain ⟨D, hD⟩ : ∃ D, D = y.takeWhile dig := ⟨_, rfl⟩
 rw [← hD] at hb ⊢
 have hdd : ∀ b ∈ D, dig b = true := by rw [hD]; exact zYar y
 have hy : D ++ y.drop D.length = y := by rw [hD]; exact tw_drop dig y
 have hr : ∀ b, (y.drop D.length).head? = some b → dig b = false := fun b h => zYav y b (by rw [← hD]; exact h)
 unfold badN at hb
 have h0 : D ≠ [] := fun e => hb (.inl e)
 have hl : D.head? ≠ some 48 ∨ D.length = 1 := by
  by_cases h : D.head? = some 48
  ·right
   have h1 : ¬ 1 < D.length := fun e => hb (.inr (.inr (.inr (.inr ⟨h, .inl e⟩))))
   have := List.length_pos_iff.2 h0
   omega
  ·exact .inl h
 have hdv := dec_valD _ D rfl h0 hdd hl
 cases neg with
 | true =>
  have hv : ¬ 9223372036854775808 < valD D := fun e => hb (.inr (.inr (.inl ⟨rfl, e⟩)))
  have hv0 : valD D ≠ 0 := fun e => by
   rw [e, dec_0] at hdv
   exact hb (.inr (.inr (.inr (.inr ⟨by rw [← hdv]; rfl, .inr rfl⟩))))
  have hi : itoa (-(valD D : Int)) = 45 :: D := by
   unfold itoa
   rw [if_pos (by omega), show (-(valD D : Int)).natAbs = valD D by omega, hdv]
  have hxx : x = itoa (-(valD D : Int)) ++ y.drop D.length := by rw [hx, hi, if_pos rfl, List.cons_append, hy]
  rw [hxx, kZg ⟨by omega, by omega⟩ hr]
  rfl
 | false =>
  have hv : ¬ 9223372036854775807 < valD D := fun e => hb (.inr (.inr (.inr (.inl ⟨rfl, e⟩))))
  have hi : itoa (valD D : Int) = D := by
   unfold itoa
   rw [if_neg (by omega), show (valD D : Int).natAbs = valD D by omega, hdv]
  have hxx : x = itoa (valD D : Int) ++ y.drop D.length := by rw [hx, hi, if_neg (by simp), hy]
  rw [hxx, kZg ⟨by omega, by omega⟩ hr]
  rfl
theorem valD_lt : ∀ (n : Nat) (D : Bs), D.length = n → (∀ b ∈ D, dig b = true) → valD D < 10 ^ n
 | 0, D, hn, _ => by rw [List.length_eq_zero_iff.1 hn]; decide
 | n + 1, D, hn, hd => by
  have h0 : D ≠ [] := fun e => by rw [e] at hn; cases hn
  obtain ⟨l, b, rfl⟩ : ∃ l b, D = l ++ [b] := ⟨D.dropLast, D.getLast h0, (List.dropLast_concat_getLast h0).symm⟩
  have hb := hd b (by simp)
  simp only [dig, Bool.and_eq_true, decide_eq_true_eq] at hb
  have ih := valD_lt n l (by simpa using hn) (fun x hx => hd x (by simp [hx]))
  rw [zYax, Nat.pow_succ]
  omega
def en {α : Type} (s : Bs) (a : Nat) (o : Option (α × Bs)) : Nat := match o with
 | some (_, r) => s.length - r.length
 | none => a
end Go.Proofs.Sc
